/-
  DERIVED. GIVEN WITH THE SEED: THE CARDS: each row of YtijcddlahidhhaaDoorRows.lean that lists a variable, with what it lists TIED to the program's text (the seventh form; the later family's looks); each row that meets fmt, with fmt's text TOLD by the authors' own Lean function (tested against real Go, not proved from fmt's source: count such statements apart). THE CARD IS WHAT COUNTS. Prove the row's statement (the work); the ties are given (YtijcddlahidhhaaDoorTie.lean); close each card by the builder's one call (the guide's Derived/Test/ToyasCard.lean, 'card_holds'). Laid BY PROGRAM, IN A SANDBOX (cutbox-door.mjs). By AI agents, Wed Nov 11 2026. No macro, syntax, notation, axiom, sorry.
-/
import Derived.Test.YtijcddlahidhhaaDoorRows
import GoSem.ClaimSeven
namespace Go.Proofs.YtijcddlahidhhaaDoor
namespace Rows

/-- THE TIED CARD OF 'namesakelaw08.CursorDeep'. -/
def cursorDeepCard : Claim7 := { stood := { row := cursorDeepRow, standIns := [], harness := (true, "8c094b0277d616e102a6d2e0e1b40d29fa2e6603ae2a610a722410ad64e58f92"), looks := true }, kinds := [], alts := [], laidByText := true, laidKinds := [.data, .data, .data, .sentinel, .sentinel, .widerDeep], laidTests := true, laidLooks := .later }
def CursorDeepCardSaid : Prop := Claim7.holds Tryd.pinned (.plain (OpenSpec.ofChange cursorDeepSpec)) cursorDeepCard

/-- THE TIED CARD OF 'namesakelaw08.CursorAll'. -/
def cursorAllCard : Claim7 := { stood := { row := cursorAllRow, standIns := [], harness := (true, "8c094b0277d616e102a6d2e0e1b40d29fa2e6603ae2a610a722410ad64e58f92"), looks := true }, kinds := [], alts := [], laidByText := true, laidKinds := [.data, .data, .data, .sentinel, .sentinel, .widerDeep], laidTests := true, laidLooks := .later }
def CursorAllCardSaid : Prop := Claim7.holds Tryd.pinned (.plain (OpenSpec.ofChange cursorAllSpec)) cursorAllCard

/-- THE SECOND FORM's CARD OF 'namesakelaw08.CursorDeep'. -/
def cursorDeepUptoCard : Claim7 := { stood := { row := cursorDeepUptoRow, standIns := [], harness := (true, "8c094b0277d616e102a6d2e0e1b40d29fa2e6603ae2a610a722410ad64e58f92"), looks := true }, kinds := [], alts := [], laidByText := true, laidKinds := [.data, .data, .data, .sentinel, .sentinel, .widerDeep], laidTests := true, laidLooks := .later }
def CursorDeepUptoCardSaid : Prop := Claim7.holds Tryd.pinned (.plain (OpenSpec.upto cursorDeepSpec)) cursorDeepUptoCard

/-- THE SECOND FORM's CARD OF 'namesakelaw08.CursorAll'. -/
def cursorAllUptoCard : Claim7 := { stood := { row := cursorAllUptoRow, standIns := [], harness := (true, "8c094b0277d616e102a6d2e0e1b40d29fa2e6603ae2a610a722410ad64e58f92"), looks := true }, kinds := [], alts := [], laidByText := true, laidKinds := [.data, .data, .data, .sentinel, .sentinel, .widerDeep], laidTests := true, laidLooks := .later }
def CursorAllUptoCardSaid : Prop := Claim7.holds Tryd.pinned (.plain (OpenSpec.upto cursorAllSpec)) cursorAllUptoCard
end Rows
end Go.Proofs.YtijcddlahidhhaaDoor
