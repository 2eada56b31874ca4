/-
  DERIVED. GIVEN WITH THE SEED: THE CARDS: each row of YteffbibilpbhjaaDoorRows.lean that lists a variable, with what it lists TIED to the program's text (the seventh form; the later family's looks); each row that meets fmt, with fmt's text TOLD by the authors' own Lean function (tested against real Go, not proved from fmt's source: count such statements apart). THE CARD IS WHAT COUNTS. Prove the row's statement (the work); the ties are given (YteffbibilpbhjaaDoorTie.lean); close each card by the builder's one call (the guide's Derived/Test/ToyasCard.lean, 'card_holds'). Laid BY PROGRAM, IN A SANDBOX (cutbox-door.mjs). By AI agents, Wed Nov 11 2026. No macro, syntax, notation, axiom, sorry.
-/
import Derived.Test.YteffbibilpbhjaaDoorRows
import GoSem.ClaimSeven
namespace Go.Proofs.YteffbibilpbhjaaDoor
namespace Rows

/-- THE TIED CARD OF 'namesakelaw06.LexTokens'. -/
def lexTokensCard : Claim7 := { stood := { row := lexTokensRow, standIns := [], harness := (true, "3842b8f4467f4f449a1317ea975b6cc53dbb619069c12e874662c6e1743210b0"), looks := true }, kinds := [], alts := [], laidByText := true, laidKinds := [.data, .data, .data, .sentinel, .sentinel, .widerDeep], laidTests := true, laidLooks := .later }
def LexTokensCardSaid : Prop := Claim7.holds Tryd.pinned (.plain (OpenSpec.ofChange lexTokensSpec)) lexTokensCard

/-- THE TIED CARD OF 'namesakelaw06.LexNames'. -/
def lexNamesCard : Claim7 := { stood := { row := lexNamesRow, standIns := [], harness := (true, "3842b8f4467f4f449a1317ea975b6cc53dbb619069c12e874662c6e1743210b0"), looks := true }, kinds := [], alts := [], laidByText := true, laidKinds := [.data, .data, .data, .sentinel, .sentinel, .widerDeep], laidTests := true, laidLooks := .later }
def LexNamesCardSaid : Prop := Claim7.holds Tryd.pinned (.plain (OpenSpec.ofChange lexNamesSpec)) lexNamesCard

/-- THE TIED CARD OF 'namesakelaw06.LexReals'. -/
def lexRealsCard : Claim7 := { stood := { row := lexRealsRow, standIns := [], harness := (true, "3842b8f4467f4f449a1317ea975b6cc53dbb619069c12e874662c6e1743210b0"), looks := true }, kinds := [], alts := [], laidByText := true, laidKinds := [.data, .data, .data, .sentinel, .sentinel, .widerDeep], laidTests := true, laidLooks := .later }
def LexRealsCardSaid : Prop := Claim7.holds Tryd.pinned (.plain (OpenSpec.ofChange lexRealsSpec)) lexRealsCard

/-- THE TIED CARD OF 'namesakelaw06.LexTexts'. -/
def lexTextsCard : Claim7 := { stood := { row := lexTextsRow, standIns := [], harness := (true, "3842b8f4467f4f449a1317ea975b6cc53dbb619069c12e874662c6e1743210b0"), looks := true }, kinds := [], alts := [], laidByText := true, laidKinds := [.data, .data, .data, .sentinel, .sentinel, .widerDeep], laidTests := true, laidLooks := .later }
def LexTextsCardSaid : Prop := Claim7.holds Tryd.pinned (.plain (OpenSpec.ofChange lexTextsSpec)) lexTextsCard

/-- THE TIED CARD OF 'namesakelaw06.LexTiles'. -/
def lexTilesCard : Claim7 := { stood := { row := lexTilesRow, standIns := [], harness := (true, "3842b8f4467f4f449a1317ea975b6cc53dbb619069c12e874662c6e1743210b0"), looks := true }, kinds := [], alts := [], laidByText := true, laidKinds := [.data, .data, .data, .sentinel, .sentinel, .widerDeep], laidTests := true, laidLooks := .later }
def LexTilesCardSaid : Prop := Claim7.holds Tryd.pinned (.plain (OpenSpec.ofChange lexTilesSpec)) lexTilesCard

/-- THE SECOND FORM's CARD OF 'namesakelaw06.LexTokens'. -/
def lexTokensUptoCard : Claim7 := { stood := { row := lexTokensUptoRow, standIns := [], harness := (true, "3842b8f4467f4f449a1317ea975b6cc53dbb619069c12e874662c6e1743210b0"), looks := true }, kinds := [], alts := [], laidByText := true, laidKinds := [.data, .data, .data, .sentinel, .sentinel, .widerDeep], laidTests := true, laidLooks := .later }
def LexTokensUptoCardSaid : Prop := Claim7.holds Tryd.pinned (.plain (OpenSpec.upto lexTokensSpec)) lexTokensUptoCard

/-- THE SECOND FORM's CARD OF 'namesakelaw06.LexNames'. -/
def lexNamesUptoCard : Claim7 := { stood := { row := lexNamesUptoRow, standIns := [], harness := (true, "3842b8f4467f4f449a1317ea975b6cc53dbb619069c12e874662c6e1743210b0"), looks := true }, kinds := [], alts := [], laidByText := true, laidKinds := [.data, .data, .data, .sentinel, .sentinel, .widerDeep], laidTests := true, laidLooks := .later }
def LexNamesUptoCardSaid : Prop := Claim7.holds Tryd.pinned (.plain (OpenSpec.upto lexNamesSpec)) lexNamesUptoCard

/-- THE SECOND FORM's CARD OF 'namesakelaw06.LexReals'. -/
def lexRealsUptoCard : Claim7 := { stood := { row := lexRealsUptoRow, standIns := [], harness := (true, "3842b8f4467f4f449a1317ea975b6cc53dbb619069c12e874662c6e1743210b0"), looks := true }, kinds := [], alts := [], laidByText := true, laidKinds := [.data, .data, .data, .sentinel, .sentinel, .widerDeep], laidTests := true, laidLooks := .later }
def LexRealsUptoCardSaid : Prop := Claim7.holds Tryd.pinned (.plain (OpenSpec.upto lexRealsSpec)) lexRealsUptoCard

/-- THE SECOND FORM's CARD OF 'namesakelaw06.LexTexts'. -/
def lexTextsUptoCard : Claim7 := { stood := { row := lexTextsUptoRow, standIns := [], harness := (true, "3842b8f4467f4f449a1317ea975b6cc53dbb619069c12e874662c6e1743210b0"), looks := true }, kinds := [], alts := [], laidByText := true, laidKinds := [.data, .data, .data, .sentinel, .sentinel, .widerDeep], laidTests := true, laidLooks := .later }
def LexTextsUptoCardSaid : Prop := Claim7.holds Tryd.pinned (.plain (OpenSpec.upto lexTextsSpec)) lexTextsUptoCard

/-- THE SECOND FORM's CARD OF 'namesakelaw06.LexTiles'. -/
def lexTilesUptoCard : Claim7 := { stood := { row := lexTilesUptoRow, standIns := [], harness := (true, "3842b8f4467f4f449a1317ea975b6cc53dbb619069c12e874662c6e1743210b0"), looks := true }, kinds := [], alts := [], laidByText := true, laidKinds := [.data, .data, .data, .sentinel, .sentinel, .widerDeep], laidTests := true, laidLooks := .later }
def LexTilesUptoCardSaid : Prop := Claim7.holds Tryd.pinned (.plain (OpenSpec.upto lexTilesSpec)) lexTilesUptoCard
end Rows
end Go.Proofs.YteffbibilpbhjaaDoor
