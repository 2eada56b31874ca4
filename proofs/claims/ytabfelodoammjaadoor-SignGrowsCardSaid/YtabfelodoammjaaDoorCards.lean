/-
  DERIVED. GIVEN WITH THE SEED: THE CARDS: each row of YtabfelodoammjaaDoorRows.lean that lists a variable, with what it lists TIED to the program's text (the seventh form; the later family's looks); each row that meets fmt, with fmt's text TOLD by the authors' own Lean function (tested against real Go, not proved from fmt's source: count such statements apart). THE CARD IS WHAT COUNTS. Prove the row's statement (the work); the ties are given (YtabfelodoammjaaDoorTie.lean); close each card by the builder's one call (the guide's Derived/Test/ToyasCard.lean, 'card_holds'). Laid BY PROGRAM, IN A SANDBOX (cutbox-door.mjs). By AI agents, Wed Nov 11 2026. No macro, syntax, notation, axiom, sorry.
-/
import Derived.Test.YtabfelodoammjaaDoorRows
import GoSem.ClaimSeven
namespace Go.Proofs.YtabfelodoammjaaDoor
namespace Rows

/-- THE TIED CARD OF 'namesakelaw05.SignWords'. -/
def signWordsCard : Claim7 := { stood := { row := signWordsRow, standIns := [], harness := (true, "c6cc93e34ee825f1421e63a30ef4fba65944dd6e4c69b386cd3d544ddb0c3f41"), looks := true }, kinds := [], alts := [], laidByText := true, laidKinds := [.data, .data, .data, .sentinel, .sentinel, .widerDeep], laidTests := true, laidLooks := .later }
def SignWordsCardSaid : Prop := Claim7.holds Tryd.pinned (.plain (OpenSpec.ofChange signWordsSpec)) signWordsCard

/-- THE TIED CARD OF 'namesakelaw05.SignBytes'. -/
def signBytesCard : Claim7 := { stood := { row := signBytesRow, standIns := [], harness := (true, "c6cc93e34ee825f1421e63a30ef4fba65944dd6e4c69b386cd3d544ddb0c3f41"), looks := true }, kinds := [], alts := [], laidByText := true, laidKinds := [.data, .data, .data, .sentinel, .sentinel, .widerDeep], laidTests := true, laidLooks := .later }
def SignBytesCardSaid : Prop := Claim7.holds Tryd.pinned (.plain (OpenSpec.ofChange signBytesSpec)) signBytesCard

/-- THE TIED CARD OF 'namesakelaw05.SignGrows'. -/
def signGrowsCard : Claim7 := { stood := { row := signGrowsRow, standIns := [], harness := (true, "c6cc93e34ee825f1421e63a30ef4fba65944dd6e4c69b386cd3d544ddb0c3f41"), looks := true }, kinds := [], alts := [], laidByText := true, laidKinds := [.data, .data, .data, .sentinel, .sentinel, .widerDeep], laidTests := true, laidLooks := .later }
def SignGrowsCardSaid : Prop := Claim7.holds Tryd.pinned (.plain (OpenSpec.ofChange signGrowsSpec)) signGrowsCard

/-- THE SECOND FORM's CARD OF 'namesakelaw05.SignWords'. -/
def signWordsUptoCard : Claim7 := { stood := { row := signWordsUptoRow, standIns := [], harness := (true, "c6cc93e34ee825f1421e63a30ef4fba65944dd6e4c69b386cd3d544ddb0c3f41"), looks := true }, kinds := [], alts := [], laidByText := true, laidKinds := [.data, .data, .data, .sentinel, .sentinel, .widerDeep], laidTests := true, laidLooks := .later }
def SignWordsUptoCardSaid : Prop := Claim7.holds Tryd.pinned (.plain (OpenSpec.upto signWordsSpec)) signWordsUptoCard

/-- THE SECOND FORM's CARD OF 'namesakelaw05.SignBytes'. -/
def signBytesUptoCard : Claim7 := { stood := { row := signBytesUptoRow, standIns := [], harness := (true, "c6cc93e34ee825f1421e63a30ef4fba65944dd6e4c69b386cd3d544ddb0c3f41"), looks := true }, kinds := [], alts := [], laidByText := true, laidKinds := [.data, .data, .data, .sentinel, .sentinel, .widerDeep], laidTests := true, laidLooks := .later }
def SignBytesUptoCardSaid : Prop := Claim7.holds Tryd.pinned (.plain (OpenSpec.upto signBytesSpec)) signBytesUptoCard

/-- THE SECOND FORM's CARD OF 'namesakelaw05.SignGrows'. -/
def signGrowsUptoCard : Claim7 := { stood := { row := signGrowsUptoRow, standIns := [], harness := (true, "c6cc93e34ee825f1421e63a30ef4fba65944dd6e4c69b386cd3d544ddb0c3f41"), looks := true }, kinds := [], alts := [], laidByText := true, laidKinds := [.data, .data, .data, .sentinel, .sentinel, .widerDeep], laidTests := true, laidLooks := .later }
def SignGrowsUptoCardSaid : Prop := Claim7.holds Tryd.pinned (.plain (OpenSpec.upto signGrowsSpec)) signGrowsUptoCard
end Rows
end Go.Proofs.YtabfelodoammjaaDoor
