/-
  DERIVED. GIVEN WITH THE SEED: THE CARDS: each row of YtkddmngbfncocaaDoorRows.lean that lists a variable, with what it lists TIED to the program's text (the seventh form; the later family's looks); each row that meets fmt, with fmt's text TOLD by the authors' own Lean function (tested against real Go, not proved from fmt's source: count such statements apart). THE CARD IS WHAT COUNTS. Prove the row's statement (the work); the ties are given (YtkddmngbfncocaaDoorTie.lean); close each card by the builder's one call (the guide's Derived/Test/ToyasCard.lean, 'card_holds'). Laid BY PROGRAM, IN A SANDBOX (cutbox-door.mjs). By AI agents, Wed Nov 11 2026. No macro, syntax, notation, axiom, sorry.
-/
import Derived.Test.YtkddmngbfncocaaDoorRows
import GoSem.ClaimSeven
namespace Go.Proofs.YtkddmngbfncocaaDoor
namespace Rows

/-- THE TIED CARD OF 'laws.FnExactCountParts'. -/
def fnExactCountPartsCard : Claim7 := { stood := { row := fnExactCountPartsRow, standIns := [], harness := (true, "ec5eb17ef33bec58b6abf43bd0bdbde82f3223ecc3971a5ccd59e49d4bfe79aa"), looks := false }, kinds := [], alts := [], laidByText := true, laidKinds := [.data, .data], laidTests := true, laidLooks := .later }
def FnExactCountPartsCardSaid : Prop := Claim7.holds Tryd.pinned (.plain (OpenSpec.ofChange fnExactCountPartsSpec)) fnExactCountPartsCard

/-- THE TIED CARD OF 'laws.FnExactHasCube'. -/
def fnExactHasCubeCard : Claim7 := { stood := { row := fnExactHasCubeRow, standIns := [], harness := (true, "ec5eb17ef33bec58b6abf43bd0bdbde82f3223ecc3971a5ccd59e49d4bfe79aa"), looks := false }, kinds := [], alts := [], laidByText := true, laidKinds := [.data, .data], laidTests := true, laidLooks := .later }
def FnExactHasCubeCardSaid : Prop := Claim7.holds Tryd.pinned (.plain (OpenSpec.ofChange fnExactHasCubeSpec)) fnExactHasCubeCard

/-- THE TIED CARD OF 'laws.FnSequences'. -/
def fnSequencesCard : Claim7 := { stood := { row := fnSequencesRow, standIns := [], harness := (true, "ec5eb17ef33bec58b6abf43bd0bdbde82f3223ecc3971a5ccd59e49d4bfe79aa"), looks := false }, kinds := [], alts := [], laidByText := true, laidKinds := [.data, .data], laidTests := true, laidLooks := .later }
def FnSequencesCardSaid : Prop := Claim7.holds Tryd.pinned (.plain (OpenSpec.ofChange fnSequencesSpec)) fnSequencesCard

/-- THE SECOND FORM's CARD OF 'laws.FnExactCountParts'. -/
def fnExactCountPartsUptoCard : Claim7 := { stood := { row := fnExactCountPartsUptoRow, standIns := [], harness := (true, "ec5eb17ef33bec58b6abf43bd0bdbde82f3223ecc3971a5ccd59e49d4bfe79aa"), looks := false }, kinds := [], alts := [], laidByText := true, laidKinds := [.data, .data], laidTests := true, laidLooks := .later }
def FnExactCountPartsUptoCardSaid : Prop := Claim7.holds Tryd.pinned (.plain (OpenSpec.upto fnExactCountPartsSpec)) fnExactCountPartsUptoCard

/-- THE SECOND FORM's CARD OF 'laws.FnExactHasCube'. -/
def fnExactHasCubeUptoCard : Claim7 := { stood := { row := fnExactHasCubeUptoRow, standIns := [], harness := (true, "ec5eb17ef33bec58b6abf43bd0bdbde82f3223ecc3971a5ccd59e49d4bfe79aa"), looks := false }, kinds := [], alts := [], laidByText := true, laidKinds := [.data, .data], laidTests := true, laidLooks := .later }
def FnExactHasCubeUptoCardSaid : Prop := Claim7.holds Tryd.pinned (.plain (OpenSpec.upto fnExactHasCubeSpec)) fnExactHasCubeUptoCard

/-- THE SECOND FORM's CARD OF 'laws.FnSequences'. -/
def fnSequencesUptoCard : Claim7 := { stood := { row := fnSequencesUptoRow, standIns := [], harness := (true, "ec5eb17ef33bec58b6abf43bd0bdbde82f3223ecc3971a5ccd59e49d4bfe79aa"), looks := false }, kinds := [], alts := [], laidByText := true, laidKinds := [.data, .data], laidTests := true, laidLooks := .later }
def FnSequencesUptoCardSaid : Prop := Claim7.holds Tryd.pinned (.plain (OpenSpec.upto fnSequencesSpec)) fnSequencesUptoCard
end Rows
end Go.Proofs.YtkddmngbfncocaaDoor
