/-
  DERIVED. GIVEN WITH THE SEED: THE CARDS: each row of YtllbmjnimfpghaaDoorRows.lean that lists a variable, with what it lists TIED to the program's text (the seventh form; the later family's looks); each row that meets fmt, with fmt's text TOLD by the authors' own Lean function (tested against real Go, not proved from fmt's source: count such statements apart). THE CARD IS WHAT COUNTS. Prove the row's statement (the work); the ties are given (YtllbmjnimfpghaaDoorTie.lean); close each card by the builder's one call (the guide's Derived/Test/ToyasCard.lean, 'card_holds'). Laid BY PROGRAM, IN A SANDBOX (cutbox-door.mjs). By AI agents, Wed Nov 11 2026. No macro, syntax, notation, axiom, sorry.
-/
import Derived.Test.YtllbmjnimfpghaaDoorRows
import GoSem.ClaimSeven
namespace Go.Proofs.YtllbmjnimfpghaaDoor
namespace Rows

/-- THE TIED CARD OF 'latchgarthlaw1.ProgSays'. -/
def progSaysCard : Claim7 := { stood := { row := progSaysRow, standIns := [], harness := (true, "f0f5ab1b93e5a957dde2226bae1f6740a194c1be7e217c9bd9742d30c21c7331"), looks := true }, kinds := [], alts := [], laidByText := true, laidKinds := [.handle], laidTests := true, laidLooks := .later }
def ProgSaysCardSaid : Prop := Claim7.holds Tryd.pinned (.plain (OpenSpec.ofChange progSaysSpec)) progSaysCard

/-- THE SECOND FORM's CARD OF 'latchgarthlaw1.ProgSays'. -/
def progSaysUptoCard : Claim7 := { stood := { row := progSaysUptoRow, standIns := [], harness := (true, "f0f5ab1b93e5a957dde2226bae1f6740a194c1be7e217c9bd9742d30c21c7331"), looks := true }, kinds := [], alts := [], laidByText := true, laidKinds := [.handle], laidTests := true, laidLooks := .later }
def ProgSaysUptoCardSaid : Prop := Claim7.holds Tryd.pinned (.plain (OpenSpec.upto progSaysSpec)) progSaysUptoCard
end Rows
end Go.Proofs.YtllbmjnimfpghaaDoor
