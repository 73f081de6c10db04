/-
  DERIVED. GIVEN WITH THE SEED: THE CARDS: each row of YtimbdjmplcgilaaDoorRows.lean that lists a variable, with what it lists TIED to the program's text (the seventh form; the later family's looks); each row that meets fmt, with fmt's text TOLD by the authors' own Lean function (tested against real Go, not proved from fmt's source: count such statements apart). THE CARD IS WHAT COUNTS. Prove the row's statement (the work); the ties are given (YtimbdjmplcgilaaDoorTie.lean); close each card by the builder's one call (the guide's Derived/Test/ToyasCard.lean, 'card_holds'). Laid BY PROGRAM, IN A SANDBOX (cutbox-door.mjs). By AI agents, Wed Nov 11 2026. No macro, syntax, notation, axiom, sorry.
-/
import Derived.Test.YtimbdjmplcgilaaDoorRows
import GoSem.ClaimSeven
namespace Go.Proofs.YtimbdjmplcgilaaDoor
namespace Rows

/-- THE TIED CARD OF 'latchgarthlaw1.ScSays'. -/
def scSaysCard : Claim7 := { stood := { row := scSaysRow, standIns := [], harness := (true, "56410bccb8f3db7b50eb0f112c21b6a91c930272e850c48de3cc6652d53ddee8"), looks := true }, kinds := [], alts := [], laidByText := true, laidKinds := [.handle], laidTests := true, laidLooks := .later }
def ScSaysCardSaid : Prop := Claim7.holds Tryd.pinned (.plain (OpenSpec.ofChange scSaysSpec)) scSaysCard

/-- THE TIED CARD OF 'latchgarthlaw1.TsoSays'. -/
def tsoSaysCard : Claim7 := { stood := { row := tsoSaysRow, standIns := [], harness := (true, "56410bccb8f3db7b50eb0f112c21b6a91c930272e850c48de3cc6652d53ddee8"), looks := true }, kinds := [], alts := [], laidByText := true, laidKinds := [.handle], laidTests := true, laidLooks := .later }
def TsoSaysCardSaid : Prop := Claim7.holds Tryd.pinned (.plain (OpenSpec.ofChange tsoSaysSpec)) tsoSaysCard

/-- THE SECOND FORM's CARD OF 'latchgarthlaw1.ScSays'. -/
def scSaysUptoCard : Claim7 := { stood := { row := scSaysUptoRow, standIns := [], harness := (true, "56410bccb8f3db7b50eb0f112c21b6a91c930272e850c48de3cc6652d53ddee8"), looks := true }, kinds := [], alts := [], laidByText := true, laidKinds := [.handle], laidTests := true, laidLooks := .later }
def ScSaysUptoCardSaid : Prop := Claim7.holds Tryd.pinned (.plain (OpenSpec.upto scSaysSpec)) scSaysUptoCard

/-- THE SECOND FORM's CARD OF 'latchgarthlaw1.TsoSays'. -/
def tsoSaysUptoCard : Claim7 := { stood := { row := tsoSaysUptoRow, standIns := [], harness := (true, "56410bccb8f3db7b50eb0f112c21b6a91c930272e850c48de3cc6652d53ddee8"), looks := true }, kinds := [], alts := [], laidByText := true, laidKinds := [.handle], laidTests := true, laidLooks := .later }
def TsoSaysUptoCardSaid : Prop := Claim7.holds Tryd.pinned (.plain (OpenSpec.upto tsoSaysSpec)) tsoSaysUptoCard
end Rows
end Go.Proofs.YtimbdjmplcgilaaDoor
