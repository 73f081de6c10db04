/-
  No cell of these rows narrows 'for every input' (looked for: loops, veiled, ifaces, maps, wideKeys, modest, calm, conditions, laid).
  DERIVED. THE GIVEN ROWS OF THIS SEAT. 4 by the template 'for every input the law returns true; each argument reads behind the call as it read before'; 0 by the template 'total and deterministic' (their statements: YtkhgfjfkfkjggaaTotals.lean).
  GIVEN WITH THE SEED: the statements are not yours to turn. If you find one false, say at which input.
  Laid BY PROGRAM, IN A SANDBOX (cutbox-rows.mjs): the forced cells as the released guide's own fill.sh prints them over the translation 7edb4dbea47c66b3… (all of the seat's roots in one cut). By AI agents, Wed Nov 11 2026. No macro, syntax, notation, axiom, sorry.
-/
import Derived.Test.YtkhgfjfkfkjggaaChecked
import GoSem.Claim
import GoSem.ClaimJoined
import GoSem.ClaimMapViews
import Derived.JoinedTies
import Derived.KernelRfl
namespace Go.Proofs.Ytkhgfjfkfkjggaa
/- THE CELL 'sum', in the pinned program and in every row, IS THE sha256 OF THE DUMP (.gsa) THAT YtkhgfjfkfkjggaaProg.lean LOADS. Nothing in Lean hashes anything: it is a label: what it is worth is what the hold of that sum in a sandbox is worth. -/
noncomputable def Try.pinned : Pinned := { name := "ytkhgfjfkfkjggaa", sum := "7edb4dbea47c66b39501332c25ff69b393f731ca38c44b7911c4808349de0531", checked := Try.checked }
namespace Rows
def none {H : Type} : Left H := { results := [], args := [] }

/-- 'latchgarthlaw2.ClhOne': WHATEVER THE INPUT: true; the input reads as it did. -/
def clhOneSpec : ChangeSpec := { name := "clhOne", fn := fun _ => fun
  | [d1, d2] => { results := [.lit (.bool true)], args := [d1, d2] }
  | _ => none }
def clhOneRow : OpenClaim := { program := "ytkhgfjfkfkjggaa", sum := "7edb4dbea47c66b39501332c25ff69b393f731ca38c44b7911c4808349de0531", func := "latchgarth/latchgarthlaw2.ClhOne", spec := "clhOne", apart := false }
def ClhOneSaid : Prop := clhOneRow.holds Try.pinned (OpenSpec.ofChange clhOneSpec)

/-- ITS FALSE NEIGHBOUR: 'it returns false'. Refute it at one input. -/
def clhOneWrong : ChangeSpec := { name := "clhOne", fn := fun _ => fun
  | [d1, d2] => { results := [.lit (.bool false)], args := [d1, d2] }
  | _ => none }
def ClhOneWrongFalsely : Prop := clhOneRow.holds Try.pinned (OpenSpec.ofChange clhOneWrong)

/-- 'latchgarthlaw2.ClhGoes': WHATEVER THE INPUT: true; the input reads as it did. -/
def clhGoesSpec : ChangeSpec := { name := "clhGoes", fn := fun _ => fun
  | [d1, d2] => { results := [.lit (.bool true)], args := [d1, d2] }
  | _ => none }
def clhGoesRow : OpenClaim := { program := "ytkhgfjfkfkjggaa", sum := "7edb4dbea47c66b39501332c25ff69b393f731ca38c44b7911c4808349de0531", func := "latchgarth/latchgarthlaw2.ClhGoes", spec := "clhGoes", apart := false }
def ClhGoesSaid : Prop := clhGoesRow.holds Try.pinned (OpenSpec.ofChange clhGoesSpec)

/-- ITS FALSE NEIGHBOUR: 'it returns false'. Refute it at one input. -/
def clhGoesWrong : ChangeSpec := { name := "clhGoes", fn := fun _ => fun
  | [d1, d2] => { results := [.lit (.bool false)], args := [d1, d2] }
  | _ => none }
def ClhGoesWrongFalsely : Prop := clhGoesRow.holds Try.pinned (OpenSpec.ofChange clhGoesWrong)

/-- 'latchgarthlaw2.ClhFirst': WHATEVER THE INPUT: true; the input reads as it did. -/
def clhFirstSpec : ChangeSpec := { name := "clhFirst", fn := fun _ => fun
  | [d1, d2] => { results := [.lit (.bool true)], args := [d1, d2] }
  | _ => none }
def clhFirstRow : OpenClaim := { program := "ytkhgfjfkfkjggaa", sum := "7edb4dbea47c66b39501332c25ff69b393f731ca38c44b7911c4808349de0531", func := "latchgarth/latchgarthlaw2.ClhFirst", spec := "clhFirst", apart := false }
def ClhFirstSaid : Prop := clhFirstRow.holds Try.pinned (OpenSpec.ofChange clhFirstSpec)

/-- ITS FALSE NEIGHBOUR: 'it returns false'. Refute it at one input. -/
def clhFirstWrong : ChangeSpec := { name := "clhFirst", fn := fun _ => fun
  | [d1, d2] => { results := [.lit (.bool false)], args := [d1, d2] }
  | _ => none }
def ClhFirstWrongFalsely : Prop := clhFirstRow.holds Try.pinned (OpenSpec.ofChange clhFirstWrong)

/-- 'latchgarthlaw2.ClhPlaces': WHATEVER THE INPUT: true; the input reads as it did. -/
def clhPlacesSpec : ChangeSpec := { name := "clhPlaces", fn := fun _ => fun
  | [d1, d2] => { results := [.lit (.bool true)], args := [d1, d2] }
  | _ => none }
def clhPlacesRow : OpenClaim := { program := "ytkhgfjfkfkjggaa", sum := "7edb4dbea47c66b39501332c25ff69b393f731ca38c44b7911c4808349de0531", func := "latchgarth/latchgarthlaw2.ClhPlaces", spec := "clhPlaces", apart := false }
def ClhPlacesSaid : Prop := clhPlacesRow.holds Try.pinned (OpenSpec.ofChange clhPlacesSpec)

/-- ITS FALSE NEIGHBOUR: 'it returns false'. Refute it at one input. -/
def clhPlacesWrong : ChangeSpec := { name := "clhPlaces", fn := fun _ => fun
  | [d1, d2] => { results := [.lit (.bool false)], args := [d1, d2] }
  | _ => none }
def ClhPlacesWrongFalsely : Prop := clhPlacesRow.holds Try.pinned (OpenSpec.ofChange clhPlacesWrong)

/- THE SECOND FORM. 'bulk': how many values and letters a reading holds, each counted each time it is reached (what is shared counts as often as it is met; a slice's spare places count too). A statement '..UptoSaid' is the law's where the arguments, and the package variables that the reading takes, are together of bulk at most 1048576: NARROWER than '..Said'. Prove '..Said' where nothing that the law and all that it calls make is longer than what came in: it says more and counts as full. Else prove '..UptoSaid'. A law counts once. -/
mutual
def uptoBulk {H : Type} : DataW H → Nat
  | .lit (.string bytes) => bytes.length + 1
  | .lit _ => 1
  | .nil => 1
  | .ptr d => uptoBulk d + 1
  | .slice elems spare => uptoBulkAll elems + uptoBulkAll spare + 1
  | .agg parts => uptoBulkAll parts + 1
  | .iface _ d => uptoBulk d + 1
  | .map entries => uptoBulkEntries entries + 1
  | .held _ => 1
def uptoBulkAll {H : Type} : List (DataW H) → Nat
  | [] => 0
  | d :: r => uptoBulk d + uptoBulkAll r
def uptoBulkEntries {H : Type} : List (Lit × DataW H) → Nat
  | [] => 0
  | x :: r => uptoBulkEntry x + uptoBulkEntries r
def uptoBulkEntry {H : Type} : Lit × DataW H → Nat
  | (.string bytes, d) => bytes.length + uptoBulk d + 1
  | (_, d) => uptoBulk d + 1
 end
def uptoSmall : (H : Type) → List (DataW H) → Bool := fun _ ds => decide (uptoBulkAll ds ≤ 1048576)
def OpenSpec.upto (s : _root_.Go.ChangeSpec) : _root_.Go.OpenSpec := { _root_.Go.OpenSpec.ofChange s with cond := some uptoSmall }

/-- 'latchgarthlaw2.ClhOne', WHERE WHAT IT READS IS OF BULK AT MOST 1048576: true; the input reads as it did. -/
def clhOneUptoRow : OpenClaim := { program := "ytkhgfjfkfkjggaa", sum := "7edb4dbea47c66b39501332c25ff69b393f731ca38c44b7911c4808349de0531", func := "latchgarth/latchgarthlaw2.ClhOne", spec := "clhOne", apart := false, narrowed := true }
def ClhOneUptoSaid : Prop := clhOneUptoRow.holds Try.pinned (OpenSpec.upto clhOneSpec)

/-- 'latchgarthlaw2.ClhGoes', WHERE WHAT IT READS IS OF BULK AT MOST 1048576: true; the input reads as it did. -/
def clhGoesUptoRow : OpenClaim := { program := "ytkhgfjfkfkjggaa", sum := "7edb4dbea47c66b39501332c25ff69b393f731ca38c44b7911c4808349de0531", func := "latchgarth/latchgarthlaw2.ClhGoes", spec := "clhGoes", apart := false, narrowed := true }
def ClhGoesUptoSaid : Prop := clhGoesUptoRow.holds Try.pinned (OpenSpec.upto clhGoesSpec)

/-- 'latchgarthlaw2.ClhFirst', WHERE WHAT IT READS IS OF BULK AT MOST 1048576: true; the input reads as it did. -/
def clhFirstUptoRow : OpenClaim := { program := "ytkhgfjfkfkjggaa", sum := "7edb4dbea47c66b39501332c25ff69b393f731ca38c44b7911c4808349de0531", func := "latchgarth/latchgarthlaw2.ClhFirst", spec := "clhFirst", apart := false, narrowed := true }
def ClhFirstUptoSaid : Prop := clhFirstUptoRow.holds Try.pinned (OpenSpec.upto clhFirstSpec)

/-- 'latchgarthlaw2.ClhPlaces', WHERE WHAT IT READS IS OF BULK AT MOST 1048576: true; the input reads as it did. -/
def clhPlacesUptoRow : OpenClaim := { program := "ytkhgfjfkfkjggaa", sum := "7edb4dbea47c66b39501332c25ff69b393f731ca38c44b7911c4808349de0531", func := "latchgarth/latchgarthlaw2.ClhPlaces", spec := "clhPlaces", apart := false, narrowed := true }
def ClhPlacesUptoSaid : Prop := clhPlacesUptoRow.holds Try.pinned (OpenSpec.upto clhPlacesSpec)

end Rows
end Go.Proofs.Ytkhgfjfkfkjggaa
