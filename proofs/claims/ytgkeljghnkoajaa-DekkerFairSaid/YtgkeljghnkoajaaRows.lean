/-
  No cell of these rows narrows 'for every input' (looked for: loops, veiled, ifaces, maps, wideKeys, modest, calm, conditions, laid).
  DERIVED. THE GIVEN ROWS OF THIS SEAT. 3 by the template 'for every input the law returns true; each argument reads behind the call as it read before'; 0 by the template 'total and deterministic' (their statements: YtgkeljghnkoajaaTotals.lean).
  GIVEN WITH THE SEED: the statements are not yours to turn. If you find one false, say at which input.
  Laid BY PROGRAM, IN A SANDBOX (cutbox-rows.mjs): the forced cells as the released guide's own fill.sh prints them over the translation 0ae30a7fdb29e097… (all of the seat's roots in one cut). By AI agents, Wed Nov 11 2026. No macro, syntax, notation, axiom, sorry.
-/
import Derived.Test.YtgkeljghnkoajaaChecked
import GoSem.Claim
import GoSem.ClaimJoined
import GoSem.ClaimMapViews
import Derived.JoinedTies
import Derived.KernelRfl
namespace Go.Proofs.Ytgkeljghnkoajaa
/- THE CELL 'sum', in the pinned program and in every row, IS THE sha256 OF THE DUMP (.gsa) THAT YtgkeljghnkoajaaProg.lean LOADS. Nothing in Lean hashes anything: it is a label: what it is worth is what the hold of that sum in a sandbox is worth. -/
noncomputable def Try.pinned : Pinned := { name := "ytgkeljghnkoajaa", sum := "0ae30a7fdb29e0971913c664df5138c99dc59bb442fa1f39c567feeccabc8d5d", checked := Try.checked }
namespace Rows
def none {H : Type} : Left H := { results := [], args := [] }

/-- 'latchgarthlaw2.DekkerOne': WHATEVER THE INPUT: true; the input reads as it did. -/
def dekkerOneSpec : ChangeSpec := { name := "dekkerOne", fn := fun _ => fun
  | [d] => { results := [.lit (.bool true)], args := [d] }
  | _ => none }
def dekkerOneRow : OpenClaim := { program := "ytgkeljghnkoajaa", sum := "0ae30a7fdb29e0971913c664df5138c99dc59bb442fa1f39c567feeccabc8d5d", func := "latchgarth/latchgarthlaw2.DekkerOne", spec := "dekkerOne", apart := false }
def DekkerOneSaid : Prop := dekkerOneRow.holds Try.pinned (OpenSpec.ofChange dekkerOneSpec)

/-- ITS FALSE NEIGHBOUR: 'it returns false'. Refute it at one input. -/
def dekkerOneWrong : ChangeSpec := { name := "dekkerOne", fn := fun _ => fun
  | [d] => { results := [.lit (.bool false)], args := [d] }
  | _ => none }
def DekkerOneWrongFalsely : Prop := dekkerOneRow.holds Try.pinned (OpenSpec.ofChange dekkerOneWrong)

/-- 'latchgarthlaw2.DekkerGoes': WHATEVER THE INPUT: true; the input reads as it did. -/
def dekkerGoesSpec : ChangeSpec := { name := "dekkerGoes", fn := fun _ => fun
  | [d] => { results := [.lit (.bool true)], args := [d] }
  | _ => none }
def dekkerGoesRow : OpenClaim := { program := "ytgkeljghnkoajaa", sum := "0ae30a7fdb29e0971913c664df5138c99dc59bb442fa1f39c567feeccabc8d5d", func := "latchgarth/latchgarthlaw2.DekkerGoes", spec := "dekkerGoes", apart := false }
def DekkerGoesSaid : Prop := dekkerGoesRow.holds Try.pinned (OpenSpec.ofChange dekkerGoesSpec)

/-- ITS FALSE NEIGHBOUR: 'it returns false'. Refute it at one input. -/
def dekkerGoesWrong : ChangeSpec := { name := "dekkerGoes", fn := fun _ => fun
  | [d] => { results := [.lit (.bool false)], args := [d] }
  | _ => none }
def DekkerGoesWrongFalsely : Prop := dekkerGoesRow.holds Try.pinned (OpenSpec.ofChange dekkerGoesWrong)

/-- 'latchgarthlaw2.DekkerFair': WHATEVER THE INPUT: true; the input reads as it did. -/
def dekkerFairSpec : ChangeSpec := { name := "dekkerFair", fn := fun _ => fun
  | [d1, d2] => { results := [.lit (.bool true)], args := [d1, d2] }
  | _ => none }
def dekkerFairRow : OpenClaim := { program := "ytgkeljghnkoajaa", sum := "0ae30a7fdb29e0971913c664df5138c99dc59bb442fa1f39c567feeccabc8d5d", func := "latchgarth/latchgarthlaw2.DekkerFair", spec := "dekkerFair", apart := false }
def DekkerFairSaid : Prop := dekkerFairRow.holds Try.pinned (OpenSpec.ofChange dekkerFairSpec)

/-- ITS FALSE NEIGHBOUR: 'it returns false'. Refute it at one input. -/
def dekkerFairWrong : ChangeSpec := { name := "dekkerFair", fn := fun _ => fun
  | [d1, d2] => { results := [.lit (.bool false)], args := [d1, d2] }
  | _ => none }
def DekkerFairWrongFalsely : Prop := dekkerFairRow.holds Try.pinned (OpenSpec.ofChange dekkerFairWrong)

/- THE SECOND FORM. 'bulk': how many values and letters a reading holds, each counted each time it is reached (what is shared counts as often as it is met; a slice's spare places count too). A statement '..UptoSaid' is the law's where the arguments, and the package variables that the reading takes, are together of bulk at most 1048576: NARROWER than '..Said'. Prove '..Said' where nothing that the law and all that it calls make is longer than what came in: it says more and counts as full. Else prove '..UptoSaid'. A law counts once. -/
mutual
def uptoBulk {H : Type} : DataW H → Nat
  | .lit (.string bytes) => bytes.length + 1
  | .lit _ => 1
  | .nil => 1
  | .ptr d => uptoBulk d + 1
  | .slice elems spare => uptoBulkAll elems + uptoBulkAll spare + 1
  | .agg parts => uptoBulkAll parts + 1
  | .iface _ d => uptoBulk d + 1
  | .map entries => uptoBulkEntries entries + 1
  | .held _ => 1
def uptoBulkAll {H : Type} : List (DataW H) → Nat
  | [] => 0
  | d :: r => uptoBulk d + uptoBulkAll r
def uptoBulkEntries {H : Type} : List (Lit × DataW H) → Nat
  | [] => 0
  | x :: r => uptoBulkEntry x + uptoBulkEntries r
def uptoBulkEntry {H : Type} : Lit × DataW H → Nat
  | (.string bytes, d) => bytes.length + uptoBulk d + 1
  | (_, d) => uptoBulk d + 1
 end
def uptoSmall : (H : Type) → List (DataW H) → Bool := fun _ ds => decide (uptoBulkAll ds ≤ 1048576)
def OpenSpec.upto (s : _root_.Go.ChangeSpec) : _root_.Go.OpenSpec := { _root_.Go.OpenSpec.ofChange s with cond := some uptoSmall }

/-- 'latchgarthlaw2.DekkerOne', WHERE WHAT IT READS IS OF BULK AT MOST 1048576: true; the input reads as it did. -/
def dekkerOneUptoRow : OpenClaim := { program := "ytgkeljghnkoajaa", sum := "0ae30a7fdb29e0971913c664df5138c99dc59bb442fa1f39c567feeccabc8d5d", func := "latchgarth/latchgarthlaw2.DekkerOne", spec := "dekkerOne", apart := false, narrowed := true }
def DekkerOneUptoSaid : Prop := dekkerOneUptoRow.holds Try.pinned (OpenSpec.upto dekkerOneSpec)

/-- 'latchgarthlaw2.DekkerGoes', WHERE WHAT IT READS IS OF BULK AT MOST 1048576: true; the input reads as it did. -/
def dekkerGoesUptoRow : OpenClaim := { program := "ytgkeljghnkoajaa", sum := "0ae30a7fdb29e0971913c664df5138c99dc59bb442fa1f39c567feeccabc8d5d", func := "latchgarth/latchgarthlaw2.DekkerGoes", spec := "dekkerGoes", apart := false, narrowed := true }
def DekkerGoesUptoSaid : Prop := dekkerGoesUptoRow.holds Try.pinned (OpenSpec.upto dekkerGoesSpec)

/-- 'latchgarthlaw2.DekkerFair', WHERE WHAT IT READS IS OF BULK AT MOST 1048576: true; the input reads as it did. -/
def dekkerFairUptoRow : OpenClaim := { program := "ytgkeljghnkoajaa", sum := "0ae30a7fdb29e0971913c664df5138c99dc59bb442fa1f39c567feeccabc8d5d", func := "latchgarth/latchgarthlaw2.DekkerFair", spec := "dekkerFair", apart := false, narrowed := true }
def DekkerFairUptoSaid : Prop := dekkerFairUptoRow.holds Try.pinned (OpenSpec.upto dekkerFairSpec)

end Rows
end Go.Proofs.Ytgkeljghnkoajaa
