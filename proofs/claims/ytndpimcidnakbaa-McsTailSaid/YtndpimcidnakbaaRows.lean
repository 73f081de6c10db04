/-
  No cell of these rows narrows 'for every input' (looked for: loops, veiled, ifaces, maps, wideKeys, modest, calm, conditions, laid).
  DERIVED. THE GIVEN ROWS OF THIS SEAT. 4 by the template 'for every input the law returns true; each argument reads behind the call as it read before'; 0 by the template 'total and deterministic' (their statements: YtndpimcidnakbaaTotals.lean).
  GIVEN WITH THE SEED: the statements are not yours to turn. If you find one false, say at which input.
  Laid BY PROGRAM, IN A SANDBOX (cutbox-rows.mjs): the forced cells as the released guide's own fill.sh prints them over the translation ee8f62b0245c106f… (all of the seat's roots in one cut). By AI agents, Wed Nov 11 2026. No macro, syntax, notation, axiom, sorry.
-/
import Derived.Test.YtndpimcidnakbaaChecked
import GoSem.Claim
import GoSem.ClaimJoined
import GoSem.ClaimMapViews
import Derived.JoinedTies
import Derived.KernelRfl
namespace Go.Proofs.Ytndpimcidnakbaa
/- THE CELL 'sum', in the pinned program and in every row, IS THE sha256 OF THE DUMP (.gsa) THAT YtndpimcidnakbaaProg.lean LOADS. Nothing in Lean hashes anything: it is a label: what it is worth is what the hold of that sum in a sandbox is worth. -/
noncomputable def Try.pinned : Pinned := { name := "ytndpimcidnakbaa", sum := "ee8f62b0245c106f91d9749cef0c9017ffd4afac50414329fd783cbd43294a58", checked := Try.checked }
namespace Rows
def none {H : Type} : Left H := { results := [], args := [] }

/-- 'latchgarthlaw2.McsOne': WHATEVER THE INPUT: true; the input reads as it did. -/
def mcsOneSpec : ChangeSpec := { name := "mcsOne", fn := fun _ => fun
  | [d1, d2] => { results := [.lit (.bool true)], args := [d1, d2] }
  | _ => none }
def mcsOneRow : OpenClaim := { program := "ytndpimcidnakbaa", sum := "ee8f62b0245c106f91d9749cef0c9017ffd4afac50414329fd783cbd43294a58", func := "latchgarth/latchgarthlaw2.McsOne", spec := "mcsOne", apart := false }
def McsOneSaid : Prop := mcsOneRow.holds Try.pinned (OpenSpec.ofChange mcsOneSpec)

/-- ITS FALSE NEIGHBOUR: 'it returns false'. Refute it at one input. -/
def mcsOneWrong : ChangeSpec := { name := "mcsOne", fn := fun _ => fun
  | [d1, d2] => { results := [.lit (.bool false)], args := [d1, d2] }
  | _ => none }
def McsOneWrongFalsely : Prop := mcsOneRow.holds Try.pinned (OpenSpec.ofChange mcsOneWrong)

/-- 'latchgarthlaw2.McsGoes': WHATEVER THE INPUT: true; the input reads as it did. -/
def mcsGoesSpec : ChangeSpec := { name := "mcsGoes", fn := fun _ => fun
  | [d1, d2] => { results := [.lit (.bool true)], args := [d1, d2] }
  | _ => none }
def mcsGoesRow : OpenClaim := { program := "ytndpimcidnakbaa", sum := "ee8f62b0245c106f91d9749cef0c9017ffd4afac50414329fd783cbd43294a58", func := "latchgarth/latchgarthlaw2.McsGoes", spec := "mcsGoes", apart := false }
def McsGoesSaid : Prop := mcsGoesRow.holds Try.pinned (OpenSpec.ofChange mcsGoesSpec)

/-- ITS FALSE NEIGHBOUR: 'it returns false'. Refute it at one input. -/
def mcsGoesWrong : ChangeSpec := { name := "mcsGoes", fn := fun _ => fun
  | [d1, d2] => { results := [.lit (.bool false)], args := [d1, d2] }
  | _ => none }
def McsGoesWrongFalsely : Prop := mcsGoesRow.holds Try.pinned (OpenSpec.ofChange mcsGoesWrong)

/-- 'latchgarthlaw2.McsFirst': WHATEVER THE INPUT: true; the input reads as it did. -/
def mcsFirstSpec : ChangeSpec := { name := "mcsFirst", fn := fun _ => fun
  | [d1, d2] => { results := [.lit (.bool true)], args := [d1, d2] }
  | _ => none }
def mcsFirstRow : OpenClaim := { program := "ytndpimcidnakbaa", sum := "ee8f62b0245c106f91d9749cef0c9017ffd4afac50414329fd783cbd43294a58", func := "latchgarth/latchgarthlaw2.McsFirst", spec := "mcsFirst", apart := false }
def McsFirstSaid : Prop := mcsFirstRow.holds Try.pinned (OpenSpec.ofChange mcsFirstSpec)

/-- ITS FALSE NEIGHBOUR: 'it returns false'. Refute it at one input. -/
def mcsFirstWrong : ChangeSpec := { name := "mcsFirst", fn := fun _ => fun
  | [d1, d2] => { results := [.lit (.bool false)], args := [d1, d2] }
  | _ => none }
def McsFirstWrongFalsely : Prop := mcsFirstRow.holds Try.pinned (OpenSpec.ofChange mcsFirstWrong)

/-- 'latchgarthlaw2.McsTail': WHATEVER THE INPUT: true; the input reads as it did. -/
def mcsTailSpec : ChangeSpec := { name := "mcsTail", fn := fun _ => fun
  | [d1, d2] => { results := [.lit (.bool true)], args := [d1, d2] }
  | _ => none }
def mcsTailRow : OpenClaim := { program := "ytndpimcidnakbaa", sum := "ee8f62b0245c106f91d9749cef0c9017ffd4afac50414329fd783cbd43294a58", func := "latchgarth/latchgarthlaw2.McsTail", spec := "mcsTail", apart := false }
def McsTailSaid : Prop := mcsTailRow.holds Try.pinned (OpenSpec.ofChange mcsTailSpec)

/-- ITS FALSE NEIGHBOUR: 'it returns false'. Refute it at one input. -/
def mcsTailWrong : ChangeSpec := { name := "mcsTail", fn := fun _ => fun
  | [d1, d2] => { results := [.lit (.bool false)], args := [d1, d2] }
  | _ => none }
def McsTailWrongFalsely : Prop := mcsTailRow.holds Try.pinned (OpenSpec.ofChange mcsTailWrong)

/- THE SECOND FORM. 'bulk': how many values and letters a reading holds, each counted each time it is reached (what is shared counts as often as it is met; a slice's spare places count too). A statement '..UptoSaid' is the law's where the arguments, and the package variables that the reading takes, are together of bulk at most 1048576: NARROWER than '..Said'. Prove '..Said' where nothing that the law and all that it calls make is longer than what came in: it says more and counts as full. Else prove '..UptoSaid'. A law counts once. -/
mutual
def uptoBulk {H : Type} : DataW H → Nat
  | .lit (.string bytes) => bytes.length + 1
  | .lit _ => 1
  | .nil => 1
  | .ptr d => uptoBulk d + 1
  | .slice elems spare => uptoBulkAll elems + uptoBulkAll spare + 1
  | .agg parts => uptoBulkAll parts + 1
  | .iface _ d => uptoBulk d + 1
  | .map entries => uptoBulkEntries entries + 1
  | .held _ => 1
def uptoBulkAll {H : Type} : List (DataW H) → Nat
  | [] => 0
  | d :: r => uptoBulk d + uptoBulkAll r
def uptoBulkEntries {H : Type} : List (Lit × DataW H) → Nat
  | [] => 0
  | x :: r => uptoBulkEntry x + uptoBulkEntries r
def uptoBulkEntry {H : Type} : Lit × DataW H → Nat
  | (.string bytes, d) => bytes.length + uptoBulk d + 1
  | (_, d) => uptoBulk d + 1
 end
def uptoSmall : (H : Type) → List (DataW H) → Bool := fun _ ds => decide (uptoBulkAll ds ≤ 1048576)
def OpenSpec.upto (s : _root_.Go.ChangeSpec) : _root_.Go.OpenSpec := { _root_.Go.OpenSpec.ofChange s with cond := some uptoSmall }

/-- 'latchgarthlaw2.McsOne', WHERE WHAT IT READS IS OF BULK AT MOST 1048576: true; the input reads as it did. -/
def mcsOneUptoRow : OpenClaim := { program := "ytndpimcidnakbaa", sum := "ee8f62b0245c106f91d9749cef0c9017ffd4afac50414329fd783cbd43294a58", func := "latchgarth/latchgarthlaw2.McsOne", spec := "mcsOne", apart := false, narrowed := true }
def McsOneUptoSaid : Prop := mcsOneUptoRow.holds Try.pinned (OpenSpec.upto mcsOneSpec)

/-- 'latchgarthlaw2.McsGoes', WHERE WHAT IT READS IS OF BULK AT MOST 1048576: true; the input reads as it did. -/
def mcsGoesUptoRow : OpenClaim := { program := "ytndpimcidnakbaa", sum := "ee8f62b0245c106f91d9749cef0c9017ffd4afac50414329fd783cbd43294a58", func := "latchgarth/latchgarthlaw2.McsGoes", spec := "mcsGoes", apart := false, narrowed := true }
def McsGoesUptoSaid : Prop := mcsGoesUptoRow.holds Try.pinned (OpenSpec.upto mcsGoesSpec)

/-- 'latchgarthlaw2.McsFirst', WHERE WHAT IT READS IS OF BULK AT MOST 1048576: true; the input reads as it did. -/
def mcsFirstUptoRow : OpenClaim := { program := "ytndpimcidnakbaa", sum := "ee8f62b0245c106f91d9749cef0c9017ffd4afac50414329fd783cbd43294a58", func := "latchgarth/latchgarthlaw2.McsFirst", spec := "mcsFirst", apart := false, narrowed := true }
def McsFirstUptoSaid : Prop := mcsFirstUptoRow.holds Try.pinned (OpenSpec.upto mcsFirstSpec)

/-- 'latchgarthlaw2.McsTail', WHERE WHAT IT READS IS OF BULK AT MOST 1048576: true; the input reads as it did. -/
def mcsTailUptoRow : OpenClaim := { program := "ytndpimcidnakbaa", sum := "ee8f62b0245c106f91d9749cef0c9017ffd4afac50414329fd783cbd43294a58", func := "latchgarth/latchgarthlaw2.McsTail", spec := "mcsTail", apart := false, narrowed := true }
def McsTailUptoSaid : Prop := mcsTailUptoRow.holds Try.pinned (OpenSpec.upto mcsTailSpec)

end Rows
end Go.Proofs.Ytndpimcidnakbaa
