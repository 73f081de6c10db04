/-
  No cell of these rows narrows 'for every input' (looked for: loops, veiled, ifaces, maps, wideKeys, modest, calm, conditions, laid).
  DERIVED. THE GIVEN ROWS OF THIS SEAT. 4 by the template 'for every input the law returns true; each argument reads behind the call as it read before'; 0 by the template 'total and deterministic' (their statements: YtjjhchpdgompoaaTotals.lean).
  GIVEN WITH THE SEED: the statements are not yours to turn. If you find one false, say at which input.
  Laid BY PROGRAM, IN A SANDBOX (cutbox-rows.mjs): the forced cells as the released guide's own fill.sh prints them over the translation 5ca907145f1b38e1… (all of the seat's roots in one cut). By AI agents, Wed Nov 11 2026. No macro, syntax, notation, axiom, sorry.
-/
import Derived.Test.YtjjhchpdgompoaaChecked
import GoSem.Claim
import GoSem.ClaimJoined
import GoSem.ClaimMapViews
import Derived.JoinedTies
import Derived.KernelRfl
namespace Go.Proofs.Ytjjhchpdgompoaa
/- THE CELL 'sum', in the pinned program and in every row, IS THE sha256 OF THE DUMP (.gsa) THAT YtjjhchpdgompoaaProg.lean LOADS. Nothing in Lean hashes anything: it is a label: what it is worth is what the hold of that sum in a sandbox is worth. -/
noncomputable def Try.pinned : Pinned := { name := "ytjjhchpdgompoaa", sum := "5ca907145f1b38e17b8056beda91840471d4090bcd0cea29602b886a3c21dd17", checked := Try.checked }
namespace Rows
def none {H : Type} : Left H := { results := [], args := [] }

/-- 'latchgarthlaw2.PairOne': WHATEVER THE INPUT: true; the input reads as it did. -/
def pairOneSpec : ChangeSpec := { name := "pairOne", fn := fun _ => fun
  | [d] => { results := [.lit (.bool true)], args := [d] }
  | _ => none }
def pairOneRow : OpenClaim := { program := "ytjjhchpdgompoaa", sum := "5ca907145f1b38e17b8056beda91840471d4090bcd0cea29602b886a3c21dd17", func := "latchgarth/latchgarthlaw2.PairOne", spec := "pairOne", apart := false }
def PairOneSaid : Prop := pairOneRow.holds Try.pinned (OpenSpec.ofChange pairOneSpec)

/-- ITS FALSE NEIGHBOUR: 'it returns false'. Refute it at one input. -/
def pairOneWrong : ChangeSpec := { name := "pairOne", fn := fun _ => fun
  | [d] => { results := [.lit (.bool false)], args := [d] }
  | _ => none }
def PairOneWrongFalsely : Prop := pairOneRow.holds Try.pinned (OpenSpec.ofChange pairOneWrong)

/-- 'latchgarthlaw2.PairGoes': WHATEVER THE INPUT: true; the input reads as it did. -/
def pairGoesSpec : ChangeSpec := { name := "pairGoes", fn := fun _ => fun
  | [d] => { results := [.lit (.bool true)], args := [d] }
  | _ => none }
def pairGoesRow : OpenClaim := { program := "ytjjhchpdgompoaa", sum := "5ca907145f1b38e17b8056beda91840471d4090bcd0cea29602b886a3c21dd17", func := "latchgarth/latchgarthlaw2.PairGoes", spec := "pairGoes", apart := false }
def PairGoesSaid : Prop := pairGoesRow.holds Try.pinned (OpenSpec.ofChange pairGoesSpec)

/-- ITS FALSE NEIGHBOUR: 'it returns false'. Refute it at one input. -/
def pairGoesWrong : ChangeSpec := { name := "pairGoes", fn := fun _ => fun
  | [d] => { results := [.lit (.bool false)], args := [d] }
  | _ => none }
def PairGoesWrongFalsely : Prop := pairGoesRow.holds Try.pinned (OpenSpec.ofChange pairGoesWrong)

/-- 'latchgarthlaw2.PairFair': WHATEVER THE INPUT: true; the input reads as it did. -/
def pairFairSpec : ChangeSpec := { name := "pairFair", fn := fun _ => fun
  | [d] => { results := [.lit (.bool true)], args := [d] }
  | _ => none }
def pairFairRow : OpenClaim := { program := "ytjjhchpdgompoaa", sum := "5ca907145f1b38e17b8056beda91840471d4090bcd0cea29602b886a3c21dd17", func := "latchgarth/latchgarthlaw2.PairFair", spec := "pairFair", apart := false }
def PairFairSaid : Prop := pairFairRow.holds Try.pinned (OpenSpec.ofChange pairFairSpec)

/-- ITS FALSE NEIGHBOUR: 'it returns false'. Refute it at one input. -/
def pairFairWrong : ChangeSpec := { name := "pairFair", fn := fun _ => fun
  | [d] => { results := [.lit (.bool false)], args := [d] }
  | _ => none }
def PairFairWrongFalsely : Prop := pairFairRow.holds Try.pinned (OpenSpec.ofChange pairFairWrong)

/-- 'latchgarthlaw2.PairAlone': WHATEVER THE INPUT: true; the input reads as it did. -/
def pairAloneSpec : ChangeSpec := { name := "pairAlone", fn := fun _ => fun
  | [d1, d2] => { results := [.lit (.bool true)], args := [d1, d2] }
  | _ => none }
def pairAloneRow : OpenClaim := { program := "ytjjhchpdgompoaa", sum := "5ca907145f1b38e17b8056beda91840471d4090bcd0cea29602b886a3c21dd17", func := "latchgarth/latchgarthlaw2.PairAlone", spec := "pairAlone", apart := false }
def PairAloneSaid : Prop := pairAloneRow.holds Try.pinned (OpenSpec.ofChange pairAloneSpec)

/-- ITS FALSE NEIGHBOUR: 'it returns false'. Refute it at one input. -/
def pairAloneWrong : ChangeSpec := { name := "pairAlone", fn := fun _ => fun
  | [d1, d2] => { results := [.lit (.bool false)], args := [d1, d2] }
  | _ => none }
def PairAloneWrongFalsely : Prop := pairAloneRow.holds Try.pinned (OpenSpec.ofChange pairAloneWrong)

/- THE SECOND FORM. 'bulk': how many values and letters a reading holds, each counted each time it is reached (what is shared counts as often as it is met; a slice's spare places count too). A statement '..UptoSaid' is the law's where the arguments, and the package variables that the reading takes, are together of bulk at most 1048576: NARROWER than '..Said'. Prove '..Said' where nothing that the law and all that it calls make is longer than what came in: it says more and counts as full. Else prove '..UptoSaid'. A law counts once. -/
mutual
def uptoBulk {H : Type} : DataW H → Nat
  | .lit (.string bytes) => bytes.length + 1
  | .lit _ => 1
  | .nil => 1
  | .ptr d => uptoBulk d + 1
  | .slice elems spare => uptoBulkAll elems + uptoBulkAll spare + 1
  | .agg parts => uptoBulkAll parts + 1
  | .iface _ d => uptoBulk d + 1
  | .map entries => uptoBulkEntries entries + 1
  | .held _ => 1
def uptoBulkAll {H : Type} : List (DataW H) → Nat
  | [] => 0
  | d :: r => uptoBulk d + uptoBulkAll r
def uptoBulkEntries {H : Type} : List (Lit × DataW H) → Nat
  | [] => 0
  | x :: r => uptoBulkEntry x + uptoBulkEntries r
def uptoBulkEntry {H : Type} : Lit × DataW H → Nat
  | (.string bytes, d) => bytes.length + uptoBulk d + 1
  | (_, d) => uptoBulk d + 1
 end
def uptoSmall : (H : Type) → List (DataW H) → Bool := fun _ ds => decide (uptoBulkAll ds ≤ 1048576)
def OpenSpec.upto (s : _root_.Go.ChangeSpec) : _root_.Go.OpenSpec := { _root_.Go.OpenSpec.ofChange s with cond := some uptoSmall }

/-- 'latchgarthlaw2.PairOne', WHERE WHAT IT READS IS OF BULK AT MOST 1048576: true; the input reads as it did. -/
def pairOneUptoRow : OpenClaim := { program := "ytjjhchpdgompoaa", sum := "5ca907145f1b38e17b8056beda91840471d4090bcd0cea29602b886a3c21dd17", func := "latchgarth/latchgarthlaw2.PairOne", spec := "pairOne", apart := false, narrowed := true }
def PairOneUptoSaid : Prop := pairOneUptoRow.holds Try.pinned (OpenSpec.upto pairOneSpec)

/-- 'latchgarthlaw2.PairGoes', WHERE WHAT IT READS IS OF BULK AT MOST 1048576: true; the input reads as it did. -/
def pairGoesUptoRow : OpenClaim := { program := "ytjjhchpdgompoaa", sum := "5ca907145f1b38e17b8056beda91840471d4090bcd0cea29602b886a3c21dd17", func := "latchgarth/latchgarthlaw2.PairGoes", spec := "pairGoes", apart := false, narrowed := true }
def PairGoesUptoSaid : Prop := pairGoesUptoRow.holds Try.pinned (OpenSpec.upto pairGoesSpec)

/-- 'latchgarthlaw2.PairFair', WHERE WHAT IT READS IS OF BULK AT MOST 1048576: true; the input reads as it did. -/
def pairFairUptoRow : OpenClaim := { program := "ytjjhchpdgompoaa", sum := "5ca907145f1b38e17b8056beda91840471d4090bcd0cea29602b886a3c21dd17", func := "latchgarth/latchgarthlaw2.PairFair", spec := "pairFair", apart := false, narrowed := true }
def PairFairUptoSaid : Prop := pairFairUptoRow.holds Try.pinned (OpenSpec.upto pairFairSpec)

/-- 'latchgarthlaw2.PairAlone', WHERE WHAT IT READS IS OF BULK AT MOST 1048576: true; the input reads as it did. -/
def pairAloneUptoRow : OpenClaim := { program := "ytjjhchpdgompoaa", sum := "5ca907145f1b38e17b8056beda91840471d4090bcd0cea29602b886a3c21dd17", func := "latchgarth/latchgarthlaw2.PairAlone", spec := "pairAlone", apart := false, narrowed := true }
def PairAloneUptoSaid : Prop := pairAloneUptoRow.holds Try.pinned (OpenSpec.upto pairAloneSpec)

end Rows
end Go.Proofs.Ytjjhchpdgompoaa
