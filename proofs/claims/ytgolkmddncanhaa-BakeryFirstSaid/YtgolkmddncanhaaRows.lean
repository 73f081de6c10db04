/-
  No cell of these rows narrows 'for every input' (looked for: loops, veiled, ifaces, maps, wideKeys, modest, calm, conditions, laid).
  DERIVED. THE GIVEN ROWS OF THIS SEAT. 4 by the template 'for every input the law returns true; each argument reads behind the call as it read before'; 0 by the template 'total and deterministic' (their statements: YtgolkmddncanhaaTotals.lean).
  GIVEN WITH THE SEED: the statements are not yours to turn. If you find one false, say at which input.
  Laid BY PROGRAM, IN A SANDBOX (cutbox-rows.mjs): the forced cells as the released guide's own fill.sh prints them over the translation acc5e772624efd24… (all of the seat's roots in one cut). By AI agents, Wed Nov 11 2026. No macro, syntax, notation, axiom, sorry.
-/
import Derived.Test.YtgolkmddncanhaaChecked
import GoSem.Claim
import GoSem.ClaimJoined
import GoSem.ClaimMapViews
import Derived.JoinedTies
import Derived.KernelRfl
namespace Go.Proofs.Ytgolkmddncanhaa
/- THE CELL 'sum', in the pinned program and in every row, IS THE sha256 OF THE DUMP (.gsa) THAT YtgolkmddncanhaaProg.lean LOADS. Nothing in Lean hashes anything: it is a label: what it is worth is what the hold of that sum in a sandbox is worth. -/
noncomputable def Try.pinned : Pinned := { name := "ytgolkmddncanhaa", sum := "acc5e772624efd24bf5e52179d538ed18766e3b1e72cd79eea62b925b40234b6", checked := Try.checked }
namespace Rows
def none {H : Type} : Left H := { results := [], args := [] }

/-- 'latchgarthlaw2.BakeryOne': WHATEVER THE INPUT: true; the input reads as it did. -/
def bakeryOneSpec : ChangeSpec := { name := "bakeryOne", fn := fun _ => fun
  | [d1, d2] => { results := [.lit (.bool true)], args := [d1, d2] }
  | _ => none }
def bakeryOneRow : OpenClaim := { program := "ytgolkmddncanhaa", sum := "acc5e772624efd24bf5e52179d538ed18766e3b1e72cd79eea62b925b40234b6", func := "latchgarth/latchgarthlaw2.BakeryOne", spec := "bakeryOne", unfollowed := true, recurses := true, apart := false }
def BakeryOneSaid : Prop := bakeryOneRow.holds Try.pinned (OpenSpec.ofChange bakeryOneSpec)

/-- ITS FALSE NEIGHBOUR: 'it returns false'. Refute it at one input. -/
def bakeryOneWrong : ChangeSpec := { name := "bakeryOne", fn := fun _ => fun
  | [d1, d2] => { results := [.lit (.bool false)], args := [d1, d2] }
  | _ => none }
def BakeryOneWrongFalsely : Prop := bakeryOneRow.holds Try.pinned (OpenSpec.ofChange bakeryOneWrong)

/-- 'latchgarthlaw2.BakeryGoes': WHATEVER THE INPUT: true; the input reads as it did. -/
def bakeryGoesSpec : ChangeSpec := { name := "bakeryGoes", fn := fun _ => fun
  | [d1, d2] => { results := [.lit (.bool true)], args := [d1, d2] }
  | _ => none }
def bakeryGoesRow : OpenClaim := { program := "ytgolkmddncanhaa", sum := "acc5e772624efd24bf5e52179d538ed18766e3b1e72cd79eea62b925b40234b6", func := "latchgarth/latchgarthlaw2.BakeryGoes", spec := "bakeryGoes", unfollowed := true, recurses := true, apart := false }
def BakeryGoesSaid : Prop := bakeryGoesRow.holds Try.pinned (OpenSpec.ofChange bakeryGoesSpec)

/-- ITS FALSE NEIGHBOUR: 'it returns false'. Refute it at one input. -/
def bakeryGoesWrong : ChangeSpec := { name := "bakeryGoes", fn := fun _ => fun
  | [d1, d2] => { results := [.lit (.bool false)], args := [d1, d2] }
  | _ => none }
def BakeryGoesWrongFalsely : Prop := bakeryGoesRow.holds Try.pinned (OpenSpec.ofChange bakeryGoesWrong)

/-- 'latchgarthlaw2.BakeryFirst': WHATEVER THE INPUT: true; the input reads as it did. -/
def bakeryFirstSpec : ChangeSpec := { name := "bakeryFirst", fn := fun _ => fun
  | [d1, d2] => { results := [.lit (.bool true)], args := [d1, d2] }
  | _ => none }
def bakeryFirstRow : OpenClaim := { program := "ytgolkmddncanhaa", sum := "acc5e772624efd24bf5e52179d538ed18766e3b1e72cd79eea62b925b40234b6", func := "latchgarth/latchgarthlaw2.BakeryFirst", spec := "bakeryFirst", unfollowed := true, recurses := true, apart := false }
def BakeryFirstSaid : Prop := bakeryFirstRow.holds Try.pinned (OpenSpec.ofChange bakeryFirstSpec)

/-- ITS FALSE NEIGHBOUR: 'it returns false'. Refute it at one input. -/
def bakeryFirstWrong : ChangeSpec := { name := "bakeryFirst", fn := fun _ => fun
  | [d1, d2] => { results := [.lit (.bool false)], args := [d1, d2] }
  | _ => none }
def BakeryFirstWrongFalsely : Prop := bakeryFirstRow.holds Try.pinned (OpenSpec.ofChange bakeryFirstWrong)

/-- 'latchgarthlaw2.BakeryLeast': WHATEVER THE INPUT: true; the input reads as it did. -/
def bakeryLeastSpec : ChangeSpec := { name := "bakeryLeast", fn := fun _ => fun
  | [d1, d2] => { results := [.lit (.bool true)], args := [d1, d2] }
  | _ => none }
def bakeryLeastRow : OpenClaim := { program := "ytgolkmddncanhaa", sum := "acc5e772624efd24bf5e52179d538ed18766e3b1e72cd79eea62b925b40234b6", func := "latchgarth/latchgarthlaw2.BakeryLeast", spec := "bakeryLeast", unfollowed := true, recurses := true, apart := false }
def BakeryLeastSaid : Prop := bakeryLeastRow.holds Try.pinned (OpenSpec.ofChange bakeryLeastSpec)

/-- ITS FALSE NEIGHBOUR: 'it returns false'. Refute it at one input. -/
def bakeryLeastWrong : ChangeSpec := { name := "bakeryLeast", fn := fun _ => fun
  | [d1, d2] => { results := [.lit (.bool false)], args := [d1, d2] }
  | _ => none }
def BakeryLeastWrongFalsely : Prop := bakeryLeastRow.holds Try.pinned (OpenSpec.ofChange bakeryLeastWrong)

/- THE SECOND FORM. 'bulk': how many values and letters a reading holds, each counted each time it is reached (what is shared counts as often as it is met; a slice's spare places count too). A statement '..UptoSaid' is the law's where the arguments, and the package variables that the reading takes, are together of bulk at most 1048576: NARROWER than '..Said'. Prove '..Said' where nothing that the law and all that it calls make is longer than what came in: it says more and counts as full. Else prove '..UptoSaid'. A law counts once. -/
mutual
def uptoBulk {H : Type} : DataW H → Nat
  | .lit (.string bytes) => bytes.length + 1
  | .lit _ => 1
  | .nil => 1
  | .ptr d => uptoBulk d + 1
  | .slice elems spare => uptoBulkAll elems + uptoBulkAll spare + 1
  | .agg parts => uptoBulkAll parts + 1
  | .iface _ d => uptoBulk d + 1
  | .map entries => uptoBulkEntries entries + 1
  | .held _ => 1
def uptoBulkAll {H : Type} : List (DataW H) → Nat
  | [] => 0
  | d :: r => uptoBulk d + uptoBulkAll r
def uptoBulkEntries {H : Type} : List (Lit × DataW H) → Nat
  | [] => 0
  | x :: r => uptoBulkEntry x + uptoBulkEntries r
def uptoBulkEntry {H : Type} : Lit × DataW H → Nat
  | (.string bytes, d) => bytes.length + uptoBulk d + 1
  | (_, d) => uptoBulk d + 1
 end
def uptoSmall : (H : Type) → List (DataW H) → Bool := fun _ ds => decide (uptoBulkAll ds ≤ 1048576)
def OpenSpec.upto (s : _root_.Go.ChangeSpec) : _root_.Go.OpenSpec := { _root_.Go.OpenSpec.ofChange s with cond := some uptoSmall }

/-- 'latchgarthlaw2.BakeryOne', WHERE WHAT IT READS IS OF BULK AT MOST 1048576: true; the input reads as it did. -/
def bakeryOneUptoRow : OpenClaim := { program := "ytgolkmddncanhaa", sum := "acc5e772624efd24bf5e52179d538ed18766e3b1e72cd79eea62b925b40234b6", func := "latchgarth/latchgarthlaw2.BakeryOne", spec := "bakeryOne", unfollowed := true, recurses := true, apart := false, narrowed := true }
def BakeryOneUptoSaid : Prop := bakeryOneUptoRow.holds Try.pinned (OpenSpec.upto bakeryOneSpec)

/-- 'latchgarthlaw2.BakeryGoes', WHERE WHAT IT READS IS OF BULK AT MOST 1048576: true; the input reads as it did. -/
def bakeryGoesUptoRow : OpenClaim := { program := "ytgolkmddncanhaa", sum := "acc5e772624efd24bf5e52179d538ed18766e3b1e72cd79eea62b925b40234b6", func := "latchgarth/latchgarthlaw2.BakeryGoes", spec := "bakeryGoes", unfollowed := true, recurses := true, apart := false, narrowed := true }
def BakeryGoesUptoSaid : Prop := bakeryGoesUptoRow.holds Try.pinned (OpenSpec.upto bakeryGoesSpec)

/-- 'latchgarthlaw2.BakeryFirst', WHERE WHAT IT READS IS OF BULK AT MOST 1048576: true; the input reads as it did. -/
def bakeryFirstUptoRow : OpenClaim := { program := "ytgolkmddncanhaa", sum := "acc5e772624efd24bf5e52179d538ed18766e3b1e72cd79eea62b925b40234b6", func := "latchgarth/latchgarthlaw2.BakeryFirst", spec := "bakeryFirst", unfollowed := true, recurses := true, apart := false, narrowed := true }
def BakeryFirstUptoSaid : Prop := bakeryFirstUptoRow.holds Try.pinned (OpenSpec.upto bakeryFirstSpec)

/-- 'latchgarthlaw2.BakeryLeast', WHERE WHAT IT READS IS OF BULK AT MOST 1048576: true; the input reads as it did. -/
def bakeryLeastUptoRow : OpenClaim := { program := "ytgolkmddncanhaa", sum := "acc5e772624efd24bf5e52179d538ed18766e3b1e72cd79eea62b925b40234b6", func := "latchgarth/latchgarthlaw2.BakeryLeast", spec := "bakeryLeast", unfollowed := true, recurses := true, apart := false, narrowed := true }
def BakeryLeastUptoSaid : Prop := bakeryLeastUptoRow.holds Try.pinned (OpenSpec.upto bakeryLeastSpec)

end Rows
end Go.Proofs.Ytgolkmddncanhaa
