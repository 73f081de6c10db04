/-
  No cell of these rows narrows 'for every input' (looked for: loops, veiled, ifaces, maps, wideKeys, modest, calm, conditions, laid).
  DERIVED. THE GIVEN ROWS OF THIS SEAT. 3 by the template 'for every input the law returns true; each argument reads behind the call as it read before'; 0 by the template 'total and deterministic' (their statements: YtkjodfpfmpdbmaaTotals.lean).
  GIVEN WITH THE SEED: the statements are not yours to turn. If you find one false, say at which input.
  Laid BY PROGRAM, IN A SANDBOX (cutbox-rows.mjs): the forced cells as the released guide's own fill.sh prints them over the translation 832f45329f764b6e… (all of the seat's roots in one cut). By AI agents, Wed Nov 11 2026. No macro, syntax, notation, axiom, sorry.
-/
import Derived.Test.YtkjodfpfmpdbmaaChecked
import GoSem.Claim
import GoSem.ClaimJoined
import GoSem.ClaimMapViews
import Derived.JoinedTies
import Derived.KernelRfl
namespace Go.Proofs.Ytkjodfpfmpdbmaa
/- THE CELL 'sum', in the pinned program and in every row, IS THE sha256 OF THE DUMP (.gsa) THAT YtkjodfpfmpdbmaaProg.lean LOADS. Nothing in Lean hashes anything: it is a label: what it is worth is what the hold of that sum in a sandbox is worth. -/
noncomputable def Try.pinned : Pinned := { name := "ytkjodfpfmpdbmaa", sum := "832f45329f764b6e50ba70aec4146217b117311b22f4d7d60f7cd41523b00f4b", checked := Try.checked }
namespace Rows
def none {H : Type} : Left H := { results := [], args := [] }

/-- 'latchgarthlaw2.FastOne': WHATEVER THE INPUT: true; the input reads as it did. -/
def fastOneSpec : ChangeSpec := { name := "fastOne", fn := fun _ => fun
  | [d1, d2] => { results := [.lit (.bool true)], args := [d1, d2] }
  | _ => none }
def fastOneRow : OpenClaim := { program := "ytkjodfpfmpdbmaa", sum := "832f45329f764b6e50ba70aec4146217b117311b22f4d7d60f7cd41523b00f4b", func := "latchgarth/latchgarthlaw2.FastOne", spec := "fastOne", unfollowed := true, recurses := true, apart := false }
def FastOneSaid : Prop := fastOneRow.holds Try.pinned (OpenSpec.ofChange fastOneSpec)

/-- ITS FALSE NEIGHBOUR: 'it returns false'. Refute it at one input. -/
def fastOneWrong : ChangeSpec := { name := "fastOne", fn := fun _ => fun
  | [d1, d2] => { results := [.lit (.bool false)], args := [d1, d2] }
  | _ => none }
def FastOneWrongFalsely : Prop := fastOneRow.holds Try.pinned (OpenSpec.ofChange fastOneWrong)

/-- 'latchgarthlaw2.FastSome': WHATEVER THE INPUT: true; the input reads as it did. -/
def fastSomeSpec : ChangeSpec := { name := "fastSome", fn := fun _ => fun
  | [d1, d2] => { results := [.lit (.bool true)], args := [d1, d2] }
  | _ => none }
def fastSomeRow : OpenClaim := { program := "ytkjodfpfmpdbmaa", sum := "832f45329f764b6e50ba70aec4146217b117311b22f4d7d60f7cd41523b00f4b", func := "latchgarth/latchgarthlaw2.FastSome", spec := "fastSome", unfollowed := true, recurses := true, apart := false }
def FastSomeSaid : Prop := fastSomeRow.holds Try.pinned (OpenSpec.ofChange fastSomeSpec)

/-- ITS FALSE NEIGHBOUR: 'it returns false'. Refute it at one input. -/
def fastSomeWrong : ChangeSpec := { name := "fastSome", fn := fun _ => fun
  | [d1, d2] => { results := [.lit (.bool false)], args := [d1, d2] }
  | _ => none }
def FastSomeWrongFalsely : Prop := fastSomeRow.holds Try.pinned (OpenSpec.ofChange fastSomeWrong)

/-- 'latchgarthlaw2.FastAlone': WHATEVER THE INPUT: true; the input reads as it did. -/
def fastAloneSpec : ChangeSpec := { name := "fastAlone", fn := fun _ => fun
  | [d1, d2, d3] => { results := [.lit (.bool true)], args := [d1, d2, d3] }
  | _ => none }
def fastAloneRow : OpenClaim := { program := "ytkjodfpfmpdbmaa", sum := "832f45329f764b6e50ba70aec4146217b117311b22f4d7d60f7cd41523b00f4b", func := "latchgarth/latchgarthlaw2.FastAlone", spec := "fastAlone", unfollowed := true, recurses := true, apart := false }
def FastAloneSaid : Prop := fastAloneRow.holds Try.pinned (OpenSpec.ofChange fastAloneSpec)

/-- ITS FALSE NEIGHBOUR: 'it returns false'. Refute it at one input. -/
def fastAloneWrong : ChangeSpec := { name := "fastAlone", fn := fun _ => fun
  | [d1, d2, d3] => { results := [.lit (.bool false)], args := [d1, d2, d3] }
  | _ => none }
def FastAloneWrongFalsely : Prop := fastAloneRow.holds Try.pinned (OpenSpec.ofChange fastAloneWrong)

/- THE SECOND FORM. 'bulk': how many values and letters a reading holds, each counted each time it is reached (what is shared counts as often as it is met; a slice's spare places count too). A statement '..UptoSaid' is the law's where the arguments, and the package variables that the reading takes, are together of bulk at most 1048576: NARROWER than '..Said'. Prove '..Said' where nothing that the law and all that it calls make is longer than what came in: it says more and counts as full. Else prove '..UptoSaid'. A law counts once. -/
mutual
def uptoBulk {H : Type} : DataW H → Nat
  | .lit (.string bytes) => bytes.length + 1
  | .lit _ => 1
  | .nil => 1
  | .ptr d => uptoBulk d + 1
  | .slice elems spare => uptoBulkAll elems + uptoBulkAll spare + 1
  | .agg parts => uptoBulkAll parts + 1
  | .iface _ d => uptoBulk d + 1
  | .map entries => uptoBulkEntries entries + 1
  | .held _ => 1
def uptoBulkAll {H : Type} : List (DataW H) → Nat
  | [] => 0
  | d :: r => uptoBulk d + uptoBulkAll r
def uptoBulkEntries {H : Type} : List (Lit × DataW H) → Nat
  | [] => 0
  | x :: r => uptoBulkEntry x + uptoBulkEntries r
def uptoBulkEntry {H : Type} : Lit × DataW H → Nat
  | (.string bytes, d) => bytes.length + uptoBulk d + 1
  | (_, d) => uptoBulk d + 1
 end
def uptoSmall : (H : Type) → List (DataW H) → Bool := fun _ ds => decide (uptoBulkAll ds ≤ 1048576)
def OpenSpec.upto (s : _root_.Go.ChangeSpec) : _root_.Go.OpenSpec := { _root_.Go.OpenSpec.ofChange s with cond := some uptoSmall }

/-- 'latchgarthlaw2.FastOne', WHERE WHAT IT READS IS OF BULK AT MOST 1048576: true; the input reads as it did. -/
def fastOneUptoRow : OpenClaim := { program := "ytkjodfpfmpdbmaa", sum := "832f45329f764b6e50ba70aec4146217b117311b22f4d7d60f7cd41523b00f4b", func := "latchgarth/latchgarthlaw2.FastOne", spec := "fastOne", unfollowed := true, recurses := true, apart := false, narrowed := true }
def FastOneUptoSaid : Prop := fastOneUptoRow.holds Try.pinned (OpenSpec.upto fastOneSpec)

/-- 'latchgarthlaw2.FastSome', WHERE WHAT IT READS IS OF BULK AT MOST 1048576: true; the input reads as it did. -/
def fastSomeUptoRow : OpenClaim := { program := "ytkjodfpfmpdbmaa", sum := "832f45329f764b6e50ba70aec4146217b117311b22f4d7d60f7cd41523b00f4b", func := "latchgarth/latchgarthlaw2.FastSome", spec := "fastSome", unfollowed := true, recurses := true, apart := false, narrowed := true }
def FastSomeUptoSaid : Prop := fastSomeUptoRow.holds Try.pinned (OpenSpec.upto fastSomeSpec)

/-- 'latchgarthlaw2.FastAlone', WHERE WHAT IT READS IS OF BULK AT MOST 1048576: true; the input reads as it did. -/
def fastAloneUptoRow : OpenClaim := { program := "ytkjodfpfmpdbmaa", sum := "832f45329f764b6e50ba70aec4146217b117311b22f4d7d60f7cd41523b00f4b", func := "latchgarth/latchgarthlaw2.FastAlone", spec := "fastAlone", unfollowed := true, recurses := true, apart := false, narrowed := true }
def FastAloneUptoSaid : Prop := fastAloneUptoRow.holds Try.pinned (OpenSpec.upto fastAloneSpec)

end Rows
end Go.Proofs.Ytkjodfpfmpdbmaa
