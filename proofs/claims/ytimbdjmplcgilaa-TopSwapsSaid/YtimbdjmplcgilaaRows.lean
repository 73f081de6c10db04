/-
  No cell of these rows narrows 'for every input' (looked for: loops, veiled, ifaces, maps, wideKeys, modest, calm, conditions, laid).
  DERIVED. THE GIVEN ROWS OF THIS SEAT. 9 by the template 'for every input the law returns true; each argument reads behind the call as it read before'; 0 by the template 'total and deterministic' (their statements: YtimbdjmplcgilaaTotals.lean).
  GIVEN WITH THE SEED: the statements are not yours to turn. If you find one false, say at which input.
  Laid BY PROGRAM, IN A SANDBOX (cutbox-rows.mjs): the forced cells as the released guide's own fill.sh prints them over the translation 62f1075200e1add9… (all of the seat's roots in one cut). By AI agents, Wed Nov 11 2026. No macro, syntax, notation, axiom, sorry.
-/
import Derived.Test.YtimbdjmplcgilaaChecked
import GoSem.Claim
import GoSem.ClaimJoined
import GoSem.ClaimMapViews
import Derived.JoinedTies
import Derived.KernelRfl
namespace Go.Proofs.Ytimbdjmplcgilaa
/- THE CELL 'sum', in the pinned program and in every row, IS THE sha256 OF THE DUMP (.gsa) THAT YtimbdjmplcgilaaProg.lean LOADS. Nothing in Lean hashes anything: it is a label: what it is worth is what the hold of that sum in a sandbox is worth. -/
noncomputable def Try.pinned : Pinned := { name := "ytimbdjmplcgilaa", sum := "62f1075200e1add940c3fec8e51abfccfa33981c4877989fb3e2fe70159d7870", checked := Try.checked }
namespace Rows
def none {H : Type} : Left H := { results := [], args := [] }

/-- 'latchgarthlaw1.ScTurned': WHATEVER THE INPUT: true; the input reads as it did. -/
def scTurnedSpec : ChangeSpec := { name := "scTurned", fn := fun _ => fun
  | [d1, d2, d3] => { results := [.lit (.bool true)], args := [d1, d2, d3] }
  | _ => none }
def scTurnedRow : OpenClaim := { program := "ytimbdjmplcgilaa", sum := "62f1075200e1add940c3fec8e51abfccfa33981c4877989fb3e2fe70159d7870", func := "latchgarth/latchgarthlaw1.ScTurned", spec := "scTurned", unfollowed := true, recurses := true, plainKeys := false, apart := false }
def ScTurnedSaid : Prop := scTurnedRow.holds Try.pinned (OpenSpec.ofChange scTurnedSpec)

/-- ITS FALSE NEIGHBOUR: 'it returns false'. Refute it at one input. -/
def scTurnedWrong : ChangeSpec := { name := "scTurned", fn := fun _ => fun
  | [d1, d2, d3] => { results := [.lit (.bool false)], args := [d1, d2, d3] }
  | _ => none }
def ScTurnedWrongFalsely : Prop := scTurnedRow.holds Try.pinned (OpenSpec.ofChange scTurnedWrong)

/-- 'latchgarthlaw1.ScIdle': WHATEVER THE INPUT: true; the input reads as it did. -/
def scIdleSpec : ChangeSpec := { name := "scIdle", fn := fun _ => fun
  | [d] => { results := [.lit (.bool true)], args := [d] }
  | _ => none }
def scIdleRow : OpenClaim := { program := "ytimbdjmplcgilaa", sum := "62f1075200e1add940c3fec8e51abfccfa33981c4877989fb3e2fe70159d7870", func := "latchgarth/latchgarthlaw1.ScIdle", spec := "scIdle", unfollowed := true, recurses := true, plainKeys := false, apart := false }
def ScIdleSaid : Prop := scIdleRow.holds Try.pinned (OpenSpec.ofChange scIdleSpec)

/-- ITS FALSE NEIGHBOUR: 'it returns false'. Refute it at one input. -/
def scIdleWrong : ChangeSpec := { name := "scIdle", fn := fun _ => fun
  | [d] => { results := [.lit (.bool false)], args := [d] }
  | _ => none }
def ScIdleWrongFalsely : Prop := scIdleRow.holds Try.pinned (OpenSpec.ofChange scIdleWrong)

/-- 'latchgarthlaw1.TsoTurned': WHATEVER THE INPUT: true; the input reads as it did. -/
def tsoTurnedSpec : ChangeSpec := { name := "tsoTurned", fn := fun _ => fun
  | [d1, d2, d3] => { results := [.lit (.bool true)], args := [d1, d2, d3] }
  | _ => none }
def tsoTurnedRow : OpenClaim := { program := "ytimbdjmplcgilaa", sum := "62f1075200e1add940c3fec8e51abfccfa33981c4877989fb3e2fe70159d7870", func := "latchgarth/latchgarthlaw1.TsoTurned", spec := "tsoTurned", unfollowed := true, recurses := true, plainKeys := false, apart := false }
def TsoTurnedSaid : Prop := tsoTurnedRow.holds Try.pinned (OpenSpec.ofChange tsoTurnedSpec)

/-- ITS FALSE NEIGHBOUR: 'it returns false'. Refute it at one input. -/
def tsoTurnedWrong : ChangeSpec := { name := "tsoTurned", fn := fun _ => fun
  | [d1, d2, d3] => { results := [.lit (.bool false)], args := [d1, d2, d3] }
  | _ => none }
def TsoTurnedWrongFalsely : Prop := tsoTurnedRow.holds Try.pinned (OpenSpec.ofChange tsoTurnedWrong)

/-- 'latchgarthlaw1.ScHas': WHATEVER THE INPUT: true; the input reads as it did. -/
def scHasSpec : ChangeSpec := { name := "scHas", fn := fun _ => fun
  | [d1, d2] => { results := [.lit (.bool true)], args := [d1, d2] }
  | _ => none }
def scHasRow : OpenClaim := { program := "ytimbdjmplcgilaa", sum := "62f1075200e1add940c3fec8e51abfccfa33981c4877989fb3e2fe70159d7870", func := "latchgarth/latchgarthlaw1.ScHas", spec := "scHas", unfollowed := true, recurses := true, plainKeys := false, apart := false }
def ScHasSaid : Prop := scHasRow.holds Try.pinned (OpenSpec.ofChange scHasSpec)

/-- ITS FALSE NEIGHBOUR: 'it returns false'. Refute it at one input. -/
def scHasWrong : ChangeSpec := { name := "scHas", fn := fun _ => fun
  | [d1, d2] => { results := [.lit (.bool false)], args := [d1, d2] }
  | _ => none }
def ScHasWrongFalsely : Prop := scHasRow.holds Try.pinned (OpenSpec.ofChange scHasWrong)

/-- 'latchgarthlaw1.ScAlone': WHATEVER THE INPUT: true; the input reads as it did. -/
def scAloneSpec : ChangeSpec := { name := "scAlone", fn := fun _ => fun
  | [d1, d2] => { results := [.lit (.bool true)], args := [d1, d2] }
  | _ => none }
def scAloneRow : OpenClaim := { program := "ytimbdjmplcgilaa", sum := "62f1075200e1add940c3fec8e51abfccfa33981c4877989fb3e2fe70159d7870", func := "latchgarth/latchgarthlaw1.ScAlone", spec := "scAlone", unfollowed := true, recurses := true, plainKeys := false, apart := false }
def ScAloneSaid : Prop := scAloneRow.holds Try.pinned (OpenSpec.ofChange scAloneSpec)

/-- ITS FALSE NEIGHBOUR: 'it returns false'. Refute it at one input. -/
def scAloneWrong : ChangeSpec := { name := "scAlone", fn := fun _ => fun
  | [d1, d2] => { results := [.lit (.bool false)], args := [d1, d2] }
  | _ => none }
def ScAloneWrongFalsely : Prop := scAloneRow.holds Try.pinned (OpenSpec.ofChange scAloneWrong)

/-- 'latchgarthlaw1.TsoMore': WHATEVER THE INPUT: true; the input reads as it did. -/
def tsoMoreSpec : ChangeSpec := { name := "tsoMore", fn := fun _ => fun
  | [d] => { results := [.lit (.bool true)], args := [d] }
  | _ => none }
def tsoMoreRow : OpenClaim := { program := "ytimbdjmplcgilaa", sum := "62f1075200e1add940c3fec8e51abfccfa33981c4877989fb3e2fe70159d7870", func := "latchgarth/latchgarthlaw1.TsoMore", spec := "tsoMore", unfollowed := true, recurses := true, plainKeys := false, apart := false }
def TsoMoreSaid : Prop := tsoMoreRow.holds Try.pinned (OpenSpec.ofChange tsoMoreSpec)

/-- ITS FALSE NEIGHBOUR: 'it returns false'. Refute it at one input. -/
def tsoMoreWrong : ChangeSpec := { name := "tsoMore", fn := fun _ => fun
  | [d] => { results := [.lit (.bool false)], args := [d] }
  | _ => none }
def TsoMoreWrongFalsely : Prop := tsoMoreRow.holds Try.pinned (OpenSpec.ofChange tsoMoreWrong)

/-- 'latchgarthlaw1.TsoFenced': WHATEVER THE INPUT: true; the input reads as it did. -/
def tsoFencedSpec : ChangeSpec := { name := "tsoFenced", fn := fun _ => fun
  | [d] => { results := [.lit (.bool true)], args := [d] }
  | _ => none }
def tsoFencedRow : OpenClaim := { program := "ytimbdjmplcgilaa", sum := "62f1075200e1add940c3fec8e51abfccfa33981c4877989fb3e2fe70159d7870", func := "latchgarth/latchgarthlaw1.TsoFenced", spec := "tsoFenced", unfollowed := true, recurses := true, plainKeys := false, apart := false }
def TsoFencedSaid : Prop := tsoFencedRow.holds Try.pinned (OpenSpec.ofChange tsoFencedSpec)

/-- ITS FALSE NEIGHBOUR: 'it returns false'. Refute it at one input. -/
def tsoFencedWrong : ChangeSpec := { name := "tsoFenced", fn := fun _ => fun
  | [d] => { results := [.lit (.bool false)], args := [d] }
  | _ => none }
def TsoFencedWrongFalsely : Prop := tsoFencedRow.holds Try.pinned (OpenSpec.ofChange tsoFencedWrong)

/-- 'latchgarthlaw1.TsoNoRace': WHATEVER THE INPUT: true; the input reads as it did. -/
def tsoNoRaceSpec : ChangeSpec := { name := "tsoNoRace", fn := fun _ => fun
  | [d] => { results := [.lit (.bool true)], args := [d] }
  | _ => none }
def tsoNoRaceRow : OpenClaim := { program := "ytimbdjmplcgilaa", sum := "62f1075200e1add940c3fec8e51abfccfa33981c4877989fb3e2fe70159d7870", func := "latchgarth/latchgarthlaw1.TsoNoRace", spec := "tsoNoRace", unfollowed := true, recurses := true, plainKeys := false, apart := false }
def TsoNoRaceSaid : Prop := tsoNoRaceRow.holds Try.pinned (OpenSpec.ofChange tsoNoRaceSpec)

/-- ITS FALSE NEIGHBOUR: 'it returns false'. Refute it at one input. -/
def tsoNoRaceWrong : ChangeSpec := { name := "tsoNoRace", fn := fun _ => fun
  | [d] => { results := [.lit (.bool false)], args := [d] }
  | _ => none }
def TsoNoRaceWrongFalsely : Prop := tsoNoRaceRow.holds Try.pinned (OpenSpec.ofChange tsoNoRaceWrong)

/-- 'latchgarthtop.TopSwaps': WHATEVER THE INPUT: true; the input reads as it did. -/
def topSwapsSpec : ChangeSpec := { name := "topSwaps", fn := fun _ => fun
  | [d] => { results := [.lit (.bool true)], args := [d] }
  | _ => none }
def topSwapsRow : OpenClaim := { program := "ytimbdjmplcgilaa", sum := "62f1075200e1add940c3fec8e51abfccfa33981c4877989fb3e2fe70159d7870", func := "latchgarth/latchgarthtop.TopSwaps", spec := "topSwaps", unfollowed := true, recurses := true, plainKeys := false, apart := false }
def TopSwapsSaid : Prop := topSwapsRow.holds Try.pinned (OpenSpec.ofChange topSwapsSpec)

/-- ITS FALSE NEIGHBOUR: 'it returns false'. Refute it at one input. -/
def topSwapsWrong : ChangeSpec := { name := "topSwaps", fn := fun _ => fun
  | [d] => { results := [.lit (.bool false)], args := [d] }
  | _ => none }
def TopSwapsWrongFalsely : Prop := topSwapsRow.holds Try.pinned (OpenSpec.ofChange topSwapsWrong)

/- THE SECOND FORM. 'bulk': how many values and letters a reading holds, each counted each time it is reached (what is shared counts as often as it is met; a slice's spare places count too). A statement '..UptoSaid' is the law's where the arguments, and the package variables that the reading takes, are together of bulk at most 1048576: NARROWER than '..Said'. Prove '..Said' where nothing that the law and all that it calls make is longer than what came in: it says more and counts as full. Else prove '..UptoSaid'. A law counts once. -/
mutual
def uptoBulk {H : Type} : DataW H → Nat
  | .lit (.string bytes) => bytes.length + 1
  | .lit _ => 1
  | .nil => 1
  | .ptr d => uptoBulk d + 1
  | .slice elems spare => uptoBulkAll elems + uptoBulkAll spare + 1
  | .agg parts => uptoBulkAll parts + 1
  | .iface _ d => uptoBulk d + 1
  | .map entries => uptoBulkEntries entries + 1
  | .held _ => 1
def uptoBulkAll {H : Type} : List (DataW H) → Nat
  | [] => 0
  | d :: r => uptoBulk d + uptoBulkAll r
def uptoBulkEntries {H : Type} : List (Lit × DataW H) → Nat
  | [] => 0
  | x :: r => uptoBulkEntry x + uptoBulkEntries r
def uptoBulkEntry {H : Type} : Lit × DataW H → Nat
  | (.string bytes, d) => bytes.length + uptoBulk d + 1
  | (_, d) => uptoBulk d + 1
 end
def uptoSmall : (H : Type) → List (DataW H) → Bool := fun _ ds => decide (uptoBulkAll ds ≤ 1048576)
def OpenSpec.upto (s : _root_.Go.ChangeSpec) : _root_.Go.OpenSpec := { _root_.Go.OpenSpec.ofChange s with cond := some uptoSmall }

/-- 'latchgarthlaw1.ScTurned', WHERE WHAT IT READS IS OF BULK AT MOST 1048576: true; the input reads as it did. -/
def scTurnedUptoRow : OpenClaim := { program := "ytimbdjmplcgilaa", sum := "62f1075200e1add940c3fec8e51abfccfa33981c4877989fb3e2fe70159d7870", func := "latchgarth/latchgarthlaw1.ScTurned", spec := "scTurned", unfollowed := true, recurses := true, plainKeys := false, apart := false, narrowed := true }
def ScTurnedUptoSaid : Prop := scTurnedUptoRow.holds Try.pinned (OpenSpec.upto scTurnedSpec)

/-- 'latchgarthlaw1.ScIdle', WHERE WHAT IT READS IS OF BULK AT MOST 1048576: true; the input reads as it did. -/
def scIdleUptoRow : OpenClaim := { program := "ytimbdjmplcgilaa", sum := "62f1075200e1add940c3fec8e51abfccfa33981c4877989fb3e2fe70159d7870", func := "latchgarth/latchgarthlaw1.ScIdle", spec := "scIdle", unfollowed := true, recurses := true, plainKeys := false, apart := false, narrowed := true }
def ScIdleUptoSaid : Prop := scIdleUptoRow.holds Try.pinned (OpenSpec.upto scIdleSpec)

/-- 'latchgarthlaw1.TsoTurned', WHERE WHAT IT READS IS OF BULK AT MOST 1048576: true; the input reads as it did. -/
def tsoTurnedUptoRow : OpenClaim := { program := "ytimbdjmplcgilaa", sum := "62f1075200e1add940c3fec8e51abfccfa33981c4877989fb3e2fe70159d7870", func := "latchgarth/latchgarthlaw1.TsoTurned", spec := "tsoTurned", unfollowed := true, recurses := true, plainKeys := false, apart := false, narrowed := true }
def TsoTurnedUptoSaid : Prop := tsoTurnedUptoRow.holds Try.pinned (OpenSpec.upto tsoTurnedSpec)

/-- 'latchgarthlaw1.ScHas', WHERE WHAT IT READS IS OF BULK AT MOST 1048576: true; the input reads as it did. -/
def scHasUptoRow : OpenClaim := { program := "ytimbdjmplcgilaa", sum := "62f1075200e1add940c3fec8e51abfccfa33981c4877989fb3e2fe70159d7870", func := "latchgarth/latchgarthlaw1.ScHas", spec := "scHas", unfollowed := true, recurses := true, plainKeys := false, apart := false, narrowed := true }
def ScHasUptoSaid : Prop := scHasUptoRow.holds Try.pinned (OpenSpec.upto scHasSpec)

/-- 'latchgarthlaw1.ScAlone', WHERE WHAT IT READS IS OF BULK AT MOST 1048576: true; the input reads as it did. -/
def scAloneUptoRow : OpenClaim := { program := "ytimbdjmplcgilaa", sum := "62f1075200e1add940c3fec8e51abfccfa33981c4877989fb3e2fe70159d7870", func := "latchgarth/latchgarthlaw1.ScAlone", spec := "scAlone", unfollowed := true, recurses := true, plainKeys := false, apart := false, narrowed := true }
def ScAloneUptoSaid : Prop := scAloneUptoRow.holds Try.pinned (OpenSpec.upto scAloneSpec)

/-- 'latchgarthlaw1.TsoMore', WHERE WHAT IT READS IS OF BULK AT MOST 1048576: true; the input reads as it did. -/
def tsoMoreUptoRow : OpenClaim := { program := "ytimbdjmplcgilaa", sum := "62f1075200e1add940c3fec8e51abfccfa33981c4877989fb3e2fe70159d7870", func := "latchgarth/latchgarthlaw1.TsoMore", spec := "tsoMore", unfollowed := true, recurses := true, plainKeys := false, apart := false, narrowed := true }
def TsoMoreUptoSaid : Prop := tsoMoreUptoRow.holds Try.pinned (OpenSpec.upto tsoMoreSpec)

/-- 'latchgarthlaw1.TsoFenced', WHERE WHAT IT READS IS OF BULK AT MOST 1048576: true; the input reads as it did. -/
def tsoFencedUptoRow : OpenClaim := { program := "ytimbdjmplcgilaa", sum := "62f1075200e1add940c3fec8e51abfccfa33981c4877989fb3e2fe70159d7870", func := "latchgarth/latchgarthlaw1.TsoFenced", spec := "tsoFenced", unfollowed := true, recurses := true, plainKeys := false, apart := false, narrowed := true }
def TsoFencedUptoSaid : Prop := tsoFencedUptoRow.holds Try.pinned (OpenSpec.upto tsoFencedSpec)

/-- 'latchgarthlaw1.TsoNoRace', WHERE WHAT IT READS IS OF BULK AT MOST 1048576: true; the input reads as it did. -/
def tsoNoRaceUptoRow : OpenClaim := { program := "ytimbdjmplcgilaa", sum := "62f1075200e1add940c3fec8e51abfccfa33981c4877989fb3e2fe70159d7870", func := "latchgarth/latchgarthlaw1.TsoNoRace", spec := "tsoNoRace", unfollowed := true, recurses := true, plainKeys := false, apart := false, narrowed := true }
def TsoNoRaceUptoSaid : Prop := tsoNoRaceUptoRow.holds Try.pinned (OpenSpec.upto tsoNoRaceSpec)

/-- 'latchgarthtop.TopSwaps', WHERE WHAT IT READS IS OF BULK AT MOST 1048576: true; the input reads as it did. -/
def topSwapsUptoRow : OpenClaim := { program := "ytimbdjmplcgilaa", sum := "62f1075200e1add940c3fec8e51abfccfa33981c4877989fb3e2fe70159d7870", func := "latchgarth/latchgarthtop.TopSwaps", spec := "topSwaps", unfollowed := true, recurses := true, plainKeys := false, apart := false, narrowed := true }
def TopSwapsUptoSaid : Prop := topSwapsUptoRow.holds Try.pinned (OpenSpec.upto topSwapsSpec)

end Rows
end Go.Proofs.Ytimbdjmplcgilaa
