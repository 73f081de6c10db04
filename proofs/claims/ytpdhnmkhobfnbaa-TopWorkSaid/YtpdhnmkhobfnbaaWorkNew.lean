import Derived.Test.YtpdhnmkhobfnbaaWorkStep2
import Derived.Test.YtpdhnmkhobfnbaaHands
import Derived.Test.YtpdhnmkhobfnbaaInts
namespace Go.Proofs.Ytpdhnmkhobfnbaa.Work
open Go.RowKit
set_option linter.unusedVariables false

theorem infoHand : (Try.prog.info? 43).map (fun i => (i.zero, i.size, i.bytes)) = some (some (.agg #[.int .i64 0, .int .i64 0, .int .i64 0, .int .i64 0]), 4, 32) := by kernel_rfl
theorem made_hands (n : Nat) : madeCells #[.int .i64 0, .int .i64 0, .int .i64 0, .int .i64 0] n = zeros n := by
  unfold madeCells zeros
  apply Array.ext (by simp)
  intro i h1 h2
  have h4 : i % 4 < 4 := Nat.mod_lt _ (by omega)
  obtain e | e | e | e : i % 4 = 0 ∨ i % 4 = 1 ∨ i % 4 = 2 ∨ i % 4 = 3 := by omega
  all_goals simp [e]
theorem make_hands (n : Nat) (hn : n ≤ 1000) (w : World) :
    (Instr.makeSlice 35 (.int .i64 (n : Int)) (.int .i64 (n : Int))).run Try.prog w = .ok (.slice (some ⟨w.heap.size, 0, none⟩) n n) (w.alloc (.cells (zeros (n * 4)) 43)) := by
  obtain ⟨i0, hi, hz0, hz1, hz2⟩ := info_parts infoHand
  have h := run_make (P := Try.prog) w 35 43 i0 _ Try.underlying35 hi hz0 .i64 .i64 (n : Int) (n : Int) (by omega) (by omega) (by rw [hz2]; omega) (by omega)
  rw [h]
  simp [hz1, Value.cells, made_hands]

def Made (n : Nat) (w : World) (e : Ending) (w' : World) : Prop :=
  ∃ L fb, e = .returned (.tuple #[.pointer (some ⟨L, 0, none⟩), .nilIface]) ∧ Rep w' n L fb first ∧ Below w.heap.size w w' ∧ (∀ k ∈ fb, w.heap.size ≤ k ∧ k < w'.heap.size)

set_option maxHeartbeats 1000000 in
set_option maxRecDepth 100000 in
theorem new_any (n : Nat) (h1 : 1 ≤ n) (h4 : n ≤ 4) (w : World) : Calls Try.prog 4 #[.int .i64 n] w (Made n w) := by
  have hmk := fun w => make_hands n (by omega) w
  have hn1 : 1 ≤ (n : Int) := by omega
  have hn4 : (n : Int) ≤ 4 := by omega
  go_enter Try.func4, Try.ntmps4
  go_wp2_with fail
  refine (hands_ok hn1 hn4).mono ?_
  rintro e w' ⟨rfl, rfl⟩
  go_wp2_with fail
  go_ret2
  have hz := Blk.new w (zeros (n * 4)) 43
  have row : ∀ o, o < 4 → Row ((w.alloc (.cells (zeros (n * 4)) 43)).alloc (.cells (cells first n w.heap.size n) 38)) w.heap.size n (fun j => j * 4 + o) (fun _ => 0) := by
    intro o ho
    refine Row.alloc (w := w.alloc (.cells (zeros (n * 4)) 43)) (fun j hj => ⟨?_, hz.free _⟩) (by simp) _
    rw [hz.cell]
    have hlt : j * 4 + o < n * 4 := by omega
    simp [zeros, hlt]
  refine ⟨w.heap.size + 1, [w.heap.size + 1, w.heap.size], by simp, ⟨w.heap.size, n, rfl, Nat.le_refl _, by omega, ?_, row 0 (by omega), row 1 (by omega), row 2 (by omega), row 3 (by omega)⟩, ((Below.refl _ _).alloc (Nat.le_refl _) _).alloc (by simp) _, ?_⟩
  · have := Blk.new (w.alloc (.cells (zeros (n * 4)) 43)) (cells first n w.heap.size n) 38
    have e : (w.alloc (.cells (zeros (n * 4)) 43)).heap.size = w.heap.size + 1 := by simp
    rw [e] at this
    exact this
  · intro k hk
    simp at hk
    simp
    omega
theorem new_no (n : Int) (h : n < 1 ∨ 4 < n) (w : World) : Calls Try.prog 4 #[.int .i64 n] w fun e w' => e = .returned (.tuple #[.pointer none, .iface 39 (.int .i64 1)]) ∧ w = w' := by
  by_cases h1 : n < 1
  · clear h
    go_enter Try.func4, Try.ntmps4
    go_wp2
    go_ret2
    exact ⟨rfl, rfl⟩
  · have h1' : 1 ≤ n := by omega
    have h4 : decide (n ≤ 4) = false := by simp; omega
    clear h h1
    go_enter Try.func4, Try.ntmps4
    go_wp2
    go_ret2
    exact ⟨rfl, rfl⟩
end Go.Proofs.Ytpdhnmkhobfnbaa.Work
