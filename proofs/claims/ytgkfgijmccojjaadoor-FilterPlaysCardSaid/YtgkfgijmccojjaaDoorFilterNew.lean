import Derived.Test.YtgkfgijmccojjaaDoorFilterStep
import Derived.Test.YtgkfgijmccojjaaDoorFilterRep
import Derived.Test.YtgkfgijmccojjaaDoorHands
import Derived.Test.YtgkfgijmccojjaaDoorInts
import Derived.IntWalk
import Derived.Deep.RegionWith
namespace Go.Proofs.YtgkfgijmccojjaaDoor.Filter
open Go.RowKit
set_option linter.unusedVariables false

theorem filled_row {w : World} {g n : Nat} {cur : Array Value} {T : TypeId} (hb : Blk w g cur T) (hf : Filled el n cur) :
    Row w g n (fun j => j * 3) (fun _ => 1) ∧ Row w g n (fun j => j * 3 + 1) (fun _ => 1) ∧ Row w g n (fun j => j * 3 + 2) (fun _ => 0) := by
  have hl : el.length = 3 := rfl
  refine ⟨fun j hj => ⟨?_, hb.free _⟩, fun j hj => ⟨?_, hb.free _⟩, fun j hj => ⟨?_, hb.free _⟩⟩
  · rw [hb.cell, hf (j * 3) (by rw [hl]; omega), hl, show j * 3 % 3 = 0 from by omega]; rfl
  · rw [hb.cell, hf (j * 3 + 1) (by rw [hl]; omega), hl, show (j * 3 + 1) % 3 = 1 from by omega]; rfl
  · rw [hb.cell, hf (j * 3 + 2) (by rw [hl]; omega), hl, show (j * 3 + 2) % 3 = 2 from by omega]; rfl

theorem made_of {n : Nat} {w w1 : World} {bW g Lb : Nat} {cur : Array Value} (hL : Lb = w1.heap.size) (hW : Row w1 bW (2 * n) (fun j => j) (fun _ => 0)) (hb : Blk w1 g cur 113) (hf : Filled el n cur)
    (hbel : Below w.heap.size w w1) (h0 : w.heap.size ≤ bW) (h1 : bW < w1.heap.size) (h2 : w.heap.size ≤ g) (hne : bW ≠ g) :
    Made n w (.returned (.tuple #[.pointer (some ⟨Lb, 0, none⟩), .nilIface])) (w1.alloc (.cells #[.int .i64 n, .slice (some ⟨bW, 0, none⟩) (2 * n) (2 * n), .slice (some ⟨g, 0, none⟩) n n] 115)) := by
  subst hL
  have hlt := hb.lt
  have hs1 := hbel.size
  obtain ⟨r0, r1, r2⟩ := filled_row (hb.alloc (.cells #[.int .i64 n, .slice (some ⟨bW, 0, none⟩) (2 * n) (2 * n), .slice (some ⟨g, 0, none⟩) n n] 115)) hf
  refine ⟨w1.heap.size, [w1.heap.size, bW, g], rfl, ⟨bW, g, n, rfl, Nat.le_refl _, by omega, by omega, by omega, Blk.new _ _ _, hW.alloc h1 _, r0, r1, r2⟩, hbel.alloc hs1 _, ?_⟩
  intro x hx
  simp at hx
  simp
  omega
theorem elA (w : World) (c : Array Value) : Blk ((w.alloc (.cells c 3)).alloc (.cells #[.int .i64 1, .int .i64 1, .int .i64 0] 113)).drew (w.heap.size + 1) el.toArray 113 := by
  have := Blk.new (w.alloc (.cells c 3)) el.toArray 113
  have e : (w.alloc (.cells c 3)).heap.size = w.heap.size + 1 := by simp
  rw [e] at this
  exact this
theorem elB (w : World) (c : Array Value) : Blk ((w.alloc (.cells #[.int .i64 1, .int .i64 1, .int .i64 0] 113)).alloc (.cells c 3)).drew w.heap.size el.toArray 113 := (Blk.new w el.toArray 113).alloc _
theorem elC (w : World) : Blk (w.alloc (.cells #[.int .i64 1, .int .i64 1, .int .i64 0] 113)).drew w.heap.size el.toArray 113 := Blk.new w el.toArray 113

set_option maxHeartbeats 1000000 in
set_option maxRecDepth 100000 in
theorem new_any (n : Nat) (h1 : 1 ≤ n) (h4 : n ≤ 4) (w : World) : Calls Tryd.prog 51 #[.int .i64 n] w (Made n w) := by
  have hmk := fun w => make_ints (2 * (n : Int)) (by omega) (by omega) w
  have etn : (2 * (n : Int)).toNat = 2 * n := by omega
  simp only [etn] at hmk
  have hn1 : 1 ≤ (n : Int) := by omega
  have hn4 : (n : Int) ≤ 4 := by omega
  clear etn
  have hw0 : IntKind.i64.wrap (2 * (n : Int)) = 2 * (n : Int) := IntWalk.i64_in _ (by omega)
  go_enter Tryd.func51, Tryd.ntmps51
  go_wp2_with fail
  refine (hands_ok hn1 hn4).mono ?_
  rintro e w' ⟨rfl, rfl⟩
  go_wp2_with fail
  go_region_with (go_at_call 84; refine (repeat_any n h1 h4 _ _ ?_).mono ?_; (first | exact elA _ _ | exact elB _ _ | exact elC _); rintro e w1 ⟨g, cur, rfl, hg, hb, hf, hbel⟩)
  all_goals go_wp2
  · have hg0 : w.heap.size + 2 ≤ g := by simpa using hg
    have hW0 : Row ((w.alloc (.cells (zeros (2 * n)) 3)).alloc (.cells #[.int .i64 1, .int .i64 1, .int .i64 0] 113)).drew w.heap.size (2 * n) (fun j => j) (fun _ => 0) := (zeros_row (Blk.new _ _ _)).alloc (by simp <;> omega) _
    have hW1 := hW0.keep (hbel.block _ (by simp <;> omega))
    have hbel1 := (((Below.refl w.heap.size w).alloc (Nat.le_refl _) (.cells (zeros (2 * n)) 3)).alloc (by simp <;> omega) (.cells #[.int .i64 1, .int .i64 1, .int .i64 0] 113)).drew.trans (hbel.mono (by simp <;> omega))
    have hl := hb.lt
    go_ret2
    exact made_of rfl hW1 hb hf hbel1 (Nat.le_refl _) (by omega) (by omega) (by omega)
  · have hg0 : w.heap.size + 2 ≤ g := by simpa using hg
    have hW0 : Row ((w.alloc (.cells #[.int .i64 1, .int .i64 1, .int .i64 0] 113)).alloc (.cells (zeros (2 * n)) 3)).drew (w.heap.size + 1) (2 * n) (fun j => j) (fun _ => 0) := by
      have := zeros_row (Blk.new (w.alloc (.cells #[.int .i64 1, .int .i64 1, .int .i64 0] 113)) (zeros (2 * n)) 3)
      have e : (w.alloc (.cells #[.int .i64 1, .int .i64 1, .int .i64 0] 113)).heap.size = w.heap.size + 1 := by simp
      rw [e] at this
      exact this
    have hW1 := hW0.keep (hbel.block _ (by simp <;> omega))
    have hbel1 := (((Below.refl w.heap.size w).alloc (Nat.le_refl _) (.cells #[.int .i64 1, .int .i64 1, .int .i64 0] 113)).alloc (by simp <;> omega) (.cells (zeros (2 * n)) 3)).drew.trans (hbel.mono (by simp <;> omega))
    have hl := hb.lt
    go_ret2
    exact made_of rfl hW1 hb hf hbel1 (by omega) (by omega) (by omega) (by omega)
  · have hg0 : w.heap.size + 1 ≤ g := by simpa using hg
    have hbel1 := ((Below.refl w.heap.size w).alloc (Nat.le_refl _) (.cells #[.int .i64 1, .int .i64 1, .int .i64 0] 113)).drew.trans (hbel.mono (by simp <;> omega))
    have hl := hb.lt
    have hs1 := hbel1.size
    go_ret2
    exact made_of (w1 := w1.alloc (.cells (zeros (2 * n)) 3)) (by simp <;> omega) (zeros_row (Blk.new _ _ _)) (hb.alloc _) hf (hbel1.alloc hs1 _) hs1 (by simp <;> omega) (by omega) (by omega)

theorem new_no (n : Int) (h : n < 1 ∨ 4 < n) (w : World) : Calls Tryd.prog 51 #[.int .i64 n] w fun e w' => e = .returned (.tuple #[.pointer none, .iface 77 (.int .i64 1)]) ∧ w = w' := by
  by_cases h1 : n < 1
  · clear h
    go_enter Tryd.func51, Tryd.ntmps51
    go_wp2
    go_ret2
    exact ⟨rfl, rfl⟩
  · have h1' : 1 ≤ n := by omega
    have h4 : decide (n ≤ 4) = false := by simp; omega
    clear h h1
    go_enter Tryd.func51, Tryd.ntmps51
    go_wp2
    go_ret2
    exact ⟨rfl, rfl⟩
end Go.Proofs.YtgkfgijmccojjaaDoor.Filter
