import Derived.Test.YtllbmjnimfpghaaDoorTold
namespace Go.Proofs.YtllbmjnimfpghaaDoor
open Go.RowKit
set_option linter.unusedVariables false

/-- What errors.errorType holds. -/
def TypeLaid (w : World) : Prop := w.cell? ⟨0, 0, none⟩ = some (.iface 78 (.agg #[.pointer (some ⟨1, 28, none⟩)]))
theorem TypeLaid.below {w w' : World} {B : Nat} (h : TypeLaid w) (hb : Below B w w') (hB : 0 < B) : TypeLaid w' := by
  unfold TypeLaid at *; rw [hb.cell (p := ⟨0, 0, none⟩) hB]; exact h
theorem TypeLaid.pos {w : World} (h : TypeLaid w) : 0 < w.heap.size := by
  unfold TypeLaid at h
  rcases Nat.eq_zero_or_pos w.heap.size with h0 | h1
  · simp [World.cell?, h0] at h
  · exact h1

set_option maxHeartbeats 1000000 in
theorem told_nil (w : World) : Calls Tryd.prog 10 #[.nilIface] w fun e w' => e = .returned (.int .i64 0) ∧ Below w.heap.size w w' := by
  go_enter Tryd.func10, Tryd.ntmps10
  go_wp2_with fail
  go_ret
  exact ⟨rfl, Below.refl _ _⟩

/-- errors.As finds the Errno itself; only the target, and what is new, is written. -/
theorem as_one {w : World} {b : Nat} (e : Int) (old : Value) (hg : TypeLaid w) (ht : w.cell? ⟨b, 0, none⟩ = some old) (hf : w.frozen? ⟨b, 0, none⟩ = false) (hb : b < w.heap.size) :
    Calls Tryd.prog 22 #[.iface 37 (.int .i64 e), .iface 60 (.pointer (some ⟨b, 0, none⟩))] w fun ev w' => ev = .returned (.bool true) ∧ w'.cell? ⟨b, 0, none⟩ = some (.int .i64 e) ∧ Below b w w' := by
  refine (Told.as_hit e ⟨b, 0, none⟩ old w hg ht hf).mono ?_
  rintro ev w' ⟨rfl, rfl⟩
  refine ⟨rfl, ?_, ?_⟩
  · refine World.cell?_setCell_same _ _ _ (u := old) ?_
    rw [World.cell?_alloc_lt _ _ ⟨b, 0, none⟩ (by simp; omega), World.cell?_alloc_lt _ _ ⟨b, 0, none⟩ (by simp; omega), World.cell?_alloc_lt _ _ ⟨b, 0, none⟩ (by simp; omega), World.cell?_alloc_lt _ _ ⟨b, 0, none⟩ (by exact hb)]
    exact ht
  · exact (((((Below.refl b w).alloc (by omega) _).alloc (by simp; omega) _).alloc (by simp; omega) _).alloc (by simp; omega) _).setCell (p := ⟨b, 0, none⟩) (show b ≤ b from Nat.le_refl _) _

set_option maxHeartbeats 1000000 in
theorem told_one (w : World) (hg : TypeLaid w) : Calls Tryd.prog 10 #[.iface 37 (.int .i64 1)] w fun e w' => e = .returned (.int .i64 1) ∧ Below w.heap.size w w' := by
  have hpos := hg.pos
  have hb0 : Below w.heap.size w (w.alloc (.cells #[.int .i64 0] 37)) := (Below.refl _ _).alloc (Nat.le_refl _) _
  have hg1 : TypeLaid (w.alloc (.cells #[.int .i64 0] 37)) := hg.below hb0 hpos
  have hB : Blk (w.alloc (.cells #[.int .i64 0] 37)) w.heap.size #[.int .i64 0] 37 := Blk.new _ _ _
  go_enter Tryd.func10, Tryd.ntmps10
  go_wp2_with fail
  generalize w.alloc (.cells #[.int .i64 0] 37) = w1 at hb0 hg1 hB ⊢
  refine (as_one 1 (.int .i64 0) hg1 (hB.cell 0) (hB.free 0) hB.lt).mono ?_
  rintro e w2 ⟨rfl, hc, hbel⟩
  have hbw := hb0.trans hbel
  clear hb0 hbel hB hg1 hg hpos
  go_wp2_with fail
  go_ret
  exact ⟨rfl, hbw⟩

set_option maxHeartbeats 1000000 in
/-- The statements' Error. -/
theorem error_nil (w : World) : Calls Tryd.prog 4 #[.nilIface, .int .i64 0] w fun e w' => e = .returned (.bool true) ∧ Below w.heap.size w w' := by
  go_enter Tryd.func4, Tryd.ntmps4
  go_wp2_with fail
  refine (told_nil _).mono ?_
  rintro e w2 ⟨rfl, hbel⟩
  go_wp2_with fail
  go_ret
  exact ⟨rfl, hbel⟩
set_option maxHeartbeats 1000000 in
theorem error_one (w : World) (hg : TypeLaid w) : Calls Tryd.prog 4 #[.iface 37 (.int .i64 1), .int .i64 1] w fun e w' => e = .returned (.bool true) ∧ Below w.heap.size w w' := by
  have Hg := Lib.hid hg
  clear hg
  go_enter Tryd.func4, Tryd.ntmps4
  go_wp2_with fail
  refine (told_one _ Hg.out).mono ?_
  rintro e w2 ⟨rfl, hbel⟩
  go_wp2_with fail
  go_ret
  exact ⟨rfl, hbel⟩
end Go.Proofs.YtllbmjnimfpghaaDoor
