import Derived.Test.YtllbmjnimfpghaaDoorTold2
import Derived.Test.YtllbmjnimfpghaaDoorPrBase
namespace Go.Proofs.YtllbmjnimfpghaaDoor
open Go.RowKit
set_option linter.unusedVariables false

set_option maxHeartbeats 1000000 in
theorem told_any (w : World) (c : Int) (hg : TypeLaid w) : Calls Tryd.prog 10 #[.iface 37 (.int .i64 c)] w fun e w' => e = .returned (.int .i64 c) ∧ Below w.heap.size w w' := by
  have hpos := hg.pos
  have hb0 : Below w.heap.size w (w.alloc (.cells #[.int .i64 0] 37)) := (Below.refl _ _).alloc (Nat.le_refl _) _
  have hg1 : TypeLaid (w.alloc (.cells #[.int .i64 0] 37)) := hg.below hb0 hpos
  have hB : Blk (w.alloc (.cells #[.int .i64 0] 37)) w.heap.size #[.int .i64 0] 37 := Blk.new _ _ _
  go_enter Tryd.func10, Tryd.ntmps10
  go_wp2_with fail
  generalize w.alloc (.cells #[.int .i64 0] 37) = w1 at hb0 hg1 hB ⊢
  refine (as_one c (.int .i64 0) hg1 (hB.cell 0) (hB.free 0) hB.lt).mono ?_
  rintro e w2 ⟨rfl, hc, hbel⟩
  have hbw := hb0.trans hbel
  clear hb0 hbel hB hg1 hg hpos
  go_wp2_with fail
  go_ret
  exact ⟨rfl, hbw⟩
set_option maxHeartbeats 1000000 in
theorem error_c (w : World) (c : Int) (hg : TypeLaid w) : Calls Tryd.prog 4 #[.iface 37 (.int .i64 c), .int .i64 c] w fun e w' => e = .returned (.bool true) ∧ Below w.heap.size w w' := by
  have Hg := Lib.hid hg
  clear hg
  go_enter Tryd.func4, Tryd.ntmps4
  go_wp2_with fail
  refine (told_any _ c Hg.out).mono ?_
  rintro e w2 ⟨rfl, hbel⟩
  go_wp2_with fail
  go_ret
  exact ⟨rfl, hbel⟩
/-- The statements' Error: what is told is the number. -/
theorem error_any (w : World) (c : Int) (hg : TypeLaid w) : Calls Tryd.prog 4 #[Pr.errVal c, .int .i64 c] w fun e w' => e = .returned (.bool true) ∧ Below w.heap.size w w' := by
  by_cases h : c = 0
  · subst h; exact error_nil w
  · unfold Pr.errVal; rw [if_neg h]; exact error_c w c hg
end Go.Proofs.YtllbmjnimfpghaaDoor
