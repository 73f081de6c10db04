import Derived.Test.YtimbdjmplcgilaaDoorPrLine
import Derived.Test.YtimbdjmplcgilaaDoorScPlain
import Derived.Deep.CutRange
namespace Go.Proofs.YtimbdjmplcgilaaDoor.Sc
open Go.RowKit Pr
set_option linter.unusedVariables false

/-- Two lines in boxes. -/
structure TwoBox (w wx : World) (x y : Ln) : Prop where
  bel : Below w.heap.size w wx
  size : w.heap.size + 2 ≤ wx.heap.size
  bx : Blk wx w.heap.size #[.int .i64 x.k, .int .i64 x.r, .int .i64 x.w, .int .i64 x.v] 40
  by' : Blk wx (w.heap.size + 1) #[.int .i64 y.k, .int .i64 y.r, .int .i64 y.w, .int .i64 y.v] 40
theorem twoBox (w : World) (x y : Ln) : TwoBox w ((w.alloc (.cells #[.int .i64 x.k, .int .i64 x.r, .int .i64 x.w, .int .i64 x.v] 40)).alloc (.cells #[.int .i64 y.k, .int .i64 y.r, .int .i64 y.w, .int .i64 y.v] 40)) x y := by
  refine ⟨((Below.refl _ _).alloc (Nat.le_refl _) _).alloc (by simp) _, by simp, (Blk.new _ _ _).alloc _, ?_⟩
  have h := Blk.new (w.alloc (.cells #[.int .i64 x.k, .int .i64 x.r, .int .i64 x.w, .int .i64 x.v] 40)) #[.int .i64 y.k, .int .i64 y.r, .int .i64 y.w, .int .i64 y.v] 40
  simpa using h
theorem TwoBox.below {w wx w' : World} {x y : Ln} (h : TwoBox w wx x y) (k : Below wx.heap.size wx w') : TwoBox w w' x y :=
  ⟨h.bel.trans (k.mono (by have := h.size; omega)), Nat.le_trans h.size k.size, h.bx.below k (by have := h.size; omega), h.by'.below k (by have := h.size; omega)⟩

set_option maxHeartbeats 2000000 in
set_option maxRecDepth 100000 in
theorem clash_n1 {w : World} {x y : Ln} (h : x.k < 1 ∨ 3 < x.k) :
    Calls Tryd.prog 33 #[.agg #[.int .i64 x.k, .int .i64 x.r, .int .i64 x.w, .int .i64 x.v], .agg #[.int .i64 y.k, .int .i64 y.r, .int .i64 y.w, .int .i64 y.v]] w fun e w' => e = .returned (.bool false) ∧ Below w.heap.size w w' := by
  have HX := Lib.hid (twoBox w x y)
  go_enter Tryd.func33, Tryd.ntmps33
  go_upto_region 1 with fail
  generalize (w.alloc (.cells #[.int .i64 x.k, .int .i64 x.r, .int .i64 x.w, .int .i64 x.v] 40)).alloc (.cells #[.int .i64 y.k, .int .i64 y.r, .int .i64 y.w, .int .i64 y.v] 40) = wx at HX ⊢
  have wxx0 : wx.cell? ⟨w.heap.size, 0, none⟩ = some (.int .i64 x.k) := HX.out.bx.cell 0
  have wxy0 : wx.cell? ⟨w.heap.size + 1, 0, none⟩ = some (.int .i64 y.k) := HX.out.by'.cell 0
  have wxx1 : wx.cell? ⟨w.heap.size, 1, none⟩ = some (.int .i64 x.r) := HX.out.bx.cell 1
  have wxy1 : wx.cell? ⟨w.heap.size + 1, 1, none⟩ = some (.int .i64 y.r) := HX.out.by'.cell 1
  have wxx2 : wx.cell? ⟨w.heap.size, 2, none⟩ = some (.int .i64 x.w) := HX.out.bx.cell 2
  have wxy2 : wx.cell? ⟨w.heap.size + 1, 2, none⟩ = some (.int .i64 y.w) := HX.out.by'.cell 2
  have wxx3 : wx.cell? ⟨w.heap.size, 3, none⟩ = some (.int .i64 x.v) := HX.out.bx.cell 3
  have wxy3 : wx.cell? ⟨w.heap.size + 1, 3, none⟩ = some (.int .i64 y.v) := HX.out.by'.cell 3
  go_wp2_with fail
  refine (touches_no h).mono ?_
  rintro e w1 ⟨rfl, hb⟩
  replace HX := Lib.hid (HX.out.below hb)
  clear wxx0 wxy0 wxx1 wxy1 wxx2 wxy2 wxx3 wxy3
  clear hb
  go_wp2_with fail
  go_ret
  exact ⟨rfl, HX.out.bel⟩

set_option maxHeartbeats 2000000 in
set_option maxRecDepth 100000 in
theorem clash_n2 {w : World} {x y : Ln} (h1 : 1 ≤ x.k) (h2 : x.k ≤ 3) (h : y.k < 1 ∨ 3 < y.k) :
    Calls Tryd.prog 33 #[.agg #[.int .i64 x.k, .int .i64 x.r, .int .i64 x.w, .int .i64 x.v], .agg #[.int .i64 y.k, .int .i64 y.r, .int .i64 y.w, .int .i64 y.v]] w fun e w' => e = .returned (.bool false) ∧ Below w.heap.size w w' := by
  have HX := Lib.hid (twoBox w x y)
  go_enter Tryd.func33, Tryd.ntmps33
  go_upto_region 1 with fail
  generalize (w.alloc (.cells #[.int .i64 x.k, .int .i64 x.r, .int .i64 x.w, .int .i64 x.v] 40)).alloc (.cells #[.int .i64 y.k, .int .i64 y.r, .int .i64 y.w, .int .i64 y.v] 40) = wx at HX ⊢
  have wxx0 : wx.cell? ⟨w.heap.size, 0, none⟩ = some (.int .i64 x.k) := HX.out.bx.cell 0
  have wxy0 : wx.cell? ⟨w.heap.size + 1, 0, none⟩ = some (.int .i64 y.k) := HX.out.by'.cell 0
  have wxx1 : wx.cell? ⟨w.heap.size, 1, none⟩ = some (.int .i64 x.r) := HX.out.bx.cell 1
  have wxy1 : wx.cell? ⟨w.heap.size + 1, 1, none⟩ = some (.int .i64 y.r) := HX.out.by'.cell 1
  have wxx2 : wx.cell? ⟨w.heap.size, 2, none⟩ = some (.int .i64 x.w) := HX.out.bx.cell 2
  have wxy2 : wx.cell? ⟨w.heap.size + 1, 2, none⟩ = some (.int .i64 y.w) := HX.out.by'.cell 2
  have wxx3 : wx.cell? ⟨w.heap.size, 3, none⟩ = some (.int .i64 x.v) := HX.out.bx.cell 3
  have wxy3 : wx.cell? ⟨w.heap.size + 1, 3, none⟩ = some (.int .i64 y.v) := HX.out.by'.cell 3
  go_wp2_with fail
  refine (touches_yes h1 h2).mono ?_
  rintro e w1 ⟨rfl, hb⟩
  replace HX := Lib.hid (HX.out.below hb)
  clear wxx0 wxy0 wxx1 wxy1 wxx2 wxy2 wxx3 wxy3
  clear hb
  have w1x0 : w1.cell? ⟨w.heap.size, 0, none⟩ = some (.int .i64 x.k) := HX.out.bx.cell 0
  have w1y0 : w1.cell? ⟨w.heap.size + 1, 0, none⟩ = some (.int .i64 y.k) := HX.out.by'.cell 0
  have w1x1 : w1.cell? ⟨w.heap.size, 1, none⟩ = some (.int .i64 x.r) := HX.out.bx.cell 1
  have w1y1 : w1.cell? ⟨w.heap.size + 1, 1, none⟩ = some (.int .i64 y.r) := HX.out.by'.cell 1
  have w1x2 : w1.cell? ⟨w.heap.size, 2, none⟩ = some (.int .i64 x.w) := HX.out.bx.cell 2
  have w1y2 : w1.cell? ⟨w.heap.size + 1, 2, none⟩ = some (.int .i64 y.w) := HX.out.by'.cell 2
  have w1x3 : w1.cell? ⟨w.heap.size, 3, none⟩ = some (.int .i64 x.v) := HX.out.bx.cell 3
  have w1y3 : w1.cell? ⟨w.heap.size + 1, 3, none⟩ = some (.int .i64 y.v) := HX.out.by'.cell 3
  go_wp2_with fail
  refine (touches_no h).mono ?_
  rintro e w2 ⟨rfl, hb⟩
  replace HX := Lib.hid (HX.out.below hb)
  clear w1x0 w1y0 w1x1 w1y1 w1x2 w1y2 w1x3 w1y3
  clear hb
  go_wp2_with fail
  go_ret
  exact ⟨rfl, HX.out.bel⟩

set_option maxHeartbeats 2000000 in
set_option maxRecDepth 100000 in
theorem clash_n3 {w : World} {x y : Ln} (h1 : 1 ≤ x.k) (h2 : x.k ≤ 3) (h3 : 1 ≤ y.k) (h4 : y.k ≤ 3) (hw : x.w ≠ y.w) :
    Calls Tryd.prog 33 #[.agg #[.int .i64 x.k, .int .i64 x.r, .int .i64 x.w, .int .i64 x.v], .agg #[.int .i64 y.k, .int .i64 y.r, .int .i64 y.w, .int .i64 y.v]] w fun e w' => e = .returned (.bool false) ∧ Below w.heap.size w w' := by
  have HX := Lib.hid (twoBox w x y)
  have e0 : (x.w != y.w) = true := by simpa using hw
  go_enter Tryd.func33, Tryd.ntmps33
  go_upto_region 1 with fail
  generalize (w.alloc (.cells #[.int .i64 x.k, .int .i64 x.r, .int .i64 x.w, .int .i64 x.v] 40)).alloc (.cells #[.int .i64 y.k, .int .i64 y.r, .int .i64 y.w, .int .i64 y.v] 40) = wx at HX ⊢
  have wxx0 : wx.cell? ⟨w.heap.size, 0, none⟩ = some (.int .i64 x.k) := HX.out.bx.cell 0
  have wxy0 : wx.cell? ⟨w.heap.size + 1, 0, none⟩ = some (.int .i64 y.k) := HX.out.by'.cell 0
  have wxx1 : wx.cell? ⟨w.heap.size, 1, none⟩ = some (.int .i64 x.r) := HX.out.bx.cell 1
  have wxy1 : wx.cell? ⟨w.heap.size + 1, 1, none⟩ = some (.int .i64 y.r) := HX.out.by'.cell 1
  have wxx2 : wx.cell? ⟨w.heap.size, 2, none⟩ = some (.int .i64 x.w) := HX.out.bx.cell 2
  have wxy2 : wx.cell? ⟨w.heap.size + 1, 2, none⟩ = some (.int .i64 y.w) := HX.out.by'.cell 2
  have wxx3 : wx.cell? ⟨w.heap.size, 3, none⟩ = some (.int .i64 x.v) := HX.out.bx.cell 3
  have wxy3 : wx.cell? ⟨w.heap.size + 1, 3, none⟩ = some (.int .i64 y.v) := HX.out.by'.cell 3
  go_wp2_with fail
  refine (touches_yes h1 h2).mono ?_
  rintro e w1 ⟨rfl, hb⟩
  replace HX := Lib.hid (HX.out.below hb)
  clear wxx0 wxy0 wxx1 wxy1 wxx2 wxy2 wxx3 wxy3
  clear hb
  have w1x0 : w1.cell? ⟨w.heap.size, 0, none⟩ = some (.int .i64 x.k) := HX.out.bx.cell 0
  have w1y0 : w1.cell? ⟨w.heap.size + 1, 0, none⟩ = some (.int .i64 y.k) := HX.out.by'.cell 0
  have w1x1 : w1.cell? ⟨w.heap.size, 1, none⟩ = some (.int .i64 x.r) := HX.out.bx.cell 1
  have w1y1 : w1.cell? ⟨w.heap.size + 1, 1, none⟩ = some (.int .i64 y.r) := HX.out.by'.cell 1
  have w1x2 : w1.cell? ⟨w.heap.size, 2, none⟩ = some (.int .i64 x.w) := HX.out.bx.cell 2
  have w1y2 : w1.cell? ⟨w.heap.size + 1, 2, none⟩ = some (.int .i64 y.w) := HX.out.by'.cell 2
  have w1x3 : w1.cell? ⟨w.heap.size, 3, none⟩ = some (.int .i64 x.v) := HX.out.bx.cell 3
  have w1y3 : w1.cell? ⟨w.heap.size + 1, 3, none⟩ = some (.int .i64 y.v) := HX.out.by'.cell 3
  go_wp2_with fail
  refine (touches_yes h3 h4).mono ?_
  rintro e w2 ⟨rfl, hb⟩
  replace HX := Lib.hid (HX.out.below hb)
  clear w1x0 w1y0 w1x1 w1y1 w1x2 w1y2 w1x3 w1y3
  clear hb
  have w2x0 : w2.cell? ⟨w.heap.size, 0, none⟩ = some (.int .i64 x.k) := HX.out.bx.cell 0
  have w2y0 : w2.cell? ⟨w.heap.size + 1, 0, none⟩ = some (.int .i64 y.k) := HX.out.by'.cell 0
  have w2x1 : w2.cell? ⟨w.heap.size, 1, none⟩ = some (.int .i64 x.r) := HX.out.bx.cell 1
  have w2y1 : w2.cell? ⟨w.heap.size + 1, 1, none⟩ = some (.int .i64 y.r) := HX.out.by'.cell 1
  have w2x2 : w2.cell? ⟨w.heap.size, 2, none⟩ = some (.int .i64 x.w) := HX.out.bx.cell 2
  have w2y2 : w2.cell? ⟨w.heap.size + 1, 2, none⟩ = some (.int .i64 y.w) := HX.out.by'.cell 2
  have w2x3 : w2.cell? ⟨w.heap.size, 3, none⟩ = some (.int .i64 x.v) := HX.out.bx.cell 3
  have w2y3 : w2.cell? ⟨w.heap.size + 1, 3, none⟩ = some (.int .i64 y.v) := HX.out.by'.cell 3
  go_wp2_with fail
  go_ret
  exact ⟨rfl, HX.out.bel⟩

set_option maxHeartbeats 2000000 in
set_option maxRecDepth 100000 in
theorem clash_11 {w : World} {x y : Ln} (h1 : x.k = 1) (h3 : y.k = 1) (hw : x.w = y.w) :
    Calls Tryd.prog 33 #[.agg #[.int .i64 x.k, .int .i64 x.r, .int .i64 x.w, .int .i64 x.v], .agg #[.int .i64 y.k, .int .i64 y.r, .int .i64 y.w, .int .i64 y.v]] w fun e w' => e = .returned (.bool false) ∧ Below w.heap.size w w' := by
  have HX := Lib.hid (twoBox w x y)
  have e0 : (x.w != x.w) = false := by simp
  have HW := Lib.hid hw
  clear hw
  have x1 : 1 ≤ x.k := by omega
  have x3 : x.k ≤ 3 := by omega
  have y1 : 1 ≤ y.k := by omega
  have y3 : y.k ≤ 3 := by omega
  have H1 := Lib.hid h1
  have H3 := Lib.hid h3
  clear h1 h3
  go_enter Tryd.func33, Tryd.ntmps33
  go_upto_region 1 with fail
  generalize (w.alloc (.cells #[.int .i64 x.k, .int .i64 x.r, .int .i64 x.w, .int .i64 x.v] 40)).alloc (.cells #[.int .i64 y.k, .int .i64 y.r, .int .i64 y.w, .int .i64 y.v] 40) = wx at HX ⊢
  have wxx0 : wx.cell? ⟨w.heap.size, 0, none⟩ = some (.int .i64 x.k) := HX.out.bx.cell 0
  have wxy0 : wx.cell? ⟨w.heap.size + 1, 0, none⟩ = some (.int .i64 y.k) := HX.out.by'.cell 0
  have wxx1 : wx.cell? ⟨w.heap.size, 1, none⟩ = some (.int .i64 x.r) := HX.out.bx.cell 1
  have wxy1 : wx.cell? ⟨w.heap.size + 1, 1, none⟩ = some (.int .i64 y.r) := HX.out.by'.cell 1
  have wxx2 : wx.cell? ⟨w.heap.size, 2, none⟩ = some (.int .i64 x.w) := HX.out.bx.cell 2
  have wxy2 : wx.cell? ⟨w.heap.size + 1, 2, none⟩ = some (.int .i64 y.w) := HX.out.by'.cell 2
  have wxx3 : wx.cell? ⟨w.heap.size, 3, none⟩ = some (.int .i64 x.v) := HX.out.bx.cell 3
  have wxy3 : wx.cell? ⟨w.heap.size + 1, 3, none⟩ = some (.int .i64 y.v) := HX.out.by'.cell 3
  go_wp2_with fail
  refine (touches_yes x1 x3).mono ?_
  rintro e w1 ⟨rfl, hb⟩
  replace HX := Lib.hid (HX.out.below hb)
  clear wxx0 wxy0 wxx1 wxy1 wxx2 wxy2 wxx3 wxy3
  clear hb
  have w1x0 : w1.cell? ⟨w.heap.size, 0, none⟩ = some (.int .i64 x.k) := HX.out.bx.cell 0
  have w1y0 : w1.cell? ⟨w.heap.size + 1, 0, none⟩ = some (.int .i64 y.k) := HX.out.by'.cell 0
  have w1x1 : w1.cell? ⟨w.heap.size, 1, none⟩ = some (.int .i64 x.r) := HX.out.bx.cell 1
  have w1y1 : w1.cell? ⟨w.heap.size + 1, 1, none⟩ = some (.int .i64 y.r) := HX.out.by'.cell 1
  have w1x2 : w1.cell? ⟨w.heap.size, 2, none⟩ = some (.int .i64 x.w) := HX.out.bx.cell 2
  have w1y2 : w1.cell? ⟨w.heap.size + 1, 2, none⟩ = some (.int .i64 y.w) := HX.out.by'.cell 2
  have w1x3 : w1.cell? ⟨w.heap.size, 3, none⟩ = some (.int .i64 x.v) := HX.out.bx.cell 3
  have w1y3 : w1.cell? ⟨w.heap.size + 1, 3, none⟩ = some (.int .i64 y.v) := HX.out.by'.cell 3
  go_wp2_with fail
  refine (touches_yes y1 y3).mono ?_
  rintro e w2 ⟨rfl, hb⟩
  replace HX := Lib.hid (HX.out.below hb)
  clear w1x0 w1y0 w1x1 w1y1 w1x2 w1y2 w1x3 w1y3
  clear hb
  have w2x0 : w2.cell? ⟨w.heap.size, 0, none⟩ = some (.int .i64 x.k) := HX.out.bx.cell 0
  have w2y0 : w2.cell? ⟨w.heap.size + 1, 0, none⟩ = some (.int .i64 y.k) := HX.out.by'.cell 0
  have w2x1 : w2.cell? ⟨w.heap.size, 1, none⟩ = some (.int .i64 x.r) := HX.out.bx.cell 1
  have w2y1 : w2.cell? ⟨w.heap.size + 1, 1, none⟩ = some (.int .i64 y.r) := HX.out.by'.cell 1
  have w2x2 : w2.cell? ⟨w.heap.size, 2, none⟩ = some (.int .i64 x.w) := HX.out.bx.cell 2
  have w2y2 : w2.cell? ⟨w.heap.size + 1, 2, none⟩ = some (.int .i64 y.w) := HX.out.by'.cell 2
  have w2x3 : w2.cell? ⟨w.heap.size, 3, none⟩ = some (.int .i64 x.v) := HX.out.bx.cell 3
  have w2y3 : w2.cell? ⟨w.heap.size + 1, 3, none⟩ = some (.int .i64 y.v) := HX.out.by'.cell 3
  rw [H1.out] at w2x0
  rw [H3.out] at w2y0
  rw [← HW.out] at w2y2
  clear x1 x3 y1 y3
  go_upto_region 3 with fail
  go_wp2_with fail
  go_ret
  exact ⟨rfl, HX.out.bel⟩

set_option maxHeartbeats 2000000 in
set_option maxRecDepth 100000 in
theorem clash_12 {w : World} {x y : Ln} (h1 : x.k = 1) (h3 : y.k = 2) (hw : x.w = y.w) :
    Calls Tryd.prog 33 #[.agg #[.int .i64 x.k, .int .i64 x.r, .int .i64 x.w, .int .i64 x.v], .agg #[.int .i64 y.k, .int .i64 y.r, .int .i64 y.w, .int .i64 y.v]] w fun e w' => e = .returned (.bool true) ∧ Below w.heap.size w w' := by
  have HX := Lib.hid (twoBox w x y)
  have e0 : (x.w != x.w) = false := by simp
  have HW := Lib.hid hw
  clear hw
  have x1 : 1 ≤ x.k := by omega
  have x3 : x.k ≤ 3 := by omega
  have y1 : 1 ≤ y.k := by omega
  have y3 : y.k ≤ 3 := by omega
  have H1 := Lib.hid h1
  have H3 := Lib.hid h3
  clear h1 h3
  go_enter Tryd.func33, Tryd.ntmps33
  go_upto_region 1 with fail
  generalize (w.alloc (.cells #[.int .i64 x.k, .int .i64 x.r, .int .i64 x.w, .int .i64 x.v] 40)).alloc (.cells #[.int .i64 y.k, .int .i64 y.r, .int .i64 y.w, .int .i64 y.v] 40) = wx at HX ⊢
  have wxx0 : wx.cell? ⟨w.heap.size, 0, none⟩ = some (.int .i64 x.k) := HX.out.bx.cell 0
  have wxy0 : wx.cell? ⟨w.heap.size + 1, 0, none⟩ = some (.int .i64 y.k) := HX.out.by'.cell 0
  have wxx1 : wx.cell? ⟨w.heap.size, 1, none⟩ = some (.int .i64 x.r) := HX.out.bx.cell 1
  have wxy1 : wx.cell? ⟨w.heap.size + 1, 1, none⟩ = some (.int .i64 y.r) := HX.out.by'.cell 1
  have wxx2 : wx.cell? ⟨w.heap.size, 2, none⟩ = some (.int .i64 x.w) := HX.out.bx.cell 2
  have wxy2 : wx.cell? ⟨w.heap.size + 1, 2, none⟩ = some (.int .i64 y.w) := HX.out.by'.cell 2
  have wxx3 : wx.cell? ⟨w.heap.size, 3, none⟩ = some (.int .i64 x.v) := HX.out.bx.cell 3
  have wxy3 : wx.cell? ⟨w.heap.size + 1, 3, none⟩ = some (.int .i64 y.v) := HX.out.by'.cell 3
  go_wp2_with fail
  refine (touches_yes x1 x3).mono ?_
  rintro e w1 ⟨rfl, hb⟩
  replace HX := Lib.hid (HX.out.below hb)
  clear wxx0 wxy0 wxx1 wxy1 wxx2 wxy2 wxx3 wxy3
  clear hb
  have w1x0 : w1.cell? ⟨w.heap.size, 0, none⟩ = some (.int .i64 x.k) := HX.out.bx.cell 0
  have w1y0 : w1.cell? ⟨w.heap.size + 1, 0, none⟩ = some (.int .i64 y.k) := HX.out.by'.cell 0
  have w1x1 : w1.cell? ⟨w.heap.size, 1, none⟩ = some (.int .i64 x.r) := HX.out.bx.cell 1
  have w1y1 : w1.cell? ⟨w.heap.size + 1, 1, none⟩ = some (.int .i64 y.r) := HX.out.by'.cell 1
  have w1x2 : w1.cell? ⟨w.heap.size, 2, none⟩ = some (.int .i64 x.w) := HX.out.bx.cell 2
  have w1y2 : w1.cell? ⟨w.heap.size + 1, 2, none⟩ = some (.int .i64 y.w) := HX.out.by'.cell 2
  have w1x3 : w1.cell? ⟨w.heap.size, 3, none⟩ = some (.int .i64 x.v) := HX.out.bx.cell 3
  have w1y3 : w1.cell? ⟨w.heap.size + 1, 3, none⟩ = some (.int .i64 y.v) := HX.out.by'.cell 3
  go_wp2_with fail
  refine (touches_yes y1 y3).mono ?_
  rintro e w2 ⟨rfl, hb⟩
  replace HX := Lib.hid (HX.out.below hb)
  clear w1x0 w1y0 w1x1 w1y1 w1x2 w1y2 w1x3 w1y3
  clear hb
  have w2x0 : w2.cell? ⟨w.heap.size, 0, none⟩ = some (.int .i64 x.k) := HX.out.bx.cell 0
  have w2y0 : w2.cell? ⟨w.heap.size + 1, 0, none⟩ = some (.int .i64 y.k) := HX.out.by'.cell 0
  have w2x1 : w2.cell? ⟨w.heap.size, 1, none⟩ = some (.int .i64 x.r) := HX.out.bx.cell 1
  have w2y1 : w2.cell? ⟨w.heap.size + 1, 1, none⟩ = some (.int .i64 y.r) := HX.out.by'.cell 1
  have w2x2 : w2.cell? ⟨w.heap.size, 2, none⟩ = some (.int .i64 x.w) := HX.out.bx.cell 2
  have w2y2 : w2.cell? ⟨w.heap.size + 1, 2, none⟩ = some (.int .i64 y.w) := HX.out.by'.cell 2
  have w2x3 : w2.cell? ⟨w.heap.size, 3, none⟩ = some (.int .i64 x.v) := HX.out.bx.cell 3
  have w2y3 : w2.cell? ⟨w.heap.size + 1, 3, none⟩ = some (.int .i64 y.v) := HX.out.by'.cell 3
  rw [H1.out] at w2x0
  rw [H3.out] at w2y0
  rw [← HW.out] at w2y2
  clear x1 x3 y1 y3
  go_upto_region 3 with fail
  go_wp2_with fail
  go_ret
  exact ⟨rfl, HX.out.bel⟩

set_option maxHeartbeats 2000000 in
set_option maxRecDepth 100000 in
theorem clash_13 {w : World} {x y : Ln} (h1 : x.k = 1) (h3 : y.k = 3) (hw : x.w = y.w) :
    Calls Tryd.prog 33 #[.agg #[.int .i64 x.k, .int .i64 x.r, .int .i64 x.w, .int .i64 x.v], .agg #[.int .i64 y.k, .int .i64 y.r, .int .i64 y.w, .int .i64 y.v]] w fun e w' => e = .returned (.bool true) ∧ Below w.heap.size w w' := by
  have HX := Lib.hid (twoBox w x y)
  have e0 : (x.w != x.w) = false := by simp
  have HW := Lib.hid hw
  clear hw
  have x1 : 1 ≤ x.k := by omega
  have x3 : x.k ≤ 3 := by omega
  have y1 : 1 ≤ y.k := by omega
  have y3 : y.k ≤ 3 := by omega
  have H1 := Lib.hid h1
  have H3 := Lib.hid h3
  clear h1 h3
  go_enter Tryd.func33, Tryd.ntmps33
  go_upto_region 1 with fail
  generalize (w.alloc (.cells #[.int .i64 x.k, .int .i64 x.r, .int .i64 x.w, .int .i64 x.v] 40)).alloc (.cells #[.int .i64 y.k, .int .i64 y.r, .int .i64 y.w, .int .i64 y.v] 40) = wx at HX ⊢
  have wxx0 : wx.cell? ⟨w.heap.size, 0, none⟩ = some (.int .i64 x.k) := HX.out.bx.cell 0
  have wxy0 : wx.cell? ⟨w.heap.size + 1, 0, none⟩ = some (.int .i64 y.k) := HX.out.by'.cell 0
  have wxx1 : wx.cell? ⟨w.heap.size, 1, none⟩ = some (.int .i64 x.r) := HX.out.bx.cell 1
  have wxy1 : wx.cell? ⟨w.heap.size + 1, 1, none⟩ = some (.int .i64 y.r) := HX.out.by'.cell 1
  have wxx2 : wx.cell? ⟨w.heap.size, 2, none⟩ = some (.int .i64 x.w) := HX.out.bx.cell 2
  have wxy2 : wx.cell? ⟨w.heap.size + 1, 2, none⟩ = some (.int .i64 y.w) := HX.out.by'.cell 2
  have wxx3 : wx.cell? ⟨w.heap.size, 3, none⟩ = some (.int .i64 x.v) := HX.out.bx.cell 3
  have wxy3 : wx.cell? ⟨w.heap.size + 1, 3, none⟩ = some (.int .i64 y.v) := HX.out.by'.cell 3
  go_wp2_with fail
  refine (touches_yes x1 x3).mono ?_
  rintro e w1 ⟨rfl, hb⟩
  replace HX := Lib.hid (HX.out.below hb)
  clear wxx0 wxy0 wxx1 wxy1 wxx2 wxy2 wxx3 wxy3
  clear hb
  have w1x0 : w1.cell? ⟨w.heap.size, 0, none⟩ = some (.int .i64 x.k) := HX.out.bx.cell 0
  have w1y0 : w1.cell? ⟨w.heap.size + 1, 0, none⟩ = some (.int .i64 y.k) := HX.out.by'.cell 0
  have w1x1 : w1.cell? ⟨w.heap.size, 1, none⟩ = some (.int .i64 x.r) := HX.out.bx.cell 1
  have w1y1 : w1.cell? ⟨w.heap.size + 1, 1, none⟩ = some (.int .i64 y.r) := HX.out.by'.cell 1
  have w1x2 : w1.cell? ⟨w.heap.size, 2, none⟩ = some (.int .i64 x.w) := HX.out.bx.cell 2
  have w1y2 : w1.cell? ⟨w.heap.size + 1, 2, none⟩ = some (.int .i64 y.w) := HX.out.by'.cell 2
  have w1x3 : w1.cell? ⟨w.heap.size, 3, none⟩ = some (.int .i64 x.v) := HX.out.bx.cell 3
  have w1y3 : w1.cell? ⟨w.heap.size + 1, 3, none⟩ = some (.int .i64 y.v) := HX.out.by'.cell 3
  go_wp2_with fail
  refine (touches_yes y1 y3).mono ?_
  rintro e w2 ⟨rfl, hb⟩
  replace HX := Lib.hid (HX.out.below hb)
  clear w1x0 w1y0 w1x1 w1y1 w1x2 w1y2 w1x3 w1y3
  clear hb
  have w2x0 : w2.cell? ⟨w.heap.size, 0, none⟩ = some (.int .i64 x.k) := HX.out.bx.cell 0
  have w2y0 : w2.cell? ⟨w.heap.size + 1, 0, none⟩ = some (.int .i64 y.k) := HX.out.by'.cell 0
  have w2x1 : w2.cell? ⟨w.heap.size, 1, none⟩ = some (.int .i64 x.r) := HX.out.bx.cell 1
  have w2y1 : w2.cell? ⟨w.heap.size + 1, 1, none⟩ = some (.int .i64 y.r) := HX.out.by'.cell 1
  have w2x2 : w2.cell? ⟨w.heap.size, 2, none⟩ = some (.int .i64 x.w) := HX.out.bx.cell 2
  have w2y2 : w2.cell? ⟨w.heap.size + 1, 2, none⟩ = some (.int .i64 y.w) := HX.out.by'.cell 2
  have w2x3 : w2.cell? ⟨w.heap.size, 3, none⟩ = some (.int .i64 x.v) := HX.out.bx.cell 3
  have w2y3 : w2.cell? ⟨w.heap.size + 1, 3, none⟩ = some (.int .i64 y.v) := HX.out.by'.cell 3
  rw [H1.out] at w2x0
  rw [H3.out] at w2y0
  rw [← HW.out] at w2y2
  clear x1 x3 y1 y3
  go_upto_region 3 with fail
  go_wp2_with fail
  go_ret
  exact ⟨rfl, HX.out.bel⟩

set_option maxHeartbeats 2000000 in
set_option maxRecDepth 100000 in
theorem clash_21 {w : World} {x y : Ln} (h1 : x.k = 2) (h3 : y.k = 1) (hw : x.w = y.w) :
    Calls Tryd.prog 33 #[.agg #[.int .i64 x.k, .int .i64 x.r, .int .i64 x.w, .int .i64 x.v], .agg #[.int .i64 y.k, .int .i64 y.r, .int .i64 y.w, .int .i64 y.v]] w fun e w' => e = .returned (.bool true) ∧ Below w.heap.size w w' := by
  have HX := Lib.hid (twoBox w x y)
  have e0 : (x.w != x.w) = false := by simp
  have HW := Lib.hid hw
  clear hw
  have x1 : 1 ≤ x.k := by omega
  have x3 : x.k ≤ 3 := by omega
  have y1 : 1 ≤ y.k := by omega
  have y3 : y.k ≤ 3 := by omega
  have H1 := Lib.hid h1
  have H3 := Lib.hid h3
  clear h1 h3
  go_enter Tryd.func33, Tryd.ntmps33
  go_upto_region 1 with fail
  generalize (w.alloc (.cells #[.int .i64 x.k, .int .i64 x.r, .int .i64 x.w, .int .i64 x.v] 40)).alloc (.cells #[.int .i64 y.k, .int .i64 y.r, .int .i64 y.w, .int .i64 y.v] 40) = wx at HX ⊢
  have wxx0 : wx.cell? ⟨w.heap.size, 0, none⟩ = some (.int .i64 x.k) := HX.out.bx.cell 0
  have wxy0 : wx.cell? ⟨w.heap.size + 1, 0, none⟩ = some (.int .i64 y.k) := HX.out.by'.cell 0
  have wxx1 : wx.cell? ⟨w.heap.size, 1, none⟩ = some (.int .i64 x.r) := HX.out.bx.cell 1
  have wxy1 : wx.cell? ⟨w.heap.size + 1, 1, none⟩ = some (.int .i64 y.r) := HX.out.by'.cell 1
  have wxx2 : wx.cell? ⟨w.heap.size, 2, none⟩ = some (.int .i64 x.w) := HX.out.bx.cell 2
  have wxy2 : wx.cell? ⟨w.heap.size + 1, 2, none⟩ = some (.int .i64 y.w) := HX.out.by'.cell 2
  have wxx3 : wx.cell? ⟨w.heap.size, 3, none⟩ = some (.int .i64 x.v) := HX.out.bx.cell 3
  have wxy3 : wx.cell? ⟨w.heap.size + 1, 3, none⟩ = some (.int .i64 y.v) := HX.out.by'.cell 3
  go_wp2_with fail
  refine (touches_yes x1 x3).mono ?_
  rintro e w1 ⟨rfl, hb⟩
  replace HX := Lib.hid (HX.out.below hb)
  clear wxx0 wxy0 wxx1 wxy1 wxx2 wxy2 wxx3 wxy3
  clear hb
  have w1x0 : w1.cell? ⟨w.heap.size, 0, none⟩ = some (.int .i64 x.k) := HX.out.bx.cell 0
  have w1y0 : w1.cell? ⟨w.heap.size + 1, 0, none⟩ = some (.int .i64 y.k) := HX.out.by'.cell 0
  have w1x1 : w1.cell? ⟨w.heap.size, 1, none⟩ = some (.int .i64 x.r) := HX.out.bx.cell 1
  have w1y1 : w1.cell? ⟨w.heap.size + 1, 1, none⟩ = some (.int .i64 y.r) := HX.out.by'.cell 1
  have w1x2 : w1.cell? ⟨w.heap.size, 2, none⟩ = some (.int .i64 x.w) := HX.out.bx.cell 2
  have w1y2 : w1.cell? ⟨w.heap.size + 1, 2, none⟩ = some (.int .i64 y.w) := HX.out.by'.cell 2
  have w1x3 : w1.cell? ⟨w.heap.size, 3, none⟩ = some (.int .i64 x.v) := HX.out.bx.cell 3
  have w1y3 : w1.cell? ⟨w.heap.size + 1, 3, none⟩ = some (.int .i64 y.v) := HX.out.by'.cell 3
  go_wp2_with fail
  refine (touches_yes y1 y3).mono ?_
  rintro e w2 ⟨rfl, hb⟩
  replace HX := Lib.hid (HX.out.below hb)
  clear w1x0 w1y0 w1x1 w1y1 w1x2 w1y2 w1x3 w1y3
  clear hb
  have w2x0 : w2.cell? ⟨w.heap.size, 0, none⟩ = some (.int .i64 x.k) := HX.out.bx.cell 0
  have w2y0 : w2.cell? ⟨w.heap.size + 1, 0, none⟩ = some (.int .i64 y.k) := HX.out.by'.cell 0
  have w2x1 : w2.cell? ⟨w.heap.size, 1, none⟩ = some (.int .i64 x.r) := HX.out.bx.cell 1
  have w2y1 : w2.cell? ⟨w.heap.size + 1, 1, none⟩ = some (.int .i64 y.r) := HX.out.by'.cell 1
  have w2x2 : w2.cell? ⟨w.heap.size, 2, none⟩ = some (.int .i64 x.w) := HX.out.bx.cell 2
  have w2y2 : w2.cell? ⟨w.heap.size + 1, 2, none⟩ = some (.int .i64 y.w) := HX.out.by'.cell 2
  have w2x3 : w2.cell? ⟨w.heap.size, 3, none⟩ = some (.int .i64 x.v) := HX.out.bx.cell 3
  have w2y3 : w2.cell? ⟨w.heap.size + 1, 3, none⟩ = some (.int .i64 y.v) := HX.out.by'.cell 3
  rw [H1.out] at w2x0
  rw [H3.out] at w2y0
  rw [← HW.out] at w2y2
  clear x1 x3 y1 y3
  go_upto_region 3 with fail
  go_wp2_with fail
  go_ret
  exact ⟨rfl, HX.out.bel⟩

set_option maxHeartbeats 2000000 in
set_option maxRecDepth 100000 in
theorem clash_22 {w : World} {x y : Ln} (h1 : x.k = 2) (h3 : y.k = 2) (hw : x.w = y.w) :
    Calls Tryd.prog 33 #[.agg #[.int .i64 x.k, .int .i64 x.r, .int .i64 x.w, .int .i64 x.v], .agg #[.int .i64 y.k, .int .i64 y.r, .int .i64 y.w, .int .i64 y.v]] w fun e w' => e = .returned (.bool true) ∧ Below w.heap.size w w' := by
  have HX := Lib.hid (twoBox w x y)
  have e0 : (x.w != x.w) = false := by simp
  have HW := Lib.hid hw
  clear hw
  have x1 : 1 ≤ x.k := by omega
  have x3 : x.k ≤ 3 := by omega
  have y1 : 1 ≤ y.k := by omega
  have y3 : y.k ≤ 3 := by omega
  have H1 := Lib.hid h1
  have H3 := Lib.hid h3
  clear h1 h3
  go_enter Tryd.func33, Tryd.ntmps33
  go_upto_region 1 with fail
  generalize (w.alloc (.cells #[.int .i64 x.k, .int .i64 x.r, .int .i64 x.w, .int .i64 x.v] 40)).alloc (.cells #[.int .i64 y.k, .int .i64 y.r, .int .i64 y.w, .int .i64 y.v] 40) = wx at HX ⊢
  have wxx0 : wx.cell? ⟨w.heap.size, 0, none⟩ = some (.int .i64 x.k) := HX.out.bx.cell 0
  have wxy0 : wx.cell? ⟨w.heap.size + 1, 0, none⟩ = some (.int .i64 y.k) := HX.out.by'.cell 0
  have wxx1 : wx.cell? ⟨w.heap.size, 1, none⟩ = some (.int .i64 x.r) := HX.out.bx.cell 1
  have wxy1 : wx.cell? ⟨w.heap.size + 1, 1, none⟩ = some (.int .i64 y.r) := HX.out.by'.cell 1
  have wxx2 : wx.cell? ⟨w.heap.size, 2, none⟩ = some (.int .i64 x.w) := HX.out.bx.cell 2
  have wxy2 : wx.cell? ⟨w.heap.size + 1, 2, none⟩ = some (.int .i64 y.w) := HX.out.by'.cell 2
  have wxx3 : wx.cell? ⟨w.heap.size, 3, none⟩ = some (.int .i64 x.v) := HX.out.bx.cell 3
  have wxy3 : wx.cell? ⟨w.heap.size + 1, 3, none⟩ = some (.int .i64 y.v) := HX.out.by'.cell 3
  go_wp2_with fail
  refine (touches_yes x1 x3).mono ?_
  rintro e w1 ⟨rfl, hb⟩
  replace HX := Lib.hid (HX.out.below hb)
  clear wxx0 wxy0 wxx1 wxy1 wxx2 wxy2 wxx3 wxy3
  clear hb
  have w1x0 : w1.cell? ⟨w.heap.size, 0, none⟩ = some (.int .i64 x.k) := HX.out.bx.cell 0
  have w1y0 : w1.cell? ⟨w.heap.size + 1, 0, none⟩ = some (.int .i64 y.k) := HX.out.by'.cell 0
  have w1x1 : w1.cell? ⟨w.heap.size, 1, none⟩ = some (.int .i64 x.r) := HX.out.bx.cell 1
  have w1y1 : w1.cell? ⟨w.heap.size + 1, 1, none⟩ = some (.int .i64 y.r) := HX.out.by'.cell 1
  have w1x2 : w1.cell? ⟨w.heap.size, 2, none⟩ = some (.int .i64 x.w) := HX.out.bx.cell 2
  have w1y2 : w1.cell? ⟨w.heap.size + 1, 2, none⟩ = some (.int .i64 y.w) := HX.out.by'.cell 2
  have w1x3 : w1.cell? ⟨w.heap.size, 3, none⟩ = some (.int .i64 x.v) := HX.out.bx.cell 3
  have w1y3 : w1.cell? ⟨w.heap.size + 1, 3, none⟩ = some (.int .i64 y.v) := HX.out.by'.cell 3
  go_wp2_with fail
  refine (touches_yes y1 y3).mono ?_
  rintro e w2 ⟨rfl, hb⟩
  replace HX := Lib.hid (HX.out.below hb)
  clear w1x0 w1y0 w1x1 w1y1 w1x2 w1y2 w1x3 w1y3
  clear hb
  have w2x0 : w2.cell? ⟨w.heap.size, 0, none⟩ = some (.int .i64 x.k) := HX.out.bx.cell 0
  have w2y0 : w2.cell? ⟨w.heap.size + 1, 0, none⟩ = some (.int .i64 y.k) := HX.out.by'.cell 0
  have w2x1 : w2.cell? ⟨w.heap.size, 1, none⟩ = some (.int .i64 x.r) := HX.out.bx.cell 1
  have w2y1 : w2.cell? ⟨w.heap.size + 1, 1, none⟩ = some (.int .i64 y.r) := HX.out.by'.cell 1
  have w2x2 : w2.cell? ⟨w.heap.size, 2, none⟩ = some (.int .i64 x.w) := HX.out.bx.cell 2
  have w2y2 : w2.cell? ⟨w.heap.size + 1, 2, none⟩ = some (.int .i64 y.w) := HX.out.by'.cell 2
  have w2x3 : w2.cell? ⟨w.heap.size, 3, none⟩ = some (.int .i64 x.v) := HX.out.bx.cell 3
  have w2y3 : w2.cell? ⟨w.heap.size + 1, 3, none⟩ = some (.int .i64 y.v) := HX.out.by'.cell 3
  rw [H1.out] at w2x0
  rw [H3.out] at w2y0
  rw [← HW.out] at w2y2
  clear x1 x3 y1 y3
  go_upto_region 3 with fail
  go_wp2_with fail
  go_ret
  exact ⟨rfl, HX.out.bel⟩

set_option maxHeartbeats 2000000 in
set_option maxRecDepth 100000 in
theorem clash_23 {w : World} {x y : Ln} (h1 : x.k = 2) (h3 : y.k = 3) (hw : x.w = y.w) :
    Calls Tryd.prog 33 #[.agg #[.int .i64 x.k, .int .i64 x.r, .int .i64 x.w, .int .i64 x.v], .agg #[.int .i64 y.k, .int .i64 y.r, .int .i64 y.w, .int .i64 y.v]] w fun e w' => e = .returned (.bool true) ∧ Below w.heap.size w w' := by
  have HX := Lib.hid (twoBox w x y)
  have e0 : (x.w != x.w) = false := by simp
  have HW := Lib.hid hw
  clear hw
  have x1 : 1 ≤ x.k := by omega
  have x3 : x.k ≤ 3 := by omega
  have y1 : 1 ≤ y.k := by omega
  have y3 : y.k ≤ 3 := by omega
  have H1 := Lib.hid h1
  have H3 := Lib.hid h3
  clear h1 h3
  go_enter Tryd.func33, Tryd.ntmps33
  go_upto_region 1 with fail
  generalize (w.alloc (.cells #[.int .i64 x.k, .int .i64 x.r, .int .i64 x.w, .int .i64 x.v] 40)).alloc (.cells #[.int .i64 y.k, .int .i64 y.r, .int .i64 y.w, .int .i64 y.v] 40) = wx at HX ⊢
  have wxx0 : wx.cell? ⟨w.heap.size, 0, none⟩ = some (.int .i64 x.k) := HX.out.bx.cell 0
  have wxy0 : wx.cell? ⟨w.heap.size + 1, 0, none⟩ = some (.int .i64 y.k) := HX.out.by'.cell 0
  have wxx1 : wx.cell? ⟨w.heap.size, 1, none⟩ = some (.int .i64 x.r) := HX.out.bx.cell 1
  have wxy1 : wx.cell? ⟨w.heap.size + 1, 1, none⟩ = some (.int .i64 y.r) := HX.out.by'.cell 1
  have wxx2 : wx.cell? ⟨w.heap.size, 2, none⟩ = some (.int .i64 x.w) := HX.out.bx.cell 2
  have wxy2 : wx.cell? ⟨w.heap.size + 1, 2, none⟩ = some (.int .i64 y.w) := HX.out.by'.cell 2
  have wxx3 : wx.cell? ⟨w.heap.size, 3, none⟩ = some (.int .i64 x.v) := HX.out.bx.cell 3
  have wxy3 : wx.cell? ⟨w.heap.size + 1, 3, none⟩ = some (.int .i64 y.v) := HX.out.by'.cell 3
  go_wp2_with fail
  refine (touches_yes x1 x3).mono ?_
  rintro e w1 ⟨rfl, hb⟩
  replace HX := Lib.hid (HX.out.below hb)
  clear wxx0 wxy0 wxx1 wxy1 wxx2 wxy2 wxx3 wxy3
  clear hb
  have w1x0 : w1.cell? ⟨w.heap.size, 0, none⟩ = some (.int .i64 x.k) := HX.out.bx.cell 0
  have w1y0 : w1.cell? ⟨w.heap.size + 1, 0, none⟩ = some (.int .i64 y.k) := HX.out.by'.cell 0
  have w1x1 : w1.cell? ⟨w.heap.size, 1, none⟩ = some (.int .i64 x.r) := HX.out.bx.cell 1
  have w1y1 : w1.cell? ⟨w.heap.size + 1, 1, none⟩ = some (.int .i64 y.r) := HX.out.by'.cell 1
  have w1x2 : w1.cell? ⟨w.heap.size, 2, none⟩ = some (.int .i64 x.w) := HX.out.bx.cell 2
  have w1y2 : w1.cell? ⟨w.heap.size + 1, 2, none⟩ = some (.int .i64 y.w) := HX.out.by'.cell 2
  have w1x3 : w1.cell? ⟨w.heap.size, 3, none⟩ = some (.int .i64 x.v) := HX.out.bx.cell 3
  have w1y3 : w1.cell? ⟨w.heap.size + 1, 3, none⟩ = some (.int .i64 y.v) := HX.out.by'.cell 3
  go_wp2_with fail
  refine (touches_yes y1 y3).mono ?_
  rintro e w2 ⟨rfl, hb⟩
  replace HX := Lib.hid (HX.out.below hb)
  clear w1x0 w1y0 w1x1 w1y1 w1x2 w1y2 w1x3 w1y3
  clear hb
  have w2x0 : w2.cell? ⟨w.heap.size, 0, none⟩ = some (.int .i64 x.k) := HX.out.bx.cell 0
  have w2y0 : w2.cell? ⟨w.heap.size + 1, 0, none⟩ = some (.int .i64 y.k) := HX.out.by'.cell 0
  have w2x1 : w2.cell? ⟨w.heap.size, 1, none⟩ = some (.int .i64 x.r) := HX.out.bx.cell 1
  have w2y1 : w2.cell? ⟨w.heap.size + 1, 1, none⟩ = some (.int .i64 y.r) := HX.out.by'.cell 1
  have w2x2 : w2.cell? ⟨w.heap.size, 2, none⟩ = some (.int .i64 x.w) := HX.out.bx.cell 2
  have w2y2 : w2.cell? ⟨w.heap.size + 1, 2, none⟩ = some (.int .i64 y.w) := HX.out.by'.cell 2
  have w2x3 : w2.cell? ⟨w.heap.size, 3, none⟩ = some (.int .i64 x.v) := HX.out.bx.cell 3
  have w2y3 : w2.cell? ⟨w.heap.size + 1, 3, none⟩ = some (.int .i64 y.v) := HX.out.by'.cell 3
  rw [H1.out] at w2x0
  rw [H3.out] at w2y0
  rw [← HW.out] at w2y2
  clear x1 x3 y1 y3
  go_upto_region 3 with fail
  go_wp2_with fail
  go_ret
  exact ⟨rfl, HX.out.bel⟩

set_option maxHeartbeats 2000000 in
set_option maxRecDepth 100000 in
theorem clash_31 {w : World} {x y : Ln} (h1 : x.k = 3) (h3 : y.k = 1) (hw : x.w = y.w) :
    Calls Tryd.prog 33 #[.agg #[.int .i64 x.k, .int .i64 x.r, .int .i64 x.w, .int .i64 x.v], .agg #[.int .i64 y.k, .int .i64 y.r, .int .i64 y.w, .int .i64 y.v]] w fun e w' => e = .returned (.bool true) ∧ Below w.heap.size w w' := by
  have HX := Lib.hid (twoBox w x y)
  have e0 : (x.w != x.w) = false := by simp
  have HW := Lib.hid hw
  clear hw
  have x1 : 1 ≤ x.k := by omega
  have x3 : x.k ≤ 3 := by omega
  have y1 : 1 ≤ y.k := by omega
  have y3 : y.k ≤ 3 := by omega
  have H1 := Lib.hid h1
  have H3 := Lib.hid h3
  clear h1 h3
  go_enter Tryd.func33, Tryd.ntmps33
  go_upto_region 1 with fail
  generalize (w.alloc (.cells #[.int .i64 x.k, .int .i64 x.r, .int .i64 x.w, .int .i64 x.v] 40)).alloc (.cells #[.int .i64 y.k, .int .i64 y.r, .int .i64 y.w, .int .i64 y.v] 40) = wx at HX ⊢
  have wxx0 : wx.cell? ⟨w.heap.size, 0, none⟩ = some (.int .i64 x.k) := HX.out.bx.cell 0
  have wxy0 : wx.cell? ⟨w.heap.size + 1, 0, none⟩ = some (.int .i64 y.k) := HX.out.by'.cell 0
  have wxx1 : wx.cell? ⟨w.heap.size, 1, none⟩ = some (.int .i64 x.r) := HX.out.bx.cell 1
  have wxy1 : wx.cell? ⟨w.heap.size + 1, 1, none⟩ = some (.int .i64 y.r) := HX.out.by'.cell 1
  have wxx2 : wx.cell? ⟨w.heap.size, 2, none⟩ = some (.int .i64 x.w) := HX.out.bx.cell 2
  have wxy2 : wx.cell? ⟨w.heap.size + 1, 2, none⟩ = some (.int .i64 y.w) := HX.out.by'.cell 2
  have wxx3 : wx.cell? ⟨w.heap.size, 3, none⟩ = some (.int .i64 x.v) := HX.out.bx.cell 3
  have wxy3 : wx.cell? ⟨w.heap.size + 1, 3, none⟩ = some (.int .i64 y.v) := HX.out.by'.cell 3
  go_wp2_with fail
  refine (touches_yes x1 x3).mono ?_
  rintro e w1 ⟨rfl, hb⟩
  replace HX := Lib.hid (HX.out.below hb)
  clear wxx0 wxy0 wxx1 wxy1 wxx2 wxy2 wxx3 wxy3
  clear hb
  have w1x0 : w1.cell? ⟨w.heap.size, 0, none⟩ = some (.int .i64 x.k) := HX.out.bx.cell 0
  have w1y0 : w1.cell? ⟨w.heap.size + 1, 0, none⟩ = some (.int .i64 y.k) := HX.out.by'.cell 0
  have w1x1 : w1.cell? ⟨w.heap.size, 1, none⟩ = some (.int .i64 x.r) := HX.out.bx.cell 1
  have w1y1 : w1.cell? ⟨w.heap.size + 1, 1, none⟩ = some (.int .i64 y.r) := HX.out.by'.cell 1
  have w1x2 : w1.cell? ⟨w.heap.size, 2, none⟩ = some (.int .i64 x.w) := HX.out.bx.cell 2
  have w1y2 : w1.cell? ⟨w.heap.size + 1, 2, none⟩ = some (.int .i64 y.w) := HX.out.by'.cell 2
  have w1x3 : w1.cell? ⟨w.heap.size, 3, none⟩ = some (.int .i64 x.v) := HX.out.bx.cell 3
  have w1y3 : w1.cell? ⟨w.heap.size + 1, 3, none⟩ = some (.int .i64 y.v) := HX.out.by'.cell 3
  go_wp2_with fail
  refine (touches_yes y1 y3).mono ?_
  rintro e w2 ⟨rfl, hb⟩
  replace HX := Lib.hid (HX.out.below hb)
  clear w1x0 w1y0 w1x1 w1y1 w1x2 w1y2 w1x3 w1y3
  clear hb
  have w2x0 : w2.cell? ⟨w.heap.size, 0, none⟩ = some (.int .i64 x.k) := HX.out.bx.cell 0
  have w2y0 : w2.cell? ⟨w.heap.size + 1, 0, none⟩ = some (.int .i64 y.k) := HX.out.by'.cell 0
  have w2x1 : w2.cell? ⟨w.heap.size, 1, none⟩ = some (.int .i64 x.r) := HX.out.bx.cell 1
  have w2y1 : w2.cell? ⟨w.heap.size + 1, 1, none⟩ = some (.int .i64 y.r) := HX.out.by'.cell 1
  have w2x2 : w2.cell? ⟨w.heap.size, 2, none⟩ = some (.int .i64 x.w) := HX.out.bx.cell 2
  have w2y2 : w2.cell? ⟨w.heap.size + 1, 2, none⟩ = some (.int .i64 y.w) := HX.out.by'.cell 2
  have w2x3 : w2.cell? ⟨w.heap.size, 3, none⟩ = some (.int .i64 x.v) := HX.out.bx.cell 3
  have w2y3 : w2.cell? ⟨w.heap.size + 1, 3, none⟩ = some (.int .i64 y.v) := HX.out.by'.cell 3
  rw [H1.out] at w2x0
  rw [H3.out] at w2y0
  rw [← HW.out] at w2y2
  clear x1 x3 y1 y3
  go_upto_region 3 with fail
  go_wp2_with fail
  go_ret
  exact ⟨rfl, HX.out.bel⟩

set_option maxHeartbeats 2000000 in
set_option maxRecDepth 100000 in
theorem clash_32 {w : World} {x y : Ln} (h1 : x.k = 3) (h3 : y.k = 2) (hw : x.w = y.w) :
    Calls Tryd.prog 33 #[.agg #[.int .i64 x.k, .int .i64 x.r, .int .i64 x.w, .int .i64 x.v], .agg #[.int .i64 y.k, .int .i64 y.r, .int .i64 y.w, .int .i64 y.v]] w fun e w' => e = .returned (.bool true) ∧ Below w.heap.size w w' := by
  have HX := Lib.hid (twoBox w x y)
  have e0 : (x.w != x.w) = false := by simp
  have HW := Lib.hid hw
  clear hw
  have x1 : 1 ≤ x.k := by omega
  have x3 : x.k ≤ 3 := by omega
  have y1 : 1 ≤ y.k := by omega
  have y3 : y.k ≤ 3 := by omega
  have H1 := Lib.hid h1
  have H3 := Lib.hid h3
  clear h1 h3
  go_enter Tryd.func33, Tryd.ntmps33
  go_upto_region 1 with fail
  generalize (w.alloc (.cells #[.int .i64 x.k, .int .i64 x.r, .int .i64 x.w, .int .i64 x.v] 40)).alloc (.cells #[.int .i64 y.k, .int .i64 y.r, .int .i64 y.w, .int .i64 y.v] 40) = wx at HX ⊢
  have wxx0 : wx.cell? ⟨w.heap.size, 0, none⟩ = some (.int .i64 x.k) := HX.out.bx.cell 0
  have wxy0 : wx.cell? ⟨w.heap.size + 1, 0, none⟩ = some (.int .i64 y.k) := HX.out.by'.cell 0
  have wxx1 : wx.cell? ⟨w.heap.size, 1, none⟩ = some (.int .i64 x.r) := HX.out.bx.cell 1
  have wxy1 : wx.cell? ⟨w.heap.size + 1, 1, none⟩ = some (.int .i64 y.r) := HX.out.by'.cell 1
  have wxx2 : wx.cell? ⟨w.heap.size, 2, none⟩ = some (.int .i64 x.w) := HX.out.bx.cell 2
  have wxy2 : wx.cell? ⟨w.heap.size + 1, 2, none⟩ = some (.int .i64 y.w) := HX.out.by'.cell 2
  have wxx3 : wx.cell? ⟨w.heap.size, 3, none⟩ = some (.int .i64 x.v) := HX.out.bx.cell 3
  have wxy3 : wx.cell? ⟨w.heap.size + 1, 3, none⟩ = some (.int .i64 y.v) := HX.out.by'.cell 3
  go_wp2_with fail
  refine (touches_yes x1 x3).mono ?_
  rintro e w1 ⟨rfl, hb⟩
  replace HX := Lib.hid (HX.out.below hb)
  clear wxx0 wxy0 wxx1 wxy1 wxx2 wxy2 wxx3 wxy3
  clear hb
  have w1x0 : w1.cell? ⟨w.heap.size, 0, none⟩ = some (.int .i64 x.k) := HX.out.bx.cell 0
  have w1y0 : w1.cell? ⟨w.heap.size + 1, 0, none⟩ = some (.int .i64 y.k) := HX.out.by'.cell 0
  have w1x1 : w1.cell? ⟨w.heap.size, 1, none⟩ = some (.int .i64 x.r) := HX.out.bx.cell 1
  have w1y1 : w1.cell? ⟨w.heap.size + 1, 1, none⟩ = some (.int .i64 y.r) := HX.out.by'.cell 1
  have w1x2 : w1.cell? ⟨w.heap.size, 2, none⟩ = some (.int .i64 x.w) := HX.out.bx.cell 2
  have w1y2 : w1.cell? ⟨w.heap.size + 1, 2, none⟩ = some (.int .i64 y.w) := HX.out.by'.cell 2
  have w1x3 : w1.cell? ⟨w.heap.size, 3, none⟩ = some (.int .i64 x.v) := HX.out.bx.cell 3
  have w1y3 : w1.cell? ⟨w.heap.size + 1, 3, none⟩ = some (.int .i64 y.v) := HX.out.by'.cell 3
  go_wp2_with fail
  refine (touches_yes y1 y3).mono ?_
  rintro e w2 ⟨rfl, hb⟩
  replace HX := Lib.hid (HX.out.below hb)
  clear w1x0 w1y0 w1x1 w1y1 w1x2 w1y2 w1x3 w1y3
  clear hb
  have w2x0 : w2.cell? ⟨w.heap.size, 0, none⟩ = some (.int .i64 x.k) := HX.out.bx.cell 0
  have w2y0 : w2.cell? ⟨w.heap.size + 1, 0, none⟩ = some (.int .i64 y.k) := HX.out.by'.cell 0
  have w2x1 : w2.cell? ⟨w.heap.size, 1, none⟩ = some (.int .i64 x.r) := HX.out.bx.cell 1
  have w2y1 : w2.cell? ⟨w.heap.size + 1, 1, none⟩ = some (.int .i64 y.r) := HX.out.by'.cell 1
  have w2x2 : w2.cell? ⟨w.heap.size, 2, none⟩ = some (.int .i64 x.w) := HX.out.bx.cell 2
  have w2y2 : w2.cell? ⟨w.heap.size + 1, 2, none⟩ = some (.int .i64 y.w) := HX.out.by'.cell 2
  have w2x3 : w2.cell? ⟨w.heap.size, 3, none⟩ = some (.int .i64 x.v) := HX.out.bx.cell 3
  have w2y3 : w2.cell? ⟨w.heap.size + 1, 3, none⟩ = some (.int .i64 y.v) := HX.out.by'.cell 3
  rw [H1.out] at w2x0
  rw [H3.out] at w2y0
  rw [← HW.out] at w2y2
  clear x1 x3 y1 y3
  go_upto_region 3 with fail
  go_wp2_with fail
  go_ret
  exact ⟨rfl, HX.out.bel⟩

set_option maxHeartbeats 2000000 in
set_option maxRecDepth 100000 in
theorem clash_33 {w : World} {x y : Ln} (h1 : x.k = 3) (h3 : y.k = 3) (hw : x.w = y.w) :
    Calls Tryd.prog 33 #[.agg #[.int .i64 x.k, .int .i64 x.r, .int .i64 x.w, .int .i64 x.v], .agg #[.int .i64 y.k, .int .i64 y.r, .int .i64 y.w, .int .i64 y.v]] w fun e w' => e = .returned (.bool false) ∧ Below w.heap.size w w' := by
  have HX := Lib.hid (twoBox w x y)
  have e0 : (x.w != x.w) = false := by simp
  have HW := Lib.hid hw
  clear hw
  have x1 : 1 ≤ x.k := by omega
  have x3 : x.k ≤ 3 := by omega
  have y1 : 1 ≤ y.k := by omega
  have y3 : y.k ≤ 3 := by omega
  have H1 := Lib.hid h1
  have H3 := Lib.hid h3
  clear h1 h3
  go_enter Tryd.func33, Tryd.ntmps33
  go_upto_region 1 with fail
  generalize (w.alloc (.cells #[.int .i64 x.k, .int .i64 x.r, .int .i64 x.w, .int .i64 x.v] 40)).alloc (.cells #[.int .i64 y.k, .int .i64 y.r, .int .i64 y.w, .int .i64 y.v] 40) = wx at HX ⊢
  have wxx0 : wx.cell? ⟨w.heap.size, 0, none⟩ = some (.int .i64 x.k) := HX.out.bx.cell 0
  have wxy0 : wx.cell? ⟨w.heap.size + 1, 0, none⟩ = some (.int .i64 y.k) := HX.out.by'.cell 0
  have wxx1 : wx.cell? ⟨w.heap.size, 1, none⟩ = some (.int .i64 x.r) := HX.out.bx.cell 1
  have wxy1 : wx.cell? ⟨w.heap.size + 1, 1, none⟩ = some (.int .i64 y.r) := HX.out.by'.cell 1
  have wxx2 : wx.cell? ⟨w.heap.size, 2, none⟩ = some (.int .i64 x.w) := HX.out.bx.cell 2
  have wxy2 : wx.cell? ⟨w.heap.size + 1, 2, none⟩ = some (.int .i64 y.w) := HX.out.by'.cell 2
  have wxx3 : wx.cell? ⟨w.heap.size, 3, none⟩ = some (.int .i64 x.v) := HX.out.bx.cell 3
  have wxy3 : wx.cell? ⟨w.heap.size + 1, 3, none⟩ = some (.int .i64 y.v) := HX.out.by'.cell 3
  go_wp2_with fail
  refine (touches_yes x1 x3).mono ?_
  rintro e w1 ⟨rfl, hb⟩
  replace HX := Lib.hid (HX.out.below hb)
  clear wxx0 wxy0 wxx1 wxy1 wxx2 wxy2 wxx3 wxy3
  clear hb
  have w1x0 : w1.cell? ⟨w.heap.size, 0, none⟩ = some (.int .i64 x.k) := HX.out.bx.cell 0
  have w1y0 : w1.cell? ⟨w.heap.size + 1, 0, none⟩ = some (.int .i64 y.k) := HX.out.by'.cell 0
  have w1x1 : w1.cell? ⟨w.heap.size, 1, none⟩ = some (.int .i64 x.r) := HX.out.bx.cell 1
  have w1y1 : w1.cell? ⟨w.heap.size + 1, 1, none⟩ = some (.int .i64 y.r) := HX.out.by'.cell 1
  have w1x2 : w1.cell? ⟨w.heap.size, 2, none⟩ = some (.int .i64 x.w) := HX.out.bx.cell 2
  have w1y2 : w1.cell? ⟨w.heap.size + 1, 2, none⟩ = some (.int .i64 y.w) := HX.out.by'.cell 2
  have w1x3 : w1.cell? ⟨w.heap.size, 3, none⟩ = some (.int .i64 x.v) := HX.out.bx.cell 3
  have w1y3 : w1.cell? ⟨w.heap.size + 1, 3, none⟩ = some (.int .i64 y.v) := HX.out.by'.cell 3
  go_wp2_with fail
  refine (touches_yes y1 y3).mono ?_
  rintro e w2 ⟨rfl, hb⟩
  replace HX := Lib.hid (HX.out.below hb)
  clear w1x0 w1y0 w1x1 w1y1 w1x2 w1y2 w1x3 w1y3
  clear hb
  have w2x0 : w2.cell? ⟨w.heap.size, 0, none⟩ = some (.int .i64 x.k) := HX.out.bx.cell 0
  have w2y0 : w2.cell? ⟨w.heap.size + 1, 0, none⟩ = some (.int .i64 y.k) := HX.out.by'.cell 0
  have w2x1 : w2.cell? ⟨w.heap.size, 1, none⟩ = some (.int .i64 x.r) := HX.out.bx.cell 1
  have w2y1 : w2.cell? ⟨w.heap.size + 1, 1, none⟩ = some (.int .i64 y.r) := HX.out.by'.cell 1
  have w2x2 : w2.cell? ⟨w.heap.size, 2, none⟩ = some (.int .i64 x.w) := HX.out.bx.cell 2
  have w2y2 : w2.cell? ⟨w.heap.size + 1, 2, none⟩ = some (.int .i64 y.w) := HX.out.by'.cell 2
  have w2x3 : w2.cell? ⟨w.heap.size, 3, none⟩ = some (.int .i64 x.v) := HX.out.bx.cell 3
  have w2y3 : w2.cell? ⟨w.heap.size + 1, 3, none⟩ = some (.int .i64 y.v) := HX.out.by'.cell 3
  rw [H1.out] at w2x0
  rw [H3.out] at w2y0
  rw [← HW.out] at w2y2
  clear x1 x3 y1 y3
  go_upto_region 3 with fail
  go_wp2_with fail
  go_ret
  exact ⟨rfl, HX.out.bel⟩

theorem clash_any {w : World} {x y : Ln} :
    Calls Tryd.prog 33 #[.agg #[.int .i64 x.k, .int .i64 x.r, .int .i64 x.w, .int .i64 x.v], .agg #[.int .i64 y.k, .int .i64 y.r, .int .i64 y.w, .int .i64 y.v]] w fun e w' => e = .returned (.bool (clash x y)) ∧ Below w.heap.size w w' := by
  have key : ∀ {b : Bool}, clash x y = b → (Calls Tryd.prog 33 #[.agg #[.int .i64 x.k, .int .i64 x.r, .int .i64 x.w, .int .i64 x.v], .agg #[.int .i64 y.k, .int .i64 y.r, .int .i64 y.w, .int .i64 y.v]] w fun e w' => e = .returned (.bool b) ∧ Below w.heap.size w w') → Calls Tryd.prog 33 #[.agg #[.int .i64 x.k, .int .i64 x.r, .int .i64 x.w, .int .i64 x.v], .agg #[.int .i64 y.k, .int .i64 y.r, .int .i64 y.w, .int .i64 y.v]] w fun e w' => e = .returned (.bool (clash x y)) ∧ Below w.heap.size w w' := by
    rintro b rfl h; exact h
  by_cases hx : 1 ≤ x.k ∧ x.k ≤ 3
  · have tx : touches x = true := by simp [touches, hx]
    by_cases hy : 1 ≤ y.k ∧ y.k ≤ 3
    · have ty : touches y = true := by simp [touches, hy]
      by_cases hw : x.w = y.w
      · obtain h1 | h1 | h1 : x.k = 1 ∨ x.k = 2 ∨ x.k = 3 := by omega
        all_goals obtain h3 | h3 | h3 : y.k = 1 ∨ y.k = 2 ∨ y.k = 3 := by omega
        · exact key (by simp [clash, tx, ty, hw, h1, h3]) (clash_11 h1 h3 hw)
        · exact key (by simp [clash, tx, ty, hw, h1, h3]) (clash_12 h1 h3 hw)
        · exact key (by simp [clash, tx, ty, hw, h1, h3]) (clash_13 h1 h3 hw)
        · exact key (by simp [clash, tx, ty, hw, h1, h3]) (clash_21 h1 h3 hw)
        · exact key (by simp [clash, tx, ty, hw, h1, h3]) (clash_22 h1 h3 hw)
        · exact key (by simp [clash, tx, ty, hw, h1, h3]) (clash_23 h1 h3 hw)
        · exact key (by simp [clash, tx, ty, hw, h1, h3]) (clash_31 h1 h3 hw)
        · exact key (by simp [clash, tx, ty, hw, h1, h3]) (clash_32 h1 h3 hw)
        · exact key (by simp [clash, tx, ty, hw, h1, h3]) (clash_33 h1 h3 hw)
      · exact key (by simp [clash, tx, ty, hw]) (clash_n3 hx.1 hx.2 hy.1 hy.2 hw)
    · exact key (by have : touches y = false := by { simp only [touches, Bool.and_eq_false_iff, decide_eq_false_iff_not]; omega }
                    simp [clash, this]) (clash_n2 hx.1 hx.2 (by omega))
  · exact key (by have : touches x = false := by { simp only [touches, Bool.and_eq_false_iff, decide_eq_false_iff_not]; omega }
                  simp [clash, this]) (clash_n1 (by omega))
end Go.Proofs.YtimbdjmplcgilaaDoor.Sc
