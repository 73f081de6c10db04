import Derived.Test.YtimbdjmplcgilaaDoorPrNext
namespace Go.Proofs.YtimbdjmplcgilaaDoor.Pr
open Go.RowKit
set_option linter.unusedVariables false

theorem within_yes {n l h : Int} {w : World} (h1 : l ≤ n) (h2 : n ≤ h) :
    Calls Tryd.prog 42 #[.int .i64 n, .int .i64 l, .int .i64 h] w fun e w' => e = .returned (.bool true) ∧ w = w' := by
  go_enter Tryd.func42, Tryd.ntmps42
  go_wp2
  go_ret
  exact ⟨rfl, rfl⟩
theorem within_no {n l h : Int} {w : World} (h1 : n < l ∨ h < n) :
    Calls Tryd.prog 42 #[.int .i64 n, .int .i64 l, .int .i64 h] w fun e w' => e = .returned (.bool false) ∧ w = w' := by
  by_cases g : n < l
  · clear h1
    go_enter Tryd.func42, Tryd.ntmps42
    go_wp2
    go_ret
    exact ⟨rfl, rfl⟩
  · have g1 : l ≤ n := by omega
    have g2 : decide (n ≤ h) = false := by simp; omega
    clear h1 g
    go_enter Tryd.func42, Tryd.ntmps42
    go_wp2
    go_ret
    exact ⟨rfl, rfl⟩
theorem touches_yes {l : Ln} {w : World} (h1 : 1 ≤ l.k) (h2 : l.k ≤ 3) :
    Calls Tryd.prog 49 #[.agg #[.int .i64 l.k, .int .i64 l.r, .int .i64 l.w, .int .i64 l.v]] w fun e w' => e = .returned (.bool true) ∧ Below w.heap.size w w' := by
  have HB := Lib.hid ((Below.refl w.heap.size w).alloc (Nat.le_refl _) (.cells #[.int .i64 l.k, .int .i64 l.r, .int .i64 l.w, .int .i64 l.v] 40))
  have c := (Blk.new w #[.int .i64 l.k, .int .i64 l.r, .int .i64 l.w, .int .i64 l.v] 40).cell 0
  go_enter Tryd.func49, Tryd.ntmps49
  go_wp2_with fail
  refine (within_yes h1 h2).mono ?_
  rintro e wi ⟨rfl, rfl⟩
  go_wp2_with fail
  go_ret
  exact ⟨rfl, HB.out⟩
theorem touches_no {l : Ln} {w : World} (h1 : l.k < 1 ∨ 3 < l.k) :
    Calls Tryd.prog 49 #[.agg #[.int .i64 l.k, .int .i64 l.r, .int .i64 l.w, .int .i64 l.v]] w fun e w' => e = .returned (.bool false) ∧ Below w.heap.size w w' := by
  have HB := Lib.hid ((Below.refl w.heap.size w).alloc (Nat.le_refl _) (.cells #[.int .i64 l.k, .int .i64 l.r, .int .i64 l.w, .int .i64 l.v] 40))
  have c := (Blk.new w #[.int .i64 l.k, .int .i64 l.r, .int .i64 l.w, .int .i64 l.v] 40).cell 0
  have H := Lib.hid h1
  clear h1
  go_enter Tryd.func49, Tryd.ntmps49
  go_wp2_with fail
  refine (within_no H.out).mono ?_
  rintro e wi ⟨rfl, rfl⟩
  go_wp2_with fail
  go_ret
  exact ⟨rfl, HB.out⟩

/-- The two boxes of line. -/
structure LBox (w wx : World) (words : Int) (u : Value) (l : Ln) : Prop where
  bel : Below w.heap.size w wx
  size : w.heap.size + 2 ≤ wx.heap.size
  box : Blk wx w.heap.size #[.int .i64 words, u] 24
  ln : Blk wx (w.heap.size + 1) #[.int .i64 l.k, .int .i64 l.r, .int .i64 l.w, .int .i64 l.v] 40
theorem lbox (w : World) (words : Int) (u : Value) (l : Ln) : LBox w ((w.alloc (.cells #[.int .i64 words, u] 24)).alloc (.cells #[.int .i64 l.k, .int .i64 l.r, .int .i64 l.w, .int .i64 l.v] 40)) words u l := by
  refine ⟨((Below.refl _ _).alloc (Nat.le_refl _) _).alloc (by simp) _, by simp, (Blk.new _ _ _).alloc _, ?_⟩
  have h := Blk.new (w.alloc (.cells #[.int .i64 words, u] 24)) #[.int .i64 l.k, .int .i64 l.r, .int .i64 l.w, .int .i64 l.v] 40
  simpa using h
theorem LBox.below {w wx w' : World} {words : Int} {u : Value} {l : Ln} (h : LBox w wx words u l) (k : Below wx.heap.size wx w') : LBox w w' words u l :=
  ⟨h.bel.trans (k.mono (by have := h.size; omega)), Nat.le_trans h.size k.size, h.box.below k (by have := h.size; omega), h.ln.below k (by have := h.size; omega)⟩

set_option maxHeartbeats 2000000 in
set_option maxRecDepth 100000 in
theorem line_k {w : World} {words : Int} {u : Value} {l : Ln} (hw : 1 ≤ words ∧ words ≤ 4) (hk : l.k < 0 ∨ 5 < l.k) :
    Calls Tryd.prog 43 #[.agg #[.int .i64 words, u], .agg #[.int .i64 l.k, .int .i64 l.r, .int .i64 l.w, .int .i64 l.v]] w fun e w' => e = .returned (.iface 74 (.int .i64 1)) ∧ Below w.heap.size w w' := by
  have HX := Lib.hid (lbox w words u l)
  have HK := Lib.hid hk
  clear hk
  go_enter Tryd.func43, Tryd.ntmps43
  go_wp2_with fail
  generalize (w.alloc (.cells #[.int .i64 words, u] 24)).alloc (.cells #[.int .i64 l.k, .int .i64 l.r, .int .i64 l.w, .int .i64 l.v] 40) = wx at HX ⊢
  have b0 : wx.cell? ⟨w.heap.size, 0, none⟩ = some (.int .i64 words) := HX.out.box.cell 0
  have l0 : wx.cell? ⟨w.heap.size + 1, 0, none⟩ = some (.int .i64 l.k) := HX.out.ln.cell 0
  have l1 : wx.cell? ⟨w.heap.size + 1, 1, none⟩ = some (.int .i64 l.r) := HX.out.ln.cell 1
  have l2 : wx.cell? ⟨w.heap.size + 1, 2, none⟩ = some (.int .i64 l.w) := HX.out.ln.cell 2
  have l3 : wx.cell? ⟨w.heap.size + 1, 3, none⟩ = some (.int .i64 l.v) := HX.out.ln.cell 3
  go_wp2_with fail
  refine (within_no HK.out).mono ?_
  rintro e wi ⟨rfl, rfl⟩
  go_wp2_with fail
  go_ret
  exact ⟨rfl, HX.out.bel⟩

set_option maxHeartbeats 2000000 in
set_option maxRecDepth 100000 in
theorem line_r {w : World} {words : Int} {u : Value} {l : Ln} (hw : 1 ≤ words ∧ words ≤ 4) (hk : 0 ≤ l.k ∧ l.k ≤ 5 ∧ l.k ≠ 4) (hr : l.r < 0 ∨ 1 < l.r) :
    Calls Tryd.prog 43 #[.agg #[.int .i64 words, u], .agg #[.int .i64 l.k, .int .i64 l.r, .int .i64 l.w, .int .i64 l.v]] w fun e w' => e = .returned (.iface 74 (.int .i64 1)) ∧ Below w.heap.size w w' := by
  have HX := Lib.hid (lbox w words u l)
  have HK := Lib.hid hk
  have HR := Lib.hid hr
  have z4 : (l.k != 4) = true := by simp; omega
  clear hk hr
  go_enter Tryd.func43, Tryd.ntmps43
  go_wp2_with fail
  generalize (w.alloc (.cells #[.int .i64 words, u] 24)).alloc (.cells #[.int .i64 l.k, .int .i64 l.r, .int .i64 l.w, .int .i64 l.v] 40) = wx at HX ⊢
  have b0 : wx.cell? ⟨w.heap.size, 0, none⟩ = some (.int .i64 words) := HX.out.box.cell 0
  have l0 : wx.cell? ⟨w.heap.size + 1, 0, none⟩ = some (.int .i64 l.k) := HX.out.ln.cell 0
  have l1 : wx.cell? ⟨w.heap.size + 1, 1, none⟩ = some (.int .i64 l.r) := HX.out.ln.cell 1
  have l2 : wx.cell? ⟨w.heap.size + 1, 2, none⟩ = some (.int .i64 l.w) := HX.out.ln.cell 2
  have l3 : wx.cell? ⟨w.heap.size + 1, 3, none⟩ = some (.int .i64 l.v) := HX.out.ln.cell 3
  go_wp2_with fail
  refine (within_yes (by have := HK.out; omega) (by have := HK.out; omega)).mono ?_
  rintro e wi ⟨rfl, rfl⟩
  go_wp2_with fail
  refine (within_no (by have := HR.out; omega)).mono ?_
  rintro e wi ⟨rfl, rfl⟩
  go_wp2_with fail
  go_ret
  exact ⟨rfl, HX.out.bel⟩

set_option maxHeartbeats 2000000 in
set_option maxRecDepth 100000 in
theorem line_put {w : World} {words : Int} {u : Value} {l : Ln} (hw : 1 ≤ words ∧ words ≤ 4) (hk : l.k = 0) (hr : 0 ≤ l.r ∧ l.r ≤ 1) (hv : 0 ≤ l.v ∧ l.v ≤ 1000) :
    Calls Tryd.prog 43 #[.agg #[.int .i64 words, u], .agg #[.int .i64 l.k, .int .i64 l.r, .int .i64 l.w, .int .i64 l.v]] w fun e w' => e = .returned (.nilIface) ∧ Below w.heap.size w w' := by
  have HX := Lib.hid (lbox w words u l)
  have HK := Lib.hid hk
  have HR := Lib.hid hr
  have HV := Lib.hid hv
  have z4 : (l.k != 4) = true := by simp; omega
  have z0 : (l.k == 0) = true := by simp; omega
  have z5 : (l.k == 5) = false := by simp; omega
  clear hk hr hv
  go_enter Tryd.func43, Tryd.ntmps43
  go_wp2_with fail
  generalize (w.alloc (.cells #[.int .i64 words, u] 24)).alloc (.cells #[.int .i64 l.k, .int .i64 l.r, .int .i64 l.w, .int .i64 l.v] 40) = wx at HX ⊢
  have b0 : wx.cell? ⟨w.heap.size, 0, none⟩ = some (.int .i64 words) := HX.out.box.cell 0
  have l0 : wx.cell? ⟨w.heap.size + 1, 0, none⟩ = some (.int .i64 l.k) := HX.out.ln.cell 0
  have l1 : wx.cell? ⟨w.heap.size + 1, 1, none⟩ = some (.int .i64 l.r) := HX.out.ln.cell 1
  have l2 : wx.cell? ⟨w.heap.size + 1, 2, none⟩ = some (.int .i64 l.w) := HX.out.ln.cell 2
  have l3 : wx.cell? ⟨w.heap.size + 1, 3, none⟩ = some (.int .i64 l.v) := HX.out.ln.cell 3
  go_wp2_with fail
  refine (within_yes (by have := HK.out; omega) (by have := HK.out; omega)).mono ?_
  rintro e wi ⟨rfl, rfl⟩
  go_wp2_with fail
  refine (within_yes (by have := HR.out; omega) (by have := HR.out; omega)).mono ?_
  rintro e wi ⟨rfl, rfl⟩
  go_wp2_with fail
  refine (touches_no (by have := HK.out; omega)).mono ?_
  rintro e wy ⟨rfl, hb⟩
  replace HX := Lib.hid (HX.out.below hb)
  clear hb b0 l0 l1 l2 l3
  have b0 : wy.cell? ⟨w.heap.size, 0, none⟩ = some (.int .i64 words) := HX.out.box.cell 0
  have l0 : wy.cell? ⟨w.heap.size + 1, 0, none⟩ = some (.int .i64 l.k) := HX.out.ln.cell 0
  have l1 : wy.cell? ⟨w.heap.size + 1, 1, none⟩ = some (.int .i64 l.r) := HX.out.ln.cell 1
  have l2 : wy.cell? ⟨w.heap.size + 1, 2, none⟩ = some (.int .i64 l.w) := HX.out.ln.cell 2
  have l3 : wy.cell? ⟨w.heap.size + 1, 3, none⟩ = some (.int .i64 l.v) := HX.out.ln.cell 3
  go_wp2_with fail
  refine (within_yes (by have := HV.out; omega) (by have := HV.out; omega)).mono ?_
  rintro e wi ⟨rfl, rfl⟩
  go_wp2_with fail
  go_ret
  exact ⟨rfl, HX.out.bel⟩

set_option maxHeartbeats 2000000 in
set_option maxRecDepth 100000 in
theorem line_putn {w : World} {words : Int} {u : Value} {l : Ln} (hw : 1 ≤ words ∧ words ≤ 4) (hk : l.k = 0) (hr : 0 ≤ l.r ∧ l.r ≤ 1) (hv : l.v < 0 ∨ 1000 < l.v) :
    Calls Tryd.prog 43 #[.agg #[.int .i64 words, u], .agg #[.int .i64 l.k, .int .i64 l.r, .int .i64 l.w, .int .i64 l.v]] w fun e w' => e = .returned (.iface 74 (.int .i64 1)) ∧ Below w.heap.size w w' := by
  have HX := Lib.hid (lbox w words u l)
  have HK := Lib.hid hk
  have HR := Lib.hid hr
  have HV := Lib.hid hv
  have z4 : (l.k != 4) = true := by simp; omega
  have z0 : (l.k == 0) = true := by simp; omega
  have z5 : (l.k == 5) = false := by simp; omega
  clear hk hr hv
  go_enter Tryd.func43, Tryd.ntmps43
  go_wp2_with fail
  generalize (w.alloc (.cells #[.int .i64 words, u] 24)).alloc (.cells #[.int .i64 l.k, .int .i64 l.r, .int .i64 l.w, .int .i64 l.v] 40) = wx at HX ⊢
  have b0 : wx.cell? ⟨w.heap.size, 0, none⟩ = some (.int .i64 words) := HX.out.box.cell 0
  have l0 : wx.cell? ⟨w.heap.size + 1, 0, none⟩ = some (.int .i64 l.k) := HX.out.ln.cell 0
  have l1 : wx.cell? ⟨w.heap.size + 1, 1, none⟩ = some (.int .i64 l.r) := HX.out.ln.cell 1
  have l2 : wx.cell? ⟨w.heap.size + 1, 2, none⟩ = some (.int .i64 l.w) := HX.out.ln.cell 2
  have l3 : wx.cell? ⟨w.heap.size + 1, 3, none⟩ = some (.int .i64 l.v) := HX.out.ln.cell 3
  go_wp2_with fail
  refine (within_yes (by have := HK.out; omega) (by have := HK.out; omega)).mono ?_
  rintro e wi ⟨rfl, rfl⟩
  go_wp2_with fail
  refine (within_yes (by have := HR.out; omega) (by have := HR.out; omega)).mono ?_
  rintro e wi ⟨rfl, rfl⟩
  go_wp2_with fail
  refine (touches_no (by have := HK.out; omega)).mono ?_
  rintro e wy ⟨rfl, hb⟩
  replace HX := Lib.hid (HX.out.below hb)
  clear hb b0 l0 l1 l2 l3
  have b0 : wy.cell? ⟨w.heap.size, 0, none⟩ = some (.int .i64 words) := HX.out.box.cell 0
  have l0 : wy.cell? ⟨w.heap.size + 1, 0, none⟩ = some (.int .i64 l.k) := HX.out.ln.cell 0
  have l1 : wy.cell? ⟨w.heap.size + 1, 1, none⟩ = some (.int .i64 l.r) := HX.out.ln.cell 1
  have l2 : wy.cell? ⟨w.heap.size + 1, 2, none⟩ = some (.int .i64 l.w) := HX.out.ln.cell 2
  have l3 : wy.cell? ⟨w.heap.size + 1, 3, none⟩ = some (.int .i64 l.v) := HX.out.ln.cell 3
  go_wp2_with fail
  refine (within_no (by have := HV.out; omega)).mono ?_
  rintro e wi ⟨rfl, rfl⟩
  go_wp2_with fail
  go_ret
  exact ⟨rfl, HX.out.bel⟩

set_option maxHeartbeats 2000000 in
set_option maxRecDepth 100000 in
theorem line_touch {w : World} {words : Int} {u : Value} {l : Ln} (hw : 1 ≤ words ∧ words ≤ 4) (hk : 1 ≤ l.k ∧ l.k ≤ 3) (hr : 0 ≤ l.r ∧ l.r ≤ 1) (hwd : 0 ≤ l.w ∧ l.w ≤ words - 1) :
    Calls Tryd.prog 43 #[.agg #[.int .i64 words, u], .agg #[.int .i64 l.k, .int .i64 l.r, .int .i64 l.w, .int .i64 l.v]] w fun e w' => e = .returned (.nilIface) ∧ Below w.heap.size w w' := by
  have HX := Lib.hid (lbox w words u l)
  have HK := Lib.hid hk
  have HR := Lib.hid hr
  have HWD := Lib.hid hwd
  have z4 : (l.k != 4) = true := by simp; omega
  have z0 : (l.k == 0) = false := by simp; omega
  have z5 : (l.k == 5) = false := by simp; omega
  clear hk hr hwd
  go_enter Tryd.func43, Tryd.ntmps43
  go_wp2_with fail
  generalize (w.alloc (.cells #[.int .i64 words, u] 24)).alloc (.cells #[.int .i64 l.k, .int .i64 l.r, .int .i64 l.w, .int .i64 l.v] 40) = wx at HX ⊢
  have b0 : wx.cell? ⟨w.heap.size, 0, none⟩ = some (.int .i64 words) := HX.out.box.cell 0
  have l0 : wx.cell? ⟨w.heap.size + 1, 0, none⟩ = some (.int .i64 l.k) := HX.out.ln.cell 0
  have l1 : wx.cell? ⟨w.heap.size + 1, 1, none⟩ = some (.int .i64 l.r) := HX.out.ln.cell 1
  have l2 : wx.cell? ⟨w.heap.size + 1, 2, none⟩ = some (.int .i64 l.w) := HX.out.ln.cell 2
  have l3 : wx.cell? ⟨w.heap.size + 1, 3, none⟩ = some (.int .i64 l.v) := HX.out.ln.cell 3
  go_wp2_with fail
  refine (within_yes (by have := HK.out; omega) (by have := HK.out; omega)).mono ?_
  rintro e wi ⟨rfl, rfl⟩
  go_wp2_with fail
  refine (within_yes (by have := HR.out; omega) (by have := HR.out; omega)).mono ?_
  rintro e wi ⟨rfl, rfl⟩
  go_wp2_with fail
  refine (touches_yes (by have := HK.out; omega) (by have := HK.out; omega)).mono ?_
  rintro e wy ⟨rfl, hb⟩
  replace HX := Lib.hid (HX.out.below hb)
  clear hb b0 l0 l1 l2 l3
  have b0 : wy.cell? ⟨w.heap.size, 0, none⟩ = some (.int .i64 words) := HX.out.box.cell 0
  have l0 : wy.cell? ⟨w.heap.size + 1, 0, none⟩ = some (.int .i64 l.k) := HX.out.ln.cell 0
  have l1 : wy.cell? ⟨w.heap.size + 1, 1, none⟩ = some (.int .i64 l.r) := HX.out.ln.cell 1
  have l2 : wy.cell? ⟨w.heap.size + 1, 2, none⟩ = some (.int .i64 l.w) := HX.out.ln.cell 2
  have l3 : wy.cell? ⟨w.heap.size + 1, 3, none⟩ = some (.int .i64 l.v) := HX.out.ln.cell 3
  go_wp2_with fail
  refine (within_yes (by have := HWD.out; omega) (by have := HWD.out; omega)).mono ?_
  rintro e wi ⟨rfl, rfl⟩
  go_wp2_with fail
  go_ret
  exact ⟨rfl, HX.out.bel⟩

set_option maxHeartbeats 2000000 in
set_option maxRecDepth 100000 in
theorem line_touchn {w : World} {words : Int} {u : Value} {l : Ln} (hw : 1 ≤ words ∧ words ≤ 4) (hk : 1 ≤ l.k ∧ l.k ≤ 3) (hr : 0 ≤ l.r ∧ l.r ≤ 1) (hwd : l.w < 0 ∨ words - 1 < l.w) :
    Calls Tryd.prog 43 #[.agg #[.int .i64 words, u], .agg #[.int .i64 l.k, .int .i64 l.r, .int .i64 l.w, .int .i64 l.v]] w fun e w' => e = .returned (.iface 74 (.int .i64 1)) ∧ Below w.heap.size w w' := by
  have HX := Lib.hid (lbox w words u l)
  have HK := Lib.hid hk
  have HR := Lib.hid hr
  have HWD := Lib.hid hwd
  have z4 : (l.k != 4) = true := by simp; omega
  have z0 : (l.k == 0) = false := by simp; omega
  have z5 : (l.k == 5) = false := by simp; omega
  clear hk hr hwd
  go_enter Tryd.func43, Tryd.ntmps43
  go_wp2_with fail
  generalize (w.alloc (.cells #[.int .i64 words, u] 24)).alloc (.cells #[.int .i64 l.k, .int .i64 l.r, .int .i64 l.w, .int .i64 l.v] 40) = wx at HX ⊢
  have b0 : wx.cell? ⟨w.heap.size, 0, none⟩ = some (.int .i64 words) := HX.out.box.cell 0
  have l0 : wx.cell? ⟨w.heap.size + 1, 0, none⟩ = some (.int .i64 l.k) := HX.out.ln.cell 0
  have l1 : wx.cell? ⟨w.heap.size + 1, 1, none⟩ = some (.int .i64 l.r) := HX.out.ln.cell 1
  have l2 : wx.cell? ⟨w.heap.size + 1, 2, none⟩ = some (.int .i64 l.w) := HX.out.ln.cell 2
  have l3 : wx.cell? ⟨w.heap.size + 1, 3, none⟩ = some (.int .i64 l.v) := HX.out.ln.cell 3
  go_wp2_with fail
  refine (within_yes (by have := HK.out; omega) (by have := HK.out; omega)).mono ?_
  rintro e wi ⟨rfl, rfl⟩
  go_wp2_with fail
  refine (within_yes (by have := HR.out; omega) (by have := HR.out; omega)).mono ?_
  rintro e wi ⟨rfl, rfl⟩
  go_wp2_with fail
  refine (touches_yes (by have := HK.out; omega) (by have := HK.out; omega)).mono ?_
  rintro e wy ⟨rfl, hb⟩
  replace HX := Lib.hid (HX.out.below hb)
  clear hb b0 l0 l1 l2 l3
  have b0 : wy.cell? ⟨w.heap.size, 0, none⟩ = some (.int .i64 words) := HX.out.box.cell 0
  have l0 : wy.cell? ⟨w.heap.size + 1, 0, none⟩ = some (.int .i64 l.k) := HX.out.ln.cell 0
  have l1 : wy.cell? ⟨w.heap.size + 1, 1, none⟩ = some (.int .i64 l.r) := HX.out.ln.cell 1
  have l2 : wy.cell? ⟨w.heap.size + 1, 2, none⟩ = some (.int .i64 l.w) := HX.out.ln.cell 2
  have l3 : wy.cell? ⟨w.heap.size + 1, 3, none⟩ = some (.int .i64 l.v) := HX.out.ln.cell 3
  go_wp2_with fail
  refine (within_no (by have := HWD.out; omega)).mono ?_
  rintro e wi ⟨rfl, rfl⟩
  go_wp2_with fail
  go_ret
  exact ⟨rfl, HX.out.bel⟩

set_option maxHeartbeats 2000000 in
set_option maxRecDepth 100000 in
theorem line_fence {w : World} {words : Int} {u : Value} {l : Ln} (hw : 1 ≤ words ∧ words ≤ 4) (hk : l.k = 4) :
    Calls Tryd.prog 43 #[.agg #[.int .i64 words, u], .agg #[.int .i64 l.k, .int .i64 l.r, .int .i64 l.w, .int .i64 l.v]] w fun e w' => e = .returned (.nilIface) ∧ Below w.heap.size w w' := by
  have HX := Lib.hid (lbox w words u l)
  have HK := Lib.hid hk
  have z4 : (l.k != 4) = false := by simp; omega
  have z0 : (l.k == 0) = false := by simp; omega
  have z5 : (l.k == 5) = false := by simp; omega
  clear hk
  go_enter Tryd.func43, Tryd.ntmps43
  go_wp2_with fail
  generalize (w.alloc (.cells #[.int .i64 words, u] 24)).alloc (.cells #[.int .i64 l.k, .int .i64 l.r, .int .i64 l.w, .int .i64 l.v] 40) = wx at HX ⊢
  have b0 : wx.cell? ⟨w.heap.size, 0, none⟩ = some (.int .i64 words) := HX.out.box.cell 0
  have l0 : wx.cell? ⟨w.heap.size + 1, 0, none⟩ = some (.int .i64 l.k) := HX.out.ln.cell 0
  have l1 : wx.cell? ⟨w.heap.size + 1, 1, none⟩ = some (.int .i64 l.r) := HX.out.ln.cell 1
  have l2 : wx.cell? ⟨w.heap.size + 1, 2, none⟩ = some (.int .i64 l.w) := HX.out.ln.cell 2
  have l3 : wx.cell? ⟨w.heap.size + 1, 3, none⟩ = some (.int .i64 l.v) := HX.out.ln.cell 3
  go_wp2_with fail
  refine (within_yes (by have := HK.out; omega) (by have := HK.out; omega)).mono ?_
  rintro e wi ⟨rfl, rfl⟩
  go_wp2_with fail
  refine (touches_no (by have := HK.out; omega)).mono ?_
  rintro e wy ⟨rfl, hb⟩
  replace HX := Lib.hid (HX.out.below hb)
  clear hb b0 l0 l1 l2 l3
  have b0 : wy.cell? ⟨w.heap.size, 0, none⟩ = some (.int .i64 words) := HX.out.box.cell 0
  have l0 : wy.cell? ⟨w.heap.size + 1, 0, none⟩ = some (.int .i64 l.k) := HX.out.ln.cell 0
  have l1 : wy.cell? ⟨w.heap.size + 1, 1, none⟩ = some (.int .i64 l.r) := HX.out.ln.cell 1
  have l2 : wy.cell? ⟨w.heap.size + 1, 2, none⟩ = some (.int .i64 l.w) := HX.out.ln.cell 2
  have l3 : wy.cell? ⟨w.heap.size + 1, 3, none⟩ = some (.int .i64 l.v) := HX.out.ln.cell 3
  go_wp2_with fail
  go_ret
  exact ⟨rfl, HX.out.bel⟩

set_option maxHeartbeats 2000000 in
set_option maxRecDepth 100000 in
theorem line_leave {w : World} {words : Int} {u : Value} {l : Ln} (hw : 1 ≤ words ∧ words ≤ 4) (hk : l.k = 5) (hr : 0 ≤ l.r ∧ l.r ≤ 1) (hv : 0 ≤ l.v ∧ l.v ≤ 5) :
    Calls Tryd.prog 43 #[.agg #[.int .i64 words, u], .agg #[.int .i64 l.k, .int .i64 l.r, .int .i64 l.w, .int .i64 l.v]] w fun e w' => e = .returned (.nilIface) ∧ Below w.heap.size w w' := by
  have HX := Lib.hid (lbox w words u l)
  have HK := Lib.hid hk
  have HR := Lib.hid hr
  have HV := Lib.hid hv
  have z4 : (l.k != 4) = true := by simp; omega
  have z0 : (l.k == 0) = false := by simp; omega
  have z5 : (l.k == 5) = true := by simp; omega
  clear hk hr hv
  go_enter Tryd.func43, Tryd.ntmps43
  go_wp2_with fail
  generalize (w.alloc (.cells #[.int .i64 words, u] 24)).alloc (.cells #[.int .i64 l.k, .int .i64 l.r, .int .i64 l.w, .int .i64 l.v] 40) = wx at HX ⊢
  have b0 : wx.cell? ⟨w.heap.size, 0, none⟩ = some (.int .i64 words) := HX.out.box.cell 0
  have l0 : wx.cell? ⟨w.heap.size + 1, 0, none⟩ = some (.int .i64 l.k) := HX.out.ln.cell 0
  have l1 : wx.cell? ⟨w.heap.size + 1, 1, none⟩ = some (.int .i64 l.r) := HX.out.ln.cell 1
  have l2 : wx.cell? ⟨w.heap.size + 1, 2, none⟩ = some (.int .i64 l.w) := HX.out.ln.cell 2
  have l3 : wx.cell? ⟨w.heap.size + 1, 3, none⟩ = some (.int .i64 l.v) := HX.out.ln.cell 3
  go_wp2_with fail
  refine (within_yes (by have := HK.out; omega) (by have := HK.out; omega)).mono ?_
  rintro e wi ⟨rfl, rfl⟩
  go_wp2_with fail
  refine (within_yes (by have := HR.out; omega) (by have := HR.out; omega)).mono ?_
  rintro e wi ⟨rfl, rfl⟩
  go_wp2_with fail
  refine (touches_no (by have := HK.out; omega)).mono ?_
  rintro e wy ⟨rfl, hb⟩
  replace HX := Lib.hid (HX.out.below hb)
  clear hb b0 l0 l1 l2 l3
  have b0 : wy.cell? ⟨w.heap.size, 0, none⟩ = some (.int .i64 words) := HX.out.box.cell 0
  have l0 : wy.cell? ⟨w.heap.size + 1, 0, none⟩ = some (.int .i64 l.k) := HX.out.ln.cell 0
  have l1 : wy.cell? ⟨w.heap.size + 1, 1, none⟩ = some (.int .i64 l.r) := HX.out.ln.cell 1
  have l2 : wy.cell? ⟨w.heap.size + 1, 2, none⟩ = some (.int .i64 l.w) := HX.out.ln.cell 2
  have l3 : wy.cell? ⟨w.heap.size + 1, 3, none⟩ = some (.int .i64 l.v) := HX.out.ln.cell 3
  go_wp2_with fail
  refine (within_yes (by have := HV.out; omega) (by have := HV.out; omega)).mono ?_
  rintro e wi ⟨rfl, rfl⟩
  go_wp2_with fail
  go_ret
  exact ⟨rfl, HX.out.bel⟩

set_option maxHeartbeats 2000000 in
set_option maxRecDepth 100000 in
theorem line_leaven {w : World} {words : Int} {u : Value} {l : Ln} (hw : 1 ≤ words ∧ words ≤ 4) (hk : l.k = 5) (hr : 0 ≤ l.r ∧ l.r ≤ 1) (hv : l.v < 0 ∨ 5 < l.v) :
    Calls Tryd.prog 43 #[.agg #[.int .i64 words, u], .agg #[.int .i64 l.k, .int .i64 l.r, .int .i64 l.w, .int .i64 l.v]] w fun e w' => e = .returned (.iface 74 (.int .i64 1)) ∧ Below w.heap.size w w' := by
  have HX := Lib.hid (lbox w words u l)
  have HK := Lib.hid hk
  have HR := Lib.hid hr
  have HV := Lib.hid hv
  have z4 : (l.k != 4) = true := by simp; omega
  have z0 : (l.k == 0) = false := by simp; omega
  have z5 : (l.k == 5) = true := by simp; omega
  clear hk hr hv
  go_enter Tryd.func43, Tryd.ntmps43
  go_wp2_with fail
  generalize (w.alloc (.cells #[.int .i64 words, u] 24)).alloc (.cells #[.int .i64 l.k, .int .i64 l.r, .int .i64 l.w, .int .i64 l.v] 40) = wx at HX ⊢
  have b0 : wx.cell? ⟨w.heap.size, 0, none⟩ = some (.int .i64 words) := HX.out.box.cell 0
  have l0 : wx.cell? ⟨w.heap.size + 1, 0, none⟩ = some (.int .i64 l.k) := HX.out.ln.cell 0
  have l1 : wx.cell? ⟨w.heap.size + 1, 1, none⟩ = some (.int .i64 l.r) := HX.out.ln.cell 1
  have l2 : wx.cell? ⟨w.heap.size + 1, 2, none⟩ = some (.int .i64 l.w) := HX.out.ln.cell 2
  have l3 : wx.cell? ⟨w.heap.size + 1, 3, none⟩ = some (.int .i64 l.v) := HX.out.ln.cell 3
  go_wp2_with fail
  refine (within_yes (by have := HK.out; omega) (by have := HK.out; omega)).mono ?_
  rintro e wi ⟨rfl, rfl⟩
  go_wp2_with fail
  refine (within_yes (by have := HR.out; omega) (by have := HR.out; omega)).mono ?_
  rintro e wi ⟨rfl, rfl⟩
  go_wp2_with fail
  refine (touches_no (by have := HK.out; omega)).mono ?_
  rintro e wy ⟨rfl, hb⟩
  replace HX := Lib.hid (HX.out.below hb)
  clear hb b0 l0 l1 l2 l3
  have b0 : wy.cell? ⟨w.heap.size, 0, none⟩ = some (.int .i64 words) := HX.out.box.cell 0
  have l0 : wy.cell? ⟨w.heap.size + 1, 0, none⟩ = some (.int .i64 l.k) := HX.out.ln.cell 0
  have l1 : wy.cell? ⟨w.heap.size + 1, 1, none⟩ = some (.int .i64 l.r) := HX.out.ln.cell 1
  have l2 : wy.cell? ⟨w.heap.size + 1, 2, none⟩ = some (.int .i64 l.w) := HX.out.ln.cell 2
  have l3 : wy.cell? ⟨w.heap.size + 1, 3, none⟩ = some (.int .i64 l.v) := HX.out.ln.cell 3
  go_wp2_with fail
  refine (within_no (by have := HV.out; omega)).mono ?_
  rintro e wi ⟨rfl, rfl⟩
  go_wp2_with fail
  go_ret
  exact ⟨rfl, HX.out.bel⟩

theorem line_any {w : World} {words : Int} {u : Value} {l : Ln} (hw : 1 ≤ words ∧ words ≤ 4) :
    Calls Tryd.prog 43 #[.agg #[.int .i64 words, u], lnVal l] w fun e w' => e = .returned (errVal (if bad words l then 1 else 0)) ∧ Below w.heap.size w w' := by
  unfold lnVal
  have yes : ∀ {e : Ending} {w' : World}, bad words l = false → (e = .returned .nilIface ∧ Below w.heap.size w w') → e = .returned (errVal (if bad words l then 1 else 0)) ∧ Below w.heap.size w w' := by
    intro e w' hb h; rw [hb]; exact h
  have no : ∀ {e : Ending} {w' : World}, ¬ Good words l → (e = .returned (.iface 74 (.int .i64 1)) ∧ Below w.heap.size w w') → e = .returned (errVal (if bad words l then 1 else 0)) ∧ Below w.heap.size w w' := by
    intro e w' hb h
    have : bad words l = true := by
      cases q : bad words l with
      | true => rfl
      | false => exact absurd (good_of q) hb
    rw [this]; exact h
  by_cases hk : 0 ≤ l.k ∧ l.k ≤ 5
  · by_cases k4 : l.k = 4
    · exact (line_fence hw k4).mono fun e w' h => yes (good_bad ⟨by omega, by omega, by omega, by omega, by omega⟩) h
    · by_cases hr : 0 ≤ l.r ∧ l.r ≤ 1
      · by_cases k0 : l.k = 0
        · by_cases hv : 0 ≤ l.v ∧ l.v ≤ 1000
          · exact (line_put hw k0 hr hv).mono fun e w' h => yes (good_bad ⟨by omega, by omega, by omega, by omega, by omega⟩) h
          · exact (line_putn hw k0 hr (by omega)).mono fun e w' h => no (fun g => hv (g.v0 k0)) h
        · by_cases k5 : l.k = 5
          · by_cases hv : 0 ≤ l.v ∧ l.v ≤ 5
            · exact (line_leave hw k5 hr hv).mono fun e w' h => yes (good_bad ⟨by omega, by omega, by omega, by omega, by omega⟩) h
            · exact (line_leaven hw k5 hr (by omega)).mono fun e w' h => no (fun g => hv (g.v5 k5)) h
          · by_cases hwd : 0 ≤ l.w ∧ l.w ≤ words - 1
            · exact (line_touch hw (by omega) hr hwd).mono fun e w' h => yes (good_bad ⟨by omega, by omega, by omega, by omega, by omega⟩) h
            · exact (line_touchn hw (by omega) hr (by omega)).mono fun e w' h => no (fun g => hwd (g.w (by omega) (by omega))) h
      · exact (line_r hw (by omega) (by omega)).mono fun e w' h => no (fun g => hr (g.r k4)) h
  · exact (line_k hw (by omega)).mono fun e w' h => no (fun g => hk g.k) h
end Go.Proofs.YtimbdjmplcgilaaDoor.Pr
