import Derived.Test.YtimbdjmplcgilaaDoorPrBase
import Derived.Deep.RegionLaw
namespace Go.Proofs.YtimbdjmplcgilaaDoor.Pr
open Go.RowKit
set_option linter.unusedVariables false

/-- A function has put its program into a box, and made a line for the result. -/
structure Boxed (w wx : World) (words : Int) (u : Value) : Prop where
  bel : Below w.heap.size w wx
  size : wx.heap.size = w.heap.size + 2
  box : Blk wx w.heap.size #[.int .i64 words, u] 24
  out : Blk wx (w.heap.size + 1) #[.int .i64 0, .int .i64 0, .int .i64 0, .int .i64 0] 40
theorem boxed (w : World) (words : Int) (u : Value) : Boxed w ((w.alloc (.cells #[.int .i64 words, u] 24)).alloc (.cells #[.int .i64 0, .int .i64 0, .int .i64 0, .int .i64 0] 40)) words u := by
  refine ⟨((Below.refl _ _).alloc (Nat.le_refl _) _).alloc (by simp) _, by simp, (Blk.new _ _ _).alloc _, ?_⟩
  have h := Blk.new (w.alloc (.cells #[.int .i64 words, u] 24)) #[.int .i64 0, .int .i64 0, .int .i64 0, .int .i64 0] 40
  simpa using h
theorem out4 {w : World} {c : Nat} {x0 x1 x2 x3 : Value} {T : TypeId} (k : Blk w c #[x0, x1, x2, x3] T) (v0 v1 v2 v3 : Value) :
    Blk ((((w.setCell ⟨c, 0, none⟩ v0).setCell ⟨c, 1, none⟩ v1).setCell ⟨c, 2, none⟩ v2).setCell ⟨c, 3, none⟩ v3) c #[v0, v1, v2, v3] T :=
  Blk.eq ((((k.set 0 v0).set 1 v1).set 2 v2).set 3 v3) (by simp)
theorem bel4 {B c : Nat} {w w' : World} (h : Below B w w') (hc : B ≤ c) (v0 v1 v2 v3 : Value) :
    Below B w ((((w'.setCell ⟨c, 0, none⟩ v0).setCell ⟨c, 1, none⟩ v1).setCell ⟨c, 2, none⟩ v2).setCell ⟨c, 3, none⟩ v3) :=
  (((h.setCell (p := ⟨c, 0, none⟩) hc _).setCell (p := ⟨c, 1, none⟩) hc _).setCell (p := ⟨c, 2, none⟩) hc _).setCell (p := ⟨c, 3, none⟩) hc _
theorem Below.todrewN {B : Nat} {w w' : World} (h : Below B w w') (k : Nat) : Below B w (w'.drewN k) := ⟨h.os, h.tape, h.output, h.size, h.block⟩

set_option maxHeartbeats 2000000 in
set_option maxRecDepth 100000 in
theorem next_yes {w : World} {L h : Nat} {u : Value} {words : Int} {p : List (List Ln)} {f : St} (hp : IsProg w u p) (hs : StAt w L f) (hh : h < p.length) (h4 : h < 4) (h0 : 0 ≤ f h ∧ f h ≤ 10) (hmr : more p f h = true) :
    Calls Tryd.prog 27 #[.pointer (some ⟨L, 0, none⟩), .agg #[.int .i64 words, u], .int .i64 h] w fun e w' =>
      e = .returned (.tuple #[lnVal (line p f h), .bool true]) ∧ Below w.heap.size w w' := by
  have hx := boxed w words u
  obtain ⟨a, cap, rfl, hl, hj⟩ := hp
  obtain ⟨b, o, rfl, hb, x, hc, hH⟩ := hj h hh
  obtain ⟨a2, cap2, rfl, hl2, hj2⟩ := hH
  have hL := (hs h (by omega)).1
  have hLb : L < w.heap.size := World.block_lt_of_cell? (w := w) (a := ⟨L, h, none⟩) hL
  unfold maxLen at hl hl2
  simp only at hL
  clear hj
  go_enter Tryd.func27, Tryd.ntmps27
  go_wp2_with fail
  generalize (w.alloc (.cells #[.int .i64 words, .slice (some ⟨b, o, none⟩) p.length cap] 24)).alloc (.cells #[.int .i64 0, .int .i64 0, .int .i64 0, .int .i64 0] 40) = wx at hx ⊢
  have c1 : wx.cell? ⟨w.heap.size, 1, none⟩ = some (.slice (some ⟨b, o, none⟩) p.length cap) := hx.box.cell 1
  have c2 : wx.cell? ⟨b, o + h, none⟩ = some (.slice a2 (lines p h).length cap2) := by rw [hx.bel.cell (p := ⟨b, o + h, none⟩) hb]; exact hc
  have c3 : wx.cell? ⟨L, h, none⟩ = some (.int .i64 (f h)) := by rw [hx.bel.cell (p := ⟨L, h, none⟩) hLb]; exact hL
  have q0 : wx.cell? ⟨w.heap.size + 1, 0, none⟩ = some (.int .i64 0) := hx.out.cell 0
  have q1 : wx.cell? ⟨w.heap.size + 1, 1, none⟩ = some (.int .i64 0) := hx.out.cell 1
  have q2 : wx.cell? ⟨w.heap.size + 1, 2, none⟩ = some (.int .i64 0) := hx.out.cell 2
  have q3 : wx.cell? ⟨w.heap.size + 1, 3, none⟩ = some (.int .i64 0) := hx.out.cell 3
  have f0 := hx.out.free 0
  have f1 := hx.out.free 1
  have f2 := hx.out.free 2
  have f3 := hx.out.free 3
  have HX := Lib.hid hx
  have h4I : (h : Int) < 4 := by omega
  have hhI : (h : Int) < p.length := by omega
  have hx0 := hx
  clear hx hL hc
  simp [more] at hmr
  obtain ⟨j, hj⟩ := Int.eq_ofNat_of_zero_le h0.1
  have hln : line p f h = (lines p h).getD j Ln.zero := by simp [line, hj]
  rw [hj] at hmr c3
  have hjl : j < (lines p h).length := by omega
  obtain ⟨b2, o2, rfl, hb2, hA⟩ := hj2 j hjl
  obtain ⟨x0, x1, x2, x3⟩ := hA
  rw [← hx0.bel.cell (p := ⟨b2, _, none⟩) hb2] at x0 x1 x2 x3
  rw [← hln] at x0 x1 x2 x3
  have z1 : decide ((j : Int) ≥ ((lines p h).length : Int)) = false := by simp; omega
  clear hj hj2 hs hx0 hb hb2 hLb h0 hln
  obtain ⟨lv, hlv⟩ : ∃ lv, line p f h = lv := ⟨_, rfl⟩
  rw [hlv] at x0 x1 x2 x3
  have HLV := Lib.hid hlv
  clear hlv
  generalize lines p h = ls at *
  go_quiet (fail)
  go_wp2_with fail
  go_region
  go_wp2_with fail
  have kF := out4 HX.out.out (.int .i64 lv.k) (.int .i64 lv.r) (.int .i64 lv.w) (.int .i64 lv.v)
  exact ret_next (v0 := .int .i64 lv.k) (v1 := .int .i64 lv.r) (v2 := .int .i64 lv.w) (v3 := .int .i64 lv.v) (v4 := .bool true) rfl rfl rfl (kF.cell 0) (kF.cell 1) (kF.cell 2) (kF.cell 3) rfl ⟨by rw [HLV.out]; rfl, bel4 (HX.out.bel.trans (Below.todrewN (Below.refl _ _) _)) (by omega) _ _ _ _⟩

set_option maxHeartbeats 2000000 in
set_option maxRecDepth 100000 in
theorem next_no {w : World} {L h : Nat} {u : Value} {words : Int} {p : List (List Ln)} {f : St} (hp : IsProg w u p) (hs : StAt w L f) (hh : h < p.length) (h4 : h < 4) (h0 : 0 ≤ f h ∧ f h ≤ 10) (hmr : more p f h = false) :
    Calls Tryd.prog 27 #[.pointer (some ⟨L, 0, none⟩), .agg #[.int .i64 words, u], .int .i64 h] w fun e w' =>
      e = .returned (.tuple #[lnVal (Ln.zero), .bool false]) ∧ Below w.heap.size w w' := by
  have hx := boxed w words u
  obtain ⟨a, cap, rfl, hl, hj⟩ := hp
  obtain ⟨b, o, rfl, hb, x, hc, hH⟩ := hj h hh
  obtain ⟨a2, cap2, rfl, hl2, hj2⟩ := hH
  have hL := (hs h (by omega)).1
  have hLb : L < w.heap.size := World.block_lt_of_cell? (w := w) (a := ⟨L, h, none⟩) hL
  unfold maxLen at hl hl2
  simp only at hL
  clear hj
  go_enter Tryd.func27, Tryd.ntmps27
  go_wp2_with fail
  generalize (w.alloc (.cells #[.int .i64 words, .slice (some ⟨b, o, none⟩) p.length cap] 24)).alloc (.cells #[.int .i64 0, .int .i64 0, .int .i64 0, .int .i64 0] 40) = wx at hx ⊢
  have c1 : wx.cell? ⟨w.heap.size, 1, none⟩ = some (.slice (some ⟨b, o, none⟩) p.length cap) := hx.box.cell 1
  have c2 : wx.cell? ⟨b, o + h, none⟩ = some (.slice a2 (lines p h).length cap2) := by rw [hx.bel.cell (p := ⟨b, o + h, none⟩) hb]; exact hc
  have c3 : wx.cell? ⟨L, h, none⟩ = some (.int .i64 (f h)) := by rw [hx.bel.cell (p := ⟨L, h, none⟩) hLb]; exact hL
  have q0 : wx.cell? ⟨w.heap.size + 1, 0, none⟩ = some (.int .i64 0) := hx.out.cell 0
  have q1 : wx.cell? ⟨w.heap.size + 1, 1, none⟩ = some (.int .i64 0) := hx.out.cell 1
  have q2 : wx.cell? ⟨w.heap.size + 1, 2, none⟩ = some (.int .i64 0) := hx.out.cell 2
  have q3 : wx.cell? ⟨w.heap.size + 1, 3, none⟩ = some (.int .i64 0) := hx.out.cell 3
  have f0 := hx.out.free 0
  have f1 := hx.out.free 1
  have f2 := hx.out.free 2
  have f3 := hx.out.free 3
  have HX := Lib.hid hx
  have h4I : (h : Int) < 4 := by omega
  have hhI : (h : Int) < p.length := by omega
  have hx0 := hx
  clear hx hL hc
  simp [more] at hmr
  have z1 : decide (f h ≥ ((lines p h).length : Int)) = true := by simp; omega
  clear hj2 hs hx0 hb hLb h0
  generalize lines p h = ls at *
  go_quiet (fail)
  go_wp2_with fail
  have kF := out4 HX.out.out (.int .i64 0) (.int .i64 0) (.int .i64 0) (.int .i64 0)
  exact ret_next (v0 := .int .i64 0) (v1 := .int .i64 0) (v2 := .int .i64 0) (v3 := .int .i64 0) (v4 := .bool false) rfl rfl rfl (kF.cell 0) (kF.cell 1) (kF.cell 2) (kF.cell 3) rfl ⟨rfl, bel4 (HX.out.bel.trans (Below.todrewN (Below.refl _ _) _)) (by omega) _ _ _ _⟩
end Go.Proofs.YtimbdjmplcgilaaDoor.Pr
