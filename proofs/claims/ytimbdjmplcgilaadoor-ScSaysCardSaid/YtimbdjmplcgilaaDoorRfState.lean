import Derived.Test.YtimbdjmplcgilaaDoorRfProg
import Derived.Test.YtimbdjmplcgilaaDoorPrInts
import Derived.Deep.RegionWith
namespace Go.Proofs.YtimbdjmplcgilaaDoor.Rf
open Go.RowKit Pr
set_option linter.unusedVariables false
set_option linter.unusedSimpArgs false

/-- A state of the document: forty-six numbers in a row of their own. -/
def RV (w : World) (v : Value) (f : St) : Prop := ∃ g cap, v = .slice (some ⟨g, 0, none⟩) 46 cap ∧ 46 ≤ cap ∧ g < w.heap.size ∧ Row w g 46 (fun j => j) f
/-- New memory that holds a state. -/
def Got (f : St) (w : World) (v : Value) (w' : World) : Prop := ∃ g cap, v = .slice (some ⟨g, 0, none⟩) 46 cap ∧ 46 ≤ cap ∧ w.heap.size ≤ g ∧ g < w'.heap.size ∧ Row w' g 46 (fun j => j) f
theorem RV.below {w w' : World} {v : Value} {f : St} (h : RV w v f) (k : Below w.heap.size w w') : RV w' v f := by
  obtain ⟨g, cap, rfl, hc, hg, hr⟩ := h
  exact ⟨g, cap, rfl, hc, Nat.lt_of_lt_of_le hg k.size, hr.keep (k.block _ hg)⟩
theorem Got.rv {f : St} {w w' : World} {v : Value} (h : Got f w v w') : RV w' v f := by
  obtain ⟨g, cap, rfl, hc, hg, hl, hr⟩ := h
  exact ⟨g, cap, rfl, hc, hl, hr⟩
def list46 (f : St) : List Int := (List.range 46).map f
theorem list46_len (f : St) : (list46 f).length = 46 := by simp [list46]
theorem list46_get (f : St) {j : Nat} (hj : j < 46) : (list46 f).getD j 0 = f j := by simp [list46, List.getD_eq_getElem?_getD, hj]
theorem cells46 {w : World} {g : Nat} {f : St} (h : Row w g 46 (fun j => j) f) : ∀ j u, (ints (list46 f))[j]? = some u → w.cell? (Addr.add ⟨g, 0, none⟩ j) = some u := by
  intro j u hu
  have hj : j < 46 := by
    have := (List.getElem?_eq_some_iff.1 hu).1
    simpa [ints, list46] using this
  have e1 : Addr.add ⟨g, 0, none⟩ j = ⟨g, j, none⟩ := by
    unfold Addr.add; split
    · subst_vars; rfl
    · simp
  rw [e1, (h j hj).1]
  simpa [ints, list46, hj] using hu

set_option maxHeartbeats 1000000 in
set_option maxRecDepth 100000 in
theorem copied_any {w : World} {v : Value} {f : St} (hv : RV w v f) :
    Calls Tryd.prog 40 #[v] w fun e w' => ∃ x, e = .returned x ∧ Got f w x w' ∧ Below w.heap.size w w' := by
  obtain ⟨g, cap, rfl, hc, hg, hr⟩ := hv
  obtain ⟨i0, hi, hz0, hz1, hz2⟩ := info_parts infoInt2
  have HR := Lib.hid hr
  have HO : Hid (w.ownsRow w.heap.size 3 1 (.slice none 0 0) 0 []) := World.ownsRow_nil w _ _ _
  have HN := Lib.hid (cells46 hr)
  clear hr
  go_enter Tryd.func40, Tryd.ntmps40
  go_wp2_with (at_builtin; refine wpList_append_own _ rfl _ _ 48 rfl w.heap.size 3 i0 (.int .i64 0) 1 8 Tryd.underlying48 hi hz0 hz1 hz2 rfl (by decide) (.slice none 0 0) 0 [] rfl HO.out ⟨g, 0, none⟩ 46 cap (ints (list46 f)) rfl ?c0 HN.out ?c2 ?c3 ?c4 (Nat.le_refl _) ?_)
  case c0 => simp [ints, list46]
  case c2 => intro y hy; unfold ints at hy; obtain ⟨z, -, rfl⟩ := List.mem_map.1 hy; rfl
  case c3 => unfold maxLen; omega
  case c4 => omega
  intro v' w1 hown hgrow _
  have hown2 : w1.ownsRow w.heap.size 3 1 v' (list46 f).length (ints (list46 f)) := by rw [list46_len]; simpa using hown
  obtain ⟨g', cap', rfl, ⟨h1, h2⟩, h3, h4⟩ := own_ints hown2 (by rw [list46_len]; decide)
  have hb : Below w.heap.size w w1 := (Below.refl _ _).grown hgrow (Nat.le_refl _) (by intro k e; simp [Value.ownBlock] at e)
  rw [list46_len] at h2 h4 ⊢
  have h5 : Row w1 g' 46 (fun j => j) f := h4.eq (fun j hj => list46_get f hj)
  go_wp2_with fail
  go_ret
  exact ⟨_, rfl, ⟨g', cap', rfl, h2, h1, h3, h5⟩, hb⟩

theorem make_state (w : World) : (Instr.makeSlice 48 (.int .i64 46) (.int .i64 46)).run Tryd.prog w = .ok (.slice (some ⟨w.heap.size, 0, none⟩) 46 46) (w.alloc (.cells (zeros 46) 3)) := by
  obtain ⟨i0, hi, hz0, hz1, hz2⟩ := info_parts infoInt
  have h := run_make (P := Tryd.prog) w 48 3 i0 (.int .i64 0) Tryd.underlying48 hi hz0 .i64 .i64 46 46 (by omega) (by omega) (by rw [hz2]; omega) (by omega)
  rw [h]
  simp only [hz1, Nat.mul_one, Value.cells, made_zeros]
  rfl
set_option maxHeartbeats 1000000 in
set_option maxRecDepth 100000 in
theorem first_any {w : World} :
    Calls Tryd.prog 16 #[] w fun e w' => ∃ x, e = .returned x ∧ Got (fun _ => 0) w x w' ∧ Below w.heap.size w w' := by
  have hB : Below w.heap.size w (w.alloc (.cells (zeros 46) 3)) := (Below.refl _ _).alloc (Nat.le_refl _) _
  have hR : Row (w.alloc (.cells (zeros 46) 3)) w.heap.size 46 (fun j => j) (fun _ => 0) := zeros_row (Blk.new w (zeros 46) 3)
  have hmk := make_state
  go_enter Tryd.func16, Tryd.ntmps16
  go_wp2_with fail
  go_ret
  exact ⟨_, rfl, ⟨w.heap.size, 46, rfl, Nat.le_refl _, Nat.le_refl _, by simp, hR⟩, hB⟩

/-- What a row says of the next line. -/
def rmore (p : List (List Ln)) (f : St) (h : Nat) : Bool := decide (f (h * 3) < ((lines p h).length : Int))
def rline (p : List (List Ln)) (f : St) (h : Nat) : Ln := (lines p h).getD (f (h * 3)).toNat Ln.zero
structure RBox (w wx : World) (words : Int) (u : Value) : Prop where
  bel : Below w.heap.size w wx
  size : w.heap.size + 2 ≤ wx.heap.size
  box : Blk wx w.heap.size #[.int .i64 words, u] 24
  out : Blk wx (w.heap.size + 1) #[.int .i64 0, .int .i64 0, .int .i64 0, .int .i64 0] 40
theorem rbox (w : World) (words : Int) (u : Value) : RBox w ((w.alloc (.cells #[.int .i64 words, u] 24)).alloc (.cells #[.int .i64 0, .int .i64 0, .int .i64 0, .int .i64 0] 40)) words u := by
  refine ⟨((Below.refl _ _).alloc (Nat.le_refl _) _).alloc (by simp) _, by simp, (Blk.new _ _ _).alloc _, ?_⟩
  have h := Blk.new (w.alloc (.cells #[.int .i64 words, u] 24)) #[.int .i64 0, .int .i64 0, .int .i64 0, .int .i64 0] 40
  simpa using h

set_option maxHeartbeats 2000000 in
set_option maxRecDepth 100000 in
theorem next_yes {w : World} {h : Nat} {u v : Value} {words : Int} {p : List (List Ln)} {f : St} (hp : IsProg w u p) (hv : RV w v f) (hh : h < p.length) (h3 : h < 3) (h0 : 0 ≤ f (h * 3) ∧ f (h * 3) ≤ 10) (hmr : rmore p f h = true) :
    Calls Tryd.prog 17 #[.agg #[.int .i64 words, u], v, .int .i64 h] w fun e w' =>
      e = .returned (.tuple #[lnVal (rline p f h), .bool true]) ∧ Below w.heap.size w w' := by
  have hx := rbox w words u
  obtain ⟨a, cap, rfl, hl, hj⟩ := hp
  obtain ⟨b, o, rfl, hb, x, hc, hH⟩ := hj h hh
  obtain ⟨a2, cap2, rfl, hl2, hj2⟩ := hH
  obtain ⟨g, capg, rfl, hcg, hg, hr⟩ := hv
  have hL := (hr (h * 3) (by omega)).1
  unfold maxLen at hl hl2
  simp only at hL
  clear hj
  go_enter Tryd.func17, Tryd.ntmps17
  go_upto_region 1 with fail
  generalize (w.alloc (.cells #[.int .i64 words, .slice (some ⟨b, o, none⟩) p.length cap] 24)).alloc (.cells #[.int .i64 0, .int .i64 0, .int .i64 0, .int .i64 0] 40) = wx at hx ⊢
  have c1 : wx.cell? ⟨w.heap.size, 1, none⟩ = some (.slice (some ⟨b, o, none⟩) p.length cap) := hx.box.cell 1
  have c2 : wx.cell? ⟨b, o + h, none⟩ = some (.slice a2 (lines p h).length cap2) := by rw [hx.bel.cell (p := ⟨b, o + h, none⟩) hb]; exact hc
  have c3 : wx.cell? ⟨g, h * 3, none⟩ = some (.int .i64 (f (h * 3))) := by rw [hx.bel.cell (p := ⟨g, h * 3, none⟩) hg]; exact hL
  have q0 : wx.cell? ⟨w.heap.size + 1, 0, none⟩ = some (.int .i64 0) := hx.out.cell 0
  have q1 : wx.cell? ⟨w.heap.size + 1, 1, none⟩ = some (.int .i64 0) := hx.out.cell 1
  have q2 : wx.cell? ⟨w.heap.size + 1, 2, none⟩ = some (.int .i64 0) := hx.out.cell 2
  have q3 : wx.cell? ⟨w.heap.size + 1, 3, none⟩ = some (.int .i64 0) := hx.out.cell 3
  have f0 := hx.out.free 0
  have f1 := hx.out.free 1
  have f2 := hx.out.free 2
  have f3 := hx.out.free 3
  have HX := Lib.hid hx
  have h3I : (h : Int) < 3 := by omega
  have hhI : (h : Int) < p.length := by omega
  have hx0 := hx
  clear hx hL hc hr
  simp [rmore] at hmr
  obtain ⟨j, hj⟩ := Int.eq_ofNat_of_zero_le h0.1
  have hln : rline p f h = (lines p h).getD j Ln.zero := by simp [rline, hj]
  rw [hj] at hmr c3
  have hjl : j < (lines p h).length := by omega
  obtain ⟨b2, o2, rfl, hb2, hA⟩ := hj2 j hjl
  obtain ⟨x0, x1, x2, x3⟩ := hA
  rw [← hx0.bel.cell (p := ⟨b2, _, none⟩) hb2] at x0 x1 x2 x3
  rw [← hln] at x0 x1 x2 x3
  have z1 : decide ((j : Int) ≥ ((lines p h).length : Int)) = false := by simp; omega
  clear hj hj2 hx0 hb hb2 hg h0 hln hh h3
  obtain ⟨lv, hlv⟩ : ∃ lv, rline p f h = lv := ⟨_, rfl⟩
  rw [hlv] at x0 x1 x2 x3
  have HLV := Lib.hid hlv
  clear hlv
  generalize lines p h = ls at *
  go_wp2_with fail
  have kF := out4 HX.out.out (.int .i64 lv.k) (.int .i64 lv.r) (.int .i64 lv.w) (.int .i64 lv.v)
  exact ret_next (v0 := .int .i64 lv.k) (v1 := .int .i64 lv.r) (v2 := .int .i64 lv.w) (v3 := .int .i64 lv.v) (v4 := .bool true) rfl rfl rfl (kF.cell 0) (kF.cell 1) (kF.cell 2) (kF.cell 3) rfl ⟨by rw [HLV.out]; rfl, bel4 HX.out.bel (by omega) _ _ _ _⟩
set_option maxHeartbeats 2000000 in
set_option maxRecDepth 100000 in
theorem next_no {w : World} {h : Nat} {u v : Value} {words : Int} {p : List (List Ln)} {f : St} (hp : IsProg w u p) (hv : RV w v f) (hh : h < p.length) (h3 : h < 3) (h0 : 0 ≤ f (h * 3) ∧ f (h * 3) ≤ 10) (hmr : rmore p f h = false) :
    Calls Tryd.prog 17 #[.agg #[.int .i64 words, u], v, .int .i64 h] w fun e w' =>
      e = .returned (.tuple #[lnVal Ln.zero, .bool false]) ∧ Below w.heap.size w w' := by
  have hx := rbox w words u
  obtain ⟨a, cap, rfl, hl, hj⟩ := hp
  obtain ⟨b, o, rfl, hb, x, hc, hH⟩ := hj h hh
  obtain ⟨a2, cap2, rfl, hl2, hj2⟩ := hH
  obtain ⟨g, capg, rfl, hcg, hg, hr⟩ := hv
  have hL := (hr (h * 3) (by omega)).1
  unfold maxLen at hl hl2
  simp only at hL
  clear hj
  go_enter Tryd.func17, Tryd.ntmps17
  go_upto_region 1 with fail
  generalize (w.alloc (.cells #[.int .i64 words, .slice (some ⟨b, o, none⟩) p.length cap] 24)).alloc (.cells #[.int .i64 0, .int .i64 0, .int .i64 0, .int .i64 0] 40) = wx at hx ⊢
  have c1 : wx.cell? ⟨w.heap.size, 1, none⟩ = some (.slice (some ⟨b, o, none⟩) p.length cap) := hx.box.cell 1
  have c2 : wx.cell? ⟨b, o + h, none⟩ = some (.slice a2 (lines p h).length cap2) := by rw [hx.bel.cell (p := ⟨b, o + h, none⟩) hb]; exact hc
  have c3 : wx.cell? ⟨g, h * 3, none⟩ = some (.int .i64 (f (h * 3))) := by rw [hx.bel.cell (p := ⟨g, h * 3, none⟩) hg]; exact hL
  have q0 : wx.cell? ⟨w.heap.size + 1, 0, none⟩ = some (.int .i64 0) := hx.out.cell 0
  have q1 : wx.cell? ⟨w.heap.size + 1, 1, none⟩ = some (.int .i64 0) := hx.out.cell 1
  have q2 : wx.cell? ⟨w.heap.size + 1, 2, none⟩ = some (.int .i64 0) := hx.out.cell 2
  have q3 : wx.cell? ⟨w.heap.size + 1, 3, none⟩ = some (.int .i64 0) := hx.out.cell 3
  have f0 := hx.out.free 0
  have f1 := hx.out.free 1
  have f2 := hx.out.free 2
  have f3 := hx.out.free 3
  have HX := Lib.hid hx
  have h3I : (h : Int) < 3 := by omega
  have hhI : (h : Int) < p.length := by omega
  have hx0 := hx
  clear hx hL hc hr
  simp [rmore] at hmr
  have z1 : decide (f (h * 3) ≥ ((lines p h).length : Int)) = true := by simp; omega
  clear hj2 hx0 hb hg h0 hh h3
  generalize lines p h = ls at *
  go_wp2_with fail
  have kF := out4 HX.out.out (.int .i64 0) (.int .i64 0) (.int .i64 0) (.int .i64 0)
  exact ret_next (v0 := .int .i64 0) (v1 := .int .i64 0) (v2 := .int .i64 0) (v3 := .int .i64 0) (v4 := .bool false) rfl rfl rfl (kF.cell 0) (kF.cell 1) (kF.cell 2) (kF.cell 3) rfl ⟨rfl, bel4 HX.out.bel (by omega) _ _ _ _⟩
theorem next_any {w : World} {h : Nat} {u v : Value} {words : Int} {p : List (List Ln)} {f : St} (hp : IsProg w u p) (hv : RV w v f) (hh : h < p.length) (h3 : h < 3) (h0 : 0 ≤ f (h * 3) ∧ f (h * 3) ≤ 10) :
    Calls Tryd.prog 17 #[.agg #[.int .i64 words, u], v, .int .i64 h] w fun e w' =>
      ∃ (lv : Ln) (b : Bool), e = .returned (.tuple #[.agg #[.int .i64 lv.k, .int .i64 lv.r, .int .i64 lv.w, .int .i64 lv.v], .bool b]) ∧ rmore p f h = b ∧ (b = true → lv = rline p f h) ∧ Below w.heap.size w w' := by
  cases hm : rmore p f h with
  | true => exact (next_yes hp hv hh h3 h0 hm).mono fun e w' q => ⟨_, true, q.1, rfl, fun _ => rfl, q.2⟩
  | false => exact (next_no hp hv hh h3 h0 hm).mono fun e w' q => ⟨_, false, q.1, rfl, fun x => absurd x (by simp), q.2⟩
end Go.Proofs.YtimbdjmplcgilaaDoor.Rf
