import Derived.Test.YtimbdjmplcgilaaDoorRfState
import Derived.Test.YtimbdjmplcgilaaDoorRfPlain
namespace Go.Proofs.YtimbdjmplcgilaaDoor.Rf
open Go.RowKit Pr
set_option linter.unusedVariables false
set_option linter.unusedSimpArgs false

theorem rreg_of {h R : Nat} {k w v : Int} (hk : k ≠ 4) : rreg h ⟨k, (R : Int), w, v⟩ = h * 3 + 1 + R := by
  unfold rreg; simp [hk]
/-- The row amid: its block, the line's box, the rest as it was. -/
structure DX (w : World) (G : Nat) (k r wd v : Int) (F : St) (wz : World) : Prop where
  bel : Below w.heap.size w wz
  ge : w.heap.size < G
  ln : Blk wz w.heap.size #[.int .i64 k, .int .i64 r, .int .i64 wd, .int .i64 v] 40
  row : Row wz G 46 (fun j => j) F
theorem DX.set {w wz : World} {G : Nat} {k r wd v : Int} {F : St} (h : DX w G k r wd v F wz) {i : Nat} (hi : i < 46) (x : Int) : DX w G k r wd v (upd F i x) (wz.setCell ⟨G, i, none⟩ (.int .i64 x)) := by
  have := h.ge
  exact ⟨h.bel.setCell (p := ⟨G, i, none⟩) (by show _ ≤ G; omega) _, h.ge, h.ln.other (by omega) _ _, Row.set h.row hi (fun j _ e => e) x⟩
theorem DX.drew {w wz : World} {G : Nat} {k r wd v : Int} {F : St} (h : DX w G k r wd v F wz) : DX w G k r wd v F wz.drew :=
  ⟨Below.todrewN h.bel 1, h.ge, h.ln, h.row⟩
theorem DX.lt {w wz : World} {G : Nat} {k r wd v : Int} {F : St} (h : DX w G k r wd v F wz) : G < wz.heap.size := World.block_lt_of_cell? (w := wz) (a := ⟨G, 0, none⟩) (h.row 0 (by omega)).1
theorem DX.got {w wz : World} {G cap : Nat} {k r wd v : Int} {F F' : St} (h : DX w G k r wd v F wz) (hc : 46 ≤ cap) (he : ∀ j, j < 46 → F j = F' j) : Got F' w (.slice (some ⟨G, 0, none⟩) 46 cap) wz :=
  ⟨G, cap, rfl, hc, Nat.le_of_lt h.ge, h.lt, h.row.eq he⟩
theorem DX.c {w wz : World} {G : Nat} {k r wd v : Int} {F : St} (h : DX w G k r wd v F wz) {i : Nat} (hi : i < 46) : wz.cell? ⟨G, i, none⟩ = some (.int .i64 (F i)) := (h.row i hi).1
theorem DX.f {w wz : World} {G : Nat} {k r wd v : Int} {F : St} (h : DX w G k r wd v F wz) {i : Nat} (hi : i < 46) : wz.frozen? ⟨G, i, none⟩ = false := (h.row i hi).2

set_option maxHeartbeats 2000000 in
set_option maxRecDepth 100000 in
theorem done_0 {w : World} {h R : Nat} {wi vl : Int} {v : Value} {f : St} (hv : RV w v f) (h3 : h < 3) (hb : ∀ j, j < 46 → 0 ≤ f j ∧ f j ≤ 1000) (hR : R ≤ 1)  :
    Calls Tryd.prog 22 #[v, .int .i64 h, .agg #[.int .i64 0, .int .i64 (R : Int), .int .i64 wi, .int .i64 vl]] w fun e w' => ∃ x, e = .returned x ∧ Got (rdone f h ⟨0, (R : Int), wi, vl⟩) w x w' ∧ Below w.heap.size w w' := by
  have HV := Lib.hid hv
  obtain ⟨g, cap, rfl, hc, hg, hrow⟩ := hv
  have HL := Lib.hid (Blk.new w #[.int .i64 0, .int .i64 (R : Int), .int .i64 wi, .int .i64 vl] 40)
  have HB : Hid (Below w.heap.size w (w.alloc (.cells #[.int .i64 0, .int .i64 (R : Int), .int .i64 wi, .int .i64 vl] 40))) := (Below.refl _ _).alloc (Nat.le_refl _) _
  clear hrow hg hc
  have h3I : (h : Int) < 3 := by omega
  have hRI : (R : Int) ≤ 1 := by omega
  go_enter Tryd.func22, Tryd.ntmps22
  go_wp2_with fail
  refine (copied_any (HV.out.below HB.out)).mono ?_
  rintro e w1 ⟨x, rfl, ⟨G, capG, rfl, hcG, hG1, hG2, hrow⟩, hb1⟩
  have hGw : w.heap.size < G := by
    have : w.heap.size + 1 ≤ G := by simpa using hG1
    omega
  have hD : DX w G 0 (R : Int) wi vl f w1 := ⟨HB.out.trans (hb1.mono HB.out.size), hGw, HL.out.below hb1 HL.out.lt, hrow⟩
  have HD := Lib.hid hD
  have c0 := HD.out.c (i := h * 3) (by omega)
  have f0 := HD.out.f (i := h * 3) (by omega)
  have hf0 := (hb (h * 3) (by omega)).1
  have hf1 := (hb (h * 3) (by omega)).2
  clear hrow hG1 hG2 hb1 hD HL HB HV hGw
  go_upto_region 3 with fail
  replace HD := Lib.hid (HD.out.set (i := h * 3) (by omega) (f (h * 3) + 1))
  clear c0 f0
  generalize w1.setCell ⟨G, h * 3, none⟩ (.int .i64 (f (h * 3) + 1)) = w2 at HD ⊢
  obtain ⟨F, hF⟩ : ∃ F, upd f (h * 3) (f (h * 3) + 1) = F := ⟨_, rfl⟩
  rw [hF] at HD
  have HF := Lib.hid hF
  clear hF
  have l0 := HD.out.ln.cell 0
  have l1 := HD.out.ln.cell 1
  have l2 := HD.out.ln.cell 2
  have l3 := HD.out.ln.cell 3
  simp only [List.getElem?_toArray, List.getElem?_cons_zero, List.getElem?_cons_succ] at l0 l1 l2 l3
  have m0 := HD.out.c (i := h * 3 + 1 + R) (by omega)
  have n0 := HD.out.f (i := h * 3 + 1 + R) (by omega)
  clear hb
  go_wp2_with fail
  go_ret
  have hE := HD.out.set (i := h * 3 + 1 + R) (by omega) vl
  exact ⟨_, rfl, hE.got hcG (fun j hj => by unfold rdone; simp only; rw [if_pos (by trivial), rreg_of (by decide), HF.out]), hE.bel⟩

set_option maxHeartbeats 2000000 in
set_option maxRecDepth 100000 in
theorem done_1 {w : World} {h R wd : Nat} {vl : Int} {v : Value} {f : St} (hv : RV w v f) (h3 : h < 3) (hb : ∀ j, j < 46 → 0 ≤ f j ∧ f j ≤ 1000) (hR : R ≤ 1) (hw : wd < 4) :
    Calls Tryd.prog 22 #[v, .int .i64 h, .agg #[.int .i64 1, .int .i64 (R : Int), .int .i64 (wd : Int), .int .i64 vl]] w fun e w' => ∃ x, e = .returned x ∧ Got (rdone f h ⟨1, (R : Int), (wd : Int), vl⟩) w x w' ∧ Below w.heap.size w w' := by
  have HV := Lib.hid hv
  obtain ⟨g, cap, rfl, hc, hg, hrow⟩ := hv
  have HL := Lib.hid (Blk.new w #[.int .i64 1, .int .i64 (R : Int), .int .i64 (wd : Int), .int .i64 vl] 40)
  have HB : Hid (Below w.heap.size w (w.alloc (.cells #[.int .i64 1, .int .i64 (R : Int), .int .i64 (wd : Int), .int .i64 vl] 40))) := (Below.refl _ _).alloc (Nat.le_refl _) _
  clear hrow hg hc
  have h3I : (h : Int) < 3 := by omega
  have hRI : (R : Int) ≤ 1 := by omega
  have hwI : (wd : Int) < 4 := by omega
  go_enter Tryd.func22, Tryd.ntmps22
  go_wp2_with fail
  refine (copied_any (HV.out.below HB.out)).mono ?_
  rintro e w1 ⟨x, rfl, ⟨G, capG, rfl, hcG, hG1, hG2, hrow⟩, hb1⟩
  have hGw : w.heap.size < G := by
    have : w.heap.size + 1 ≤ G := by simpa using hG1
    omega
  have hD : DX w G 1 (R : Int) (wd : Int) vl f w1 := ⟨HB.out.trans (hb1.mono HB.out.size), hGw, HL.out.below hb1 HL.out.lt, hrow⟩
  have HD := Lib.hid hD
  have c0 := HD.out.c (i := h * 3) (by omega)
  have f0 := HD.out.f (i := h * 3) (by omega)
  have hf0 := (hb (h * 3) (by omega)).1
  have hf1 := (hb (h * 3) (by omega)).2
  clear hrow hG1 hG2 hb1 hD HL HB HV hGw
  go_upto_region 3 with fail
  replace HD := Lib.hid (HD.out.set (i := h * 3) (by omega) (f (h * 3) + 1))
  clear c0 f0
  generalize w1.setCell ⟨G, h * 3, none⟩ (.int .i64 (f (h * 3) + 1)) = w2 at HD ⊢
  obtain ⟨F, hF⟩ : ∃ F, upd f (h * 3) (f (h * 3) + 1) = F := ⟨_, rfl⟩
  rw [hF] at HD
  have HF := Lib.hid hF
  clear hF
  have l0 := HD.out.ln.cell 0
  have l1 := HD.out.ln.cell 1
  have l2 := HD.out.ln.cell 2
  have l3 := HD.out.ln.cell 3
  simp only [List.getElem?_toArray, List.getElem?_cons_zero, List.getElem?_cons_succ] at l0 l1 l2 l3
  have m0 := HD.out.c (i := h * 3 + 1 + R) (by omega)
  have n0 := HD.out.f (i := h * 3 + 1 + R) (by omega)
  have m1 := HD.out.c (i := 9 + wd) (by omega)
  have n1 := HD.out.f (i := 9 + wd) (by omega)
  clear hb
  have e3 : F (9 + wd) = f (9 + wd) := by rw [← HF.out]; exact upd_other (by omega)
  have HE3 := Lib.hid e3
  clear e3
  go_wp2_with fail
  go_ret
  have hE := HD.out.set (i := h * 3 + 1 + R) (by omega) (F (9 + wd))
  exact ⟨_, rfl, hE.got hcG (fun j hj => by unfold rdone; simp only; rw [if_neg (by decide), if_pos (by trivial), rreg_of (by decide), HF.out, Int.toNat_natCast, HE3.out]), hE.bel⟩

set_option maxHeartbeats 2000000 in
set_option maxRecDepth 100000 in
theorem done_2 {w : World} {h R wd : Nat} {vl : Int} {v : Value} {f : St} (hv : RV w v f) (h3 : h < 3) (hb : ∀ j, j < 46 → 0 ≤ f j ∧ f j ≤ 1000) (hR : R ≤ 1) (hw : wd < 4) :
    Calls Tryd.prog 22 #[v, .int .i64 h, .agg #[.int .i64 2, .int .i64 (R : Int), .int .i64 (wd : Int), .int .i64 vl]] w fun e w' => ∃ x, e = .returned x ∧ Got (rdone f h ⟨2, (R : Int), (wd : Int), vl⟩) w x w' ∧ Below w.heap.size w w' := by
  have HV := Lib.hid hv
  obtain ⟨g, cap, rfl, hc, hg, hrow⟩ := hv
  have HL := Lib.hid (Blk.new w #[.int .i64 2, .int .i64 (R : Int), .int .i64 (wd : Int), .int .i64 vl] 40)
  have HB : Hid (Below w.heap.size w (w.alloc (.cells #[.int .i64 2, .int .i64 (R : Int), .int .i64 (wd : Int), .int .i64 vl] 40))) := (Below.refl _ _).alloc (Nat.le_refl _) _
  clear hrow hg hc
  have h3I : (h : Int) < 3 := by omega
  have hRI : (R : Int) ≤ 1 := by omega
  have hwI : (wd : Int) < 4 := by omega
  go_enter Tryd.func22, Tryd.ntmps22
  go_wp2_with fail
  refine (copied_any (HV.out.below HB.out)).mono ?_
  rintro e w1 ⟨x, rfl, ⟨G, capG, rfl, hcG, hG1, hG2, hrow⟩, hb1⟩
  have hGw : w.heap.size < G := by
    have : w.heap.size + 1 ≤ G := by simpa using hG1
    omega
  have hD : DX w G 2 (R : Int) (wd : Int) vl f w1 := ⟨HB.out.trans (hb1.mono HB.out.size), hGw, HL.out.below hb1 HL.out.lt, hrow⟩
  have HD := Lib.hid hD
  have c0 := HD.out.c (i := h * 3) (by omega)
  have f0 := HD.out.f (i := h * 3) (by omega)
  have hf0 := (hb (h * 3) (by omega)).1
  have hf1 := (hb (h * 3) (by omega)).2
  clear hrow hG1 hG2 hb1 hD HL HB HV hGw
  go_upto_region 3 with fail
  replace HD := Lib.hid (HD.out.set (i := h * 3) (by omega) (f (h * 3) + 1))
  clear c0 f0
  generalize w1.setCell ⟨G, h * 3, none⟩ (.int .i64 (f (h * 3) + 1)) = w2 at HD ⊢
  obtain ⟨F, hF⟩ : ∃ F, upd f (h * 3) (f (h * 3) + 1) = F := ⟨_, rfl⟩
  rw [hF] at HD
  have HF := Lib.hid hF
  clear hF
  have l0 := HD.out.ln.cell 0
  have l1 := HD.out.ln.cell 1
  have l2 := HD.out.ln.cell 2
  have l3 := HD.out.ln.cell 3
  simp only [List.getElem?_toArray, List.getElem?_cons_zero, List.getElem?_cons_succ] at l0 l1 l2 l3
  have m0 := HD.out.c (i := h * 3 + 1 + R) (by omega)
  have n0 := HD.out.f (i := h * 3 + 1 + R) (by omega)
  have m1 := HD.out.c (i := 9 + wd) (by omega)
  have n1 := HD.out.f (i := 9 + wd) (by omega)
  clear hb
  have e2 : F (h * 3 + 1 + R) = f (h * 3 + 1 + R) := by rw [← HF.out]; exact upd_other (by omega)
  have HE2 := Lib.hid e2
  clear e2
  go_wp2_with fail
  go_ret
  have hE := HD.out.set (i := 9 + wd) (by omega) (F (h * 3 + 1 + R))
  exact ⟨_, rfl, hE.got hcG (fun j hj => by unfold rdone; simp only; rw [if_neg (by decide), if_neg (by decide), if_pos (by trivial), rreg_of (by decide), HF.out, Int.toNat_natCast, HE2.out]), hE.bel⟩

set_option maxHeartbeats 2000000 in
set_option maxRecDepth 100000 in
theorem done_3 {w : World} {h R wd : Nat} {vl : Int} {v : Value} {f : St} (hv : RV w v f) (h3 : h < 3) (hb : ∀ j, j < 46 → 0 ≤ f j ∧ f j ≤ 1000) (hR : R ≤ 1) (hw : wd < 4) :
    Calls Tryd.prog 22 #[v, .int .i64 h, .agg #[.int .i64 3, .int .i64 (R : Int), .int .i64 (wd : Int), .int .i64 vl]] w fun e w' => ∃ x, e = .returned x ∧ Got (rdone f h ⟨3, (R : Int), (wd : Int), vl⟩) w x w' ∧ Below w.heap.size w w' := by
  have HV := Lib.hid hv
  obtain ⟨g, cap, rfl, hc, hg, hrow⟩ := hv
  have HL := Lib.hid (Blk.new w #[.int .i64 3, .int .i64 (R : Int), .int .i64 (wd : Int), .int .i64 vl] 40)
  have HB : Hid (Below w.heap.size w (w.alloc (.cells #[.int .i64 3, .int .i64 (R : Int), .int .i64 (wd : Int), .int .i64 vl] 40))) := (Below.refl _ _).alloc (Nat.le_refl _) _
  clear hrow hg hc
  have h3I : (h : Int) < 3 := by omega
  have hRI : (R : Int) ≤ 1 := by omega
  have hwI : (wd : Int) < 4 := by omega
  go_enter Tryd.func22, Tryd.ntmps22
  go_wp2_with fail
  refine (copied_any (HV.out.below HB.out)).mono ?_
  rintro e w1 ⟨x, rfl, ⟨G, capG, rfl, hcG, hG1, hG2, hrow⟩, hb1⟩
  have hGw : w.heap.size < G := by
    have : w.heap.size + 1 ≤ G := by simpa using hG1
    omega
  have hD : DX w G 3 (R : Int) (wd : Int) vl f w1 := ⟨HB.out.trans (hb1.mono HB.out.size), hGw, HL.out.below hb1 HL.out.lt, hrow⟩
  have HD := Lib.hid hD
  have c0 := HD.out.c (i := h * 3) (by omega)
  have f0 := HD.out.f (i := h * 3) (by omega)
  have hf0 := (hb (h * 3) (by omega)).1
  have hf1 := (hb (h * 3) (by omega)).2
  clear hrow hG1 hG2 hb1 hD HL HB HV hGw
  go_upto_region 3 with fail
  replace HD := Lib.hid (HD.out.set (i := h * 3) (by omega) (f (h * 3) + 1))
  clear c0 f0
  generalize w1.setCell ⟨G, h * 3, none⟩ (.int .i64 (f (h * 3) + 1)) = w2 at HD ⊢
  obtain ⟨F, hF⟩ : ∃ F, upd f (h * 3) (f (h * 3) + 1) = F := ⟨_, rfl⟩
  rw [hF] at HD
  have HF := Lib.hid hF
  clear hF
  have l0 := HD.out.ln.cell 0
  have l1 := HD.out.ln.cell 1
  have l2 := HD.out.ln.cell 2
  have l3 := HD.out.ln.cell 3
  simp only [List.getElem?_toArray, List.getElem?_cons_zero, List.getElem?_cons_succ] at l0 l1 l2 l3
  have m0 := HD.out.c (i := h * 3 + 1 + R) (by omega)
  have n0 := HD.out.f (i := h * 3 + 1 + R) (by omega)
  have m1 := HD.out.c (i := 9 + wd) (by omega)
  have n1 := HD.out.f (i := 9 + wd) (by omega)
  clear hb
  have e2 : F (h * 3 + 1 + R) = f (h * 3 + 1 + R) := by rw [← HF.out]; exact upd_other (by omega)
  have e3 : F (9 + wd) = f (9 + wd) := by rw [← HF.out]; exact upd_other (by omega)
  have HE2 := Lib.hid e2
  have HE3 := Lib.hid e3
  clear e2 e3
  go_upto_region 16 with fail
  have HD2 := Lib.hid (HD.out.set (i := h * 3 + 1 + R) (by omega) (F (9 + wd)))
  clear l0 l1 l2 l3 m0 n0 m1 n1
  generalize w2.setCell ⟨G, h * 3 + 1 + R, none⟩ (.int .i64 (F (9 + wd))) = w3 at HD2 ⊢
  have l2 := HD2.out.ln.cell 2
  simp only [List.getElem?_toArray, List.getElem?_cons_zero, List.getElem?_cons_succ] at l2
  have m1 := HD2.out.c (i := 9 + wd) (by omega)
  have n1 := HD2.out.f (i := 9 + wd) (by omega)
  go_wp2_with fail
  go_ret
  have hE := HD2.out.set (i := 9 + wd) (by omega) (F (h * 3 + 1 + R))
  exact ⟨_, rfl, hE.got hcG (fun j hj => by unfold rdone; simp only; rw [if_neg (by decide), if_neg (by decide), if_neg (by decide), if_pos (by trivial), rreg_of (by decide), HF.out, Int.toNat_natCast, HE2.out, HE3.out]), hE.bel⟩

set_option maxHeartbeats 2000000 in
set_option maxRecDepth 100000 in
theorem done_4 {w : World} {h : Nat} {r wi vl : Int} {v : Value} {f : St} (hv : RV w v f) (h3 : h < 3) (hb : ∀ j, j < 46 → 0 ≤ f j ∧ f j ≤ 1000)  :
    Calls Tryd.prog 22 #[v, .int .i64 h, .agg #[.int .i64 4, .int .i64 r, .int .i64 wi, .int .i64 vl]] w fun e w' => ∃ x, e = .returned x ∧ Got (rdone f h ⟨4, r, wi, vl⟩) w x w' ∧ Below w.heap.size w w' := by
  have HV := Lib.hid hv
  obtain ⟨g, cap, rfl, hc, hg, hrow⟩ := hv
  have HL := Lib.hid (Blk.new w #[.int .i64 4, .int .i64 r, .int .i64 wi, .int .i64 vl] 40)
  have HB : Hid (Below w.heap.size w (w.alloc (.cells #[.int .i64 4, .int .i64 r, .int .i64 wi, .int .i64 vl] 40))) := (Below.refl _ _).alloc (Nat.le_refl _) _
  clear hrow hg hc
  have h3I : (h : Int) < 3 := by omega
  go_enter Tryd.func22, Tryd.ntmps22
  go_wp2_with fail
  refine (copied_any (HV.out.below HB.out)).mono ?_
  rintro e w1 ⟨x, rfl, ⟨G, capG, rfl, hcG, hG1, hG2, hrow⟩, hb1⟩
  have hGw : w.heap.size < G := by
    have : w.heap.size + 1 ≤ G := by simpa using hG1
    omega
  have hD : DX w G 4 r wi vl f w1 := ⟨HB.out.trans (hb1.mono HB.out.size), hGw, HL.out.below hb1 HL.out.lt, hrow⟩
  have HD := Lib.hid hD
  have c0 := HD.out.c (i := h * 3) (by omega)
  have f0 := HD.out.f (i := h * 3) (by omega)
  have hf0 := (hb (h * 3) (by omega)).1
  have hf1 := (hb (h * 3) (by omega)).2
  clear hrow hG1 hG2 hb1 hD HL HB HV hGw
  go_upto_region 3 with fail
  replace HD := Lib.hid (HD.out.set (i := h * 3) (by omega) (f (h * 3) + 1))
  clear c0 f0
  generalize w1.setCell ⟨G, h * 3, none⟩ (.int .i64 (f (h * 3) + 1)) = w2 at HD ⊢
  obtain ⟨F, hF⟩ : ∃ F, upd f (h * 3) (f (h * 3) + 1) = F := ⟨_, rfl⟩
  rw [hF] at HD
  have HF := Lib.hid hF
  clear hF
  have l0 := HD.out.ln.cell 0
  have l1 := HD.out.ln.cell 1
  have l2 := HD.out.ln.cell 2
  have l3 := HD.out.ln.cell 3
  simp only [List.getElem?_toArray, List.getElem?_cons_zero, List.getElem?_cons_succ] at l0 l1 l2 l3
  have m0 := HD.out.c (i := h * 3 + 1) (by omega)
  clear hb
  go_wp2_with fail
  go_ret
  have hE := HD.out
  exact ⟨_, rfl, hE.got hcG (fun j hj => by unfold rdone; simp only; rw [if_neg (by decide), if_neg (by decide), if_neg (by decide), if_neg (by decide), if_neg (by decide), HF.out]), hE.bel⟩

set_option maxHeartbeats 2000000 in
set_option maxRecDepth 100000 in
theorem done_5 {w : World} {h R : Nat} {wi vl : Int} {v : Value} {f : St} (hv : RV w v f) (h3 : h < 3) (hb : ∀ j, j < 46 → 0 ≤ f j ∧ f j ≤ 1000) (hR : R ≤ 1)  (hvl : 0 ≤ vl ∧ vl ≤ 5) :
    Calls Tryd.prog 22 #[v, .int .i64 h, .agg #[.int .i64 5, .int .i64 (R : Int), .int .i64 wi, .int .i64 vl]] w fun e w' => ∃ x, e = .returned x ∧ Got (rdone f h ⟨5, (R : Int), wi, vl⟩) w x w' ∧ Below w.heap.size w w' := by
  have HV := Lib.hid hv
  obtain ⟨g, cap, rfl, hc, hg, hrow⟩ := hv
  have HL := Lib.hid (Blk.new w #[.int .i64 5, .int .i64 (R : Int), .int .i64 wi, .int .i64 vl] 40)
  have HB : Hid (Below w.heap.size w (w.alloc (.cells #[.int .i64 5, .int .i64 (R : Int), .int .i64 wi, .int .i64 vl] 40))) := (Below.refl _ _).alloc (Nat.le_refl _) _
  clear hrow hg hc
  have h3I : (h : Int) < 3 := by omega
  have hRI : (R : Int) ≤ 1 := by omega
  go_enter Tryd.func22, Tryd.ntmps22
  go_wp2_with fail
  refine (copied_any (HV.out.below HB.out)).mono ?_
  rintro e w1 ⟨x, rfl, ⟨G, capG, rfl, hcG, hG1, hG2, hrow⟩, hb1⟩
  have hGw : w.heap.size < G := by
    have : w.heap.size + 1 ≤ G := by simpa using hG1
    omega
  have hD : DX w G 5 (R : Int) wi vl f w1 := ⟨HB.out.trans (hb1.mono HB.out.size), hGw, HL.out.below hb1 HL.out.lt, hrow⟩
  have HD := Lib.hid hD
  have c0 := HD.out.c (i := h * 3) (by omega)
  have f0 := HD.out.f (i := h * 3) (by omega)
  have hf0 := (hb (h * 3) (by omega)).1
  have hf1 := (hb (h * 3) (by omega)).2
  clear hrow hG1 hG2 hb1 hD HL HB HV hGw
  go_upto_region 3 with fail
  replace HD := Lib.hid (HD.out.set (i := h * 3) (by omega) (f (h * 3) + 1))
  clear c0 f0
  generalize w1.setCell ⟨G, h * 3, none⟩ (.int .i64 (f (h * 3) + 1)) = w2 at HD ⊢
  obtain ⟨F, hF⟩ : ∃ F, upd f (h * 3) (f (h * 3) + 1) = F := ⟨_, rfl⟩
  rw [hF] at HD
  have HF := Lib.hid hF
  clear hF
  have l0 := HD.out.ln.cell 0
  have l1 := HD.out.ln.cell 1
  have l2 := HD.out.ln.cell 2
  have l3 := HD.out.ln.cell 3
  simp only [List.getElem?_toArray, List.getElem?_cons_zero, List.getElem?_cons_succ] at l0 l1 l2 l3
  have m0 := HD.out.c (i := h * 3 + 1 + R) (by omega)
  have n0 := HD.out.f (i := h * 3 + 1 + R) (by omega)
  have a0 := HD.out.c (i := h * 3) (by omega)
  have a1 := HD.out.f (i := h * 3) (by omega)
  have e1 : F (h * 3) = f (h * 3) + 1 := by rw [← HF.out, upd_same]
  rw [e1] at a0
  clear hb
  have e2 : F (h * 3 + 1 + R) = f (h * 3 + 1 + R) := by rw [← HF.out]; exact upd_other (by omega)
  have HE2 := Lib.hid e2
  have HE1 := Lib.hid e1
  clear e1 e2
  have hv0 := hvl.1
  have hv5 := hvl.2
  obtain ⟨y, hy⟩ : ∃ y, F (h * 3 + 1 + R) = y := ⟨_, rfl⟩
  rw [hy] at m0
  have HY := Lib.hid hy
  clear hy hvl
  by_cases hz : y = 0
  · have HZ := Lib.hid hz
    rw [hz] at m0
    clear hz
    go_wp2_with fail
    go_region
    go_wp2_with fail
    go_ret
    have hE := (HD.out.set (i := h * 3) (by omega) (f (h * 3) + 1 + vl)).drew
    exact ⟨_, rfl, hE.got hcG (fun j hj => by unfold rdone; simp only; rw [if_neg (by decide), if_neg (by decide), if_neg (by decide), if_neg (by decide), if_pos (by trivial), rreg_of (by decide), ← HE2.out, HY.out, if_pos HZ.out, HF.out]), hE.bel⟩
  · have HZ := Lib.hid hz
    have z : (y == 0) = false := by simpa using hz
    clear hz
    go_wp2_with fail
    go_ret
    have hE := HD.out
    exact ⟨_, rfl, hE.got hcG (fun j hj => by unfold rdone; simp only; rw [if_neg (by decide), if_neg (by decide), if_neg (by decide), if_neg (by decide), if_pos (by trivial), rreg_of (by decide), ← HE2.out, HY.out, if_neg HZ.out, HF.out]), hE.bel⟩

/-- A line done: a state in new memory. -/
theorem done_any {w : World} {h : Nat} {v : Value} {f : St} {l : Ln} {words : Int} (hv : RV w v f) (h3 : h < 3) (hb : ∀ j, j < 46 → 0 ≤ f j ∧ f j ≤ 1000) (hg : Pr.Good words l) (hw : words ≤ 4) :
    Calls Tryd.prog 22 #[v, .int .i64 h, .agg #[.int .i64 l.k, .int .i64 l.r, .int .i64 l.w, .int .i64 l.v]] w fun e w' => ∃ x, e = .returned x ∧ Got (rdone f h l) w x w' ∧ Below w.heap.size w w' := by
  obtain ⟨k, r, wi, vl⟩ := l
  obtain ⟨g1, g2, g3, g4, g5⟩ := hg
  simp only at g1 g2 g3 g4 g5
  simp only
  by_cases k4 : k = 4
  · subst k4; exact done_4 hv h3 hb
  · obtain ⟨R, rfl⟩ := Int.eq_ofNat_of_zero_le (g2 k4).1
    have hR : R ≤ 1 := by have := (g2 k4).2; omega
    by_cases k0 : k = 0
    · subst k0; exact done_0 hv h3 hb hR
    · by_cases k5 : k = 5
      · subst k5; exact done_5 hv h3 hb hR (g5 rfl)
      · have hwd := g3 (by omega) (by omega)
        obtain ⟨W, rfl⟩ := Int.eq_ofNat_of_zero_le hwd.1
        obtain rfl | rfl | rfl : k = 1 ∨ k = 2 ∨ k = 3 := by omega
        · exact done_1 hv h3 hb hR (by omega)
        · exact done_2 hv h3 hb hR (by omega)
        · exact done_3 hv h3 hb hR (by omega)
end Go.Proofs.YtimbdjmplcgilaaDoor.Rf
