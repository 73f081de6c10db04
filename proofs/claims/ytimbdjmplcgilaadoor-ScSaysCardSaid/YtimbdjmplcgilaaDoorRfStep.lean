import Derived.Test.YtimbdjmplcgilaaDoorRfMove
import Derived.Test.YtimbdjmplcgilaaDoorTsLine
namespace Go.Proofs.YtimbdjmplcgilaaDoor.Rf
open Go.RowKit Pr
set_option linter.unusedVariables false
set_option linter.unusedSimpArgs false

theorem row_bd {words : Int} {p : List (List Ln)} (hf : Fine words p) {s : Tso.TS} (h : Tso.Reach p s) : ∀ j, j < 46 → 0 ≤ row s j ∧ row s j ≤ 1000 := by
  have ho := h.ok hf
  have hb := h.bd hf
  have hw := hf.w
  have gd : ∀ k i, ((s.l k).b.getD i (0, 0) ∈ (s.l k).b) ∨ (s.l k).b.getD i (0, 0) = (0, 0) := fun k i => by
    by_cases e : i < (s.l k).b.length
    · left; rw [List.getD_eq_getElem?_getD, List.getElem?_eq_getElem e]; exact List.getElem_mem e
    · right; rw [List.getD_eq_getElem?_getD, List.getElem?_eq_none (by omega)]; rfl
  intro j hj
  rcases rcases hj with ⟨k, hk, rfl | rfl | rfl⟩ | ⟨w, hw', rfl⟩ | ⟨k, hk, rfl⟩ | ⟨k, i, hk, hi, rfl | rfl⟩
  · rw [row_at _ hk]; have := ho.at0 k; omega
  · rw [row_r0 _ hk]; exact hb.r0 k
  · rw [row_r1 _ hk]; exact hb.r1 k
  · rw [row_word _ hw']; exact hb.m w
  · rw [row_many _ hk]; have := (ho.many k).2; omega
  · rw [row_bw _ hk hi]
    rcases gd k i with h | h
    · have := ho.wb k _ h; omega
    · rw [h]; simp
  · rw [row_bv _ hk hi]
    rcases gd k i with h | h
    · exact hb.b k _ h
    · rw [h]; simp

theorem DX.drewN {w wz : World} {G : Nat} {k r wd v : Int} {F : St} (h : DX w G k r wd v F wz) (m : Nat) : DX w G k r wd v F (wz.drewN m) :=
  ⟨Below.todrewN h.bel m, h.ge, h.ln, h.row⟩
set_option maxHeartbeats 3000000 in
set_option maxRecDepth 100000 in
theorem push_any {w : World} {h n R : Nat} {v : Value} {f : St} {wi vl : Int} (hv : RV w v f) (h3 : h < 3) (hn : n < 5) (hR : R ≤ 1) (hb : ∀ j, j < 46 → 0 ≤ f j ∧ f j ≤ 1000) (hm : f (13 + h * 11) = (n : Int)) :
    Calls Tryd.prog 18 #[v, .int .i64 h, .agg #[.int .i64 2, .int .i64 (R : Int), .int .i64 wi, .int .i64 vl], .bool true] w fun e w' => ∃ x, e = .returned x ∧ Got (upd (upd (upd (upd f (h * 3) (f (h * 3) + 1)) (13 + h * 11 + 1 + n * 2) wi) (13 + h * 11 + 2 + n * 2) (f (h * 3 + 1 + R))) (13 + h * 11) ((n : Int) + 1)) w x w' ∧ Below w.heap.size w w' := by
  have HV := Lib.hid hv
  obtain ⟨g, cap, rfl, hc, hg, hrow⟩ := hv
  have HL := Lib.hid (Blk.new w #[.int .i64 2, .int .i64 (R : Int), .int .i64 wi, .int .i64 vl] 40)
  have HB : Hid (Below w.heap.size w (w.alloc (.cells #[.int .i64 2, .int .i64 (R : Int), .int .i64 wi, .int .i64 vl] 40))) := (Below.refl _ _).alloc (Nat.le_refl _) _
  clear hrow hg hc
  have h3I : (h : Int) < 3 := by omega
  have hnI : (n : Int) < 5 := by omega
  have hRI : (R : Int) ≤ 1 := by omega
  go_enter Tryd.func18, Tryd.ntmps18
  go_wp2_with fail
  refine (copied_any (HV.out.below HB.out)).mono ?_
  rintro e w1 ⟨x, rfl, ⟨G, capG, rfl, hcG, hG1, hG2, hrow⟩, hb1⟩
  have hGw : w.heap.size < G := by
    have : w.heap.size + 1 ≤ G := by simpa using hG1
    omega
  have hD : DX w G 2 (R : Int) wi vl f w1 := ⟨HB.out.trans (hb1.mono HB.out.size), hGw, HL.out.below hb1 HL.out.lt, hrow⟩
  have HD := Lib.hid hD
  have c0 := HD.out.c (i := h * 3) (by omega)
  have f0 := HD.out.f (i := h * 3) (by omega)
  have hf0 := (hb (h * 3) (by omega)).1
  have hf1 := (hb (h * 3) (by omega)).2
  clear hrow hG1 hG2 hb1 hD HL HB HV hGw
  go_upto_region 5 with fail
  replace HD := Lib.hid (HD.out.set (i := h * 3) (by omega) (f (h * 3) + 1))
  clear c0 f0
  generalize w1.setCell ⟨G, h * 3, none⟩ (.int .i64 (f (h * 3) + 1)) = w2 at HD ⊢
  obtain ⟨F, hF⟩ : ∃ F, upd f (h * 3) (f (h * 3) + 1) = F := ⟨_, rfl⟩
  rw [hF] at HD
  have eN : F (13 + h * 11) = (n : Int) := by rw [← hF, upd_other (by omega)]; exact hm
  have eR : F (h * 3 + 1 + R) = f (h * 3 + 1 + R) := by rw [← hF, upd_other (by omega)]
  have HF := Lib.hid hF
  have HEN := Lib.hid eN
  have HER := Lib.hid eR
  have c0 := HD.out.c (i := 13 + h * 11) (by omega)
  rw [eN] at c0
  have l2 := HD.out.ln.cell 2
  simp only [List.getElem?_toArray, List.getElem?_cons_zero, List.getElem?_cons_succ] at l2
  have c1 := HD.out.c (i := 13 + h * 11 + 1 + 2 * n) (by omega)
  have f1 := HD.out.f (i := 13 + h * 11 + 1 + 2 * n) (by omega)
  clear hF eN eR hb hm hf0 hf1
  go_upto_region 7 with fail
  replace HD := Lib.hid (HD.out.set (i := 13 + h * 11 + 1 + 2 * n) (by omega) wi)
  clear c0 c1 f1 l2
  generalize w2.setCell ⟨G, 13 + h * 11 + 1 + 2 * n, none⟩ (.int .i64 wi) = w3 at HD ⊢
  have l1 := HD.out.ln.cell 1
  simp only [List.getElem?_toArray, List.getElem?_cons_zero, List.getElem?_cons_succ] at l1
  have c2 := HD.out.c (i := h * 3 + 1 + R) (by omega)
  rw [upd_other (by omega), HER.out] at c2
  have c1 := HD.out.c (i := 13 + h * 11 + 1 + 2 * n + 1) (by omega)
  have f1 := HD.out.f (i := 13 + h * 11 + 1 + 2 * n + 1) (by omega)
  go_upto_region 8 with fail
  replace HD := Lib.hid (HD.out.set (i := 13 + h * 11 + 1 + 2 * n + 1) (by omega) (f (h * 3 + 1 + R)))
  clear c1 c2 f1 l1
  generalize w3.setCell ⟨G, 13 + h * 11 + 1 + 2 * n + 1, none⟩ (.int .i64 (f (h * 3 + 1 + R))) = w4 at HD ⊢
  have c0 := HD.out.c (i := 13 + h * 11) (by omega)
  have f0 := HD.out.f (i := 13 + h * 11) (by omega)
  rw [upd_other (by omega), upd_other (by omega), HEN.out] at c0
  go_wp2_with fail
  go_ret
  have hE := HD.out.set (i := 13 + h * 11) (by omega) ((n : Int) + 1)
  rw [show 13 + h * 11 + 1 + 2 * n + 1 = 13 + h * 11 + 2 + n * 2 by omega, show 13 + h * 11 + 1 + 2 * n = 13 + h * 11 + 1 + n * 2 by omega, ← HF.out] at hE
  have hE2 := HD.out.set (i := 13 + h * 11) (by omega) ((n : Int) + 1)
  exact ⟨_, rfl, hE2.got hcG (fun j hj => by rw [show 13 + h * 11 + 1 + 2 * n + 1 = 13 + h * 11 + 2 + n * 2 by omega, show 13 + h * 11 + 1 + 2 * n = 13 + h * 11 + 1 + n * 2 by omega, ← HF.out]), hE2.bel⟩

/-- Any line but one that loads, or waits: as it is done. -/
theorem lnEq (l : Ln) : Ln.mk l.k l.r l.w l.v = l := rfl
set_option maxHeartbeats 3000000 in
set_option maxRecDepth 100000 in
theorem plain_any {w : World} {h n : Nat} {v : Value} {f : St} {l : Ln} {words : Int} {W : Bool} (hv : RV w v f) (h3 : h < 3) (hb : ∀ j, j < 46 → 0 ≤ f j ∧ f j ≤ 1000) (hg : Pr.Good words l) (hw : words ≤ 4) (hm : f (13 + h * 11) = (n : Int)) (hk : n = 0 ∨ l.k ≠ 1) (hW : W = false ∨ l.k ≠ 2) :
    Calls Tryd.prog 18 #[v, .int .i64 h, .agg #[.int .i64 l.k, .int .i64 l.r, .int .i64 l.w, .int .i64 l.v], .bool W] w fun e w' => ∃ x, e = .returned x ∧ Got (rdone f h l) w x w' ∧ Below w.heap.size w w' := by
  have HV := Lib.hid hv
  have HG := Lib.hid hg
  have HBD := Lib.hid hb
  obtain ⟨g, cap, rfl, hc, hgl, hrow⟩ := hv
  have HL := Lib.hid (Blk.new w #[.int .i64 l.k, .int .i64 l.r, .int .i64 l.w, .int .i64 l.v] 40)
  have HB : Hid (Below w.heap.size w (w.alloc (.cells #[.int .i64 l.k, .int .i64 l.r, .int .i64 l.w, .int .i64 l.v] 40))) := (Below.refl _ _).alloc (Nat.le_refl _) _
  have h3I : (h : Int) < 3 := by omega
  have hmc := (hrow (13 + h * 11) (by omega)).1
  simp only at hmc
  rw [hm] at hmc
  have HMC : Hid (∀ wq, Below w.heap.size w wq → wq.cell? ⟨g, 13 + h * 11, none⟩ = some (.int .i64 (n : Int))) := fun wq k => by rw [k.cell (p := ⟨g, 13 + h * 11, none⟩) hgl]; exact hmc
  have HWK : Hid (W = false ∨ (l.k == 2) = false) := hW.imp id (fun x => by simpa using x)
  have HKK : Hid (n = 0 ∨ (l.k == 1) = false) := hk.imp id (fun x => by simpa using x)
  clear hrow hgl hmc hm hk hW hb hg
  go_enter Tryd.func18, Tryd.ntmps18
  go_upto_region 1 with fail
  generalize w.alloc (.cells #[.int .i64 l.k, .int .i64 l.r, .int .i64 l.w, .int .i64 l.v] 40) = wx at HL HB ⊢
  have l0 := HL.out.cell 0
  have l1 := HL.out.cell 1
  have l2 := HL.out.cell 2
  have l3 := HL.out.cell 3
  simp only [List.getElem?_toArray, List.getElem?_cons_zero, List.getElem?_cons_succ] at l0 l1 l2 l3
  cases W with
  | false =>
    clear HWK
    go_wp2_with fail
    refine (done_any (HV.out.below HB.out) h3 HBD.out HG.out hw).mono ?_
    rintro e w5 ⟨x, rfl, hgot, hb5⟩
    have hbb := HB.out.trans (hb5.mono HB.out.size)
    have HR : Hid (Got (rdone f h l) w x w5 ∧ Below w.heap.size w w5) := by
      obtain ⟨G, cG, e1, e2, e3, e4, e5⟩ := hgot
      exact ⟨⟨G, cG, e1, e2, Nat.le_trans HB.out.size e3, e4, e5⟩, hbb⟩
    have c0 := HMC.out w5 hbb
    have hl5 := HL.out.below hb5 HL.out.lt
    have k0 := hl5.cell 0
    simp only [List.getElem?_toArray, List.getElem?_cons_zero] at k0
    obtain ⟨G, cG, rfl, -⟩ := HR.out.1
    clear hgot hb5 hbb hl5 l0 l1 l2 l3 HL HB HV HMC
    rcases HKK.out with rfl | zk
    · go_wp2_with fail
      go_loopg [12] 1 (fun g s12 wr => s12 = .int .i64 0 ∧ wr = w5)
      case atStart => exact ⟨rfl, rfl⟩
      case round =>
        obtain ⟨rfl, rfl⟩ := hrel
        go_wp2_with fail
        go_ret
        exact ⟨_, rfl, HR.out.1, HR.out.2⟩
    · go_wp2_with fail
      go_loopg [12] 1 (fun g s12 wr => s12 = .int .i64 0 ∧ wr = w5)
      case atStart => exact ⟨rfl, rfl⟩
      case round =>
        obtain ⟨rfl, rfl⟩ := hrel
        by_cases hn0 : n = 0
        · subst hn0
          go_wp2_with fail
          go_ret
          exact ⟨_, rfl, HR.out.1, HR.out.2⟩
        · have hnI : (0 : Int) < n := by omega
          go_wp2_with fail
          go_ret
          exact ⟨_, rfl, HR.out.1, HR.out.2⟩
  | true =>
    have z2 : (l.k == 2) = false := by
      rcases HWK.out with h | h
      · cases h
      · exact h
    clear HWK
    go_wp2_with fail
    refine (done_any (HV.out.below HB.out) h3 HBD.out HG.out hw).mono ?_
    rintro e w5 ⟨x, rfl, hgot, hb5⟩
    have hbb := HB.out.trans (hb5.mono HB.out.size)
    have HR : Hid (Got (rdone f h l) w x w5 ∧ Below w.heap.size w w5) := by
      obtain ⟨G, cG, e1, e2, e3, e4, e5⟩ := hgot
      exact ⟨⟨G, cG, e1, e2, Nat.le_trans HB.out.size e3, e4, e5⟩, hbb⟩
    have c0 := HMC.out w5 hbb
    have hl5 := HL.out.below hb5 HL.out.lt
    have k0 := hl5.cell 0
    simp only [List.getElem?_toArray, List.getElem?_cons_zero] at k0
    obtain ⟨G, cG, rfl, -⟩ := HR.out.1
    clear hgot hb5 hbb hl5 l0 l1 l2 l3 HL HB HV HMC
    rcases HKK.out with rfl | zk
    · go_wp2_with fail
      go_loopg [12] 1 (fun g s12 wr => s12 = .int .i64 0 ∧ wr = w5)
      case atStart => exact ⟨rfl, rfl⟩
      case round =>
        obtain ⟨rfl, rfl⟩ := hrel
        go_wp2_with fail
        go_ret
        exact ⟨_, rfl, HR.out.1, HR.out.2⟩
    · go_wp2_with fail
      go_loopg [12] 1 (fun g s12 wr => s12 = .int .i64 0 ∧ wr = w5)
      case atStart => exact ⟨rfl, rfl⟩
      case round =>
        obtain ⟨rfl, rfl⟩ := hrel
        by_cases hn0 : n = 0
        · subst hn0
          go_wp2_with fail
          go_ret
          exact ⟨_, rfl, HR.out.1, HR.out.2⟩
        · have hnI : (0 : Int) < n := by omega
          go_wp2_with fail
          go_ret
          exact ⟨_, rfl, HR.out.1, HR.out.2⟩
end Go.Proofs.YtimbdjmplcgilaaDoor.Rf
