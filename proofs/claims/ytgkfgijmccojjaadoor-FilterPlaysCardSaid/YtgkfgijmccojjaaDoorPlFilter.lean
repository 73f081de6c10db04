import Derived.Test.YtgkfgijmccojjaaDoorPx
import Derived.Test.YtgkfgijmccojjaaDoorFilterNew
import Derived.Test.YtgkfgijmccojjaaDoorMFilter
namespace Go.Proofs.YtgkfgijmccojjaaDoor.Filter
open Go.RowKit
set_option linter.unusedVariables false
set_option linter.unusedSimpArgs false

def mc (s : St) (ow : Nat → Nat → Int) : MS := ⟨s.wd, s.ln, ow⟩
/-- What the machine's own numbers tell of the lock's. -/
def Own (n : Nat) (s : St) (ow : Nat → Nat → Int) : Prop := ∀ q, q < n → ow q 0 = s.dr q ∧ ow q 1 = s.kk q
theorem own_first (n : Nat) : Own n (first n) (filter1 n n).ow := fun q hq => ⟨by simp [filter1, first, hq], by simp [filter1, first]⟩
set_option maxHeartbeats 4000000 in
theorem m_any {w : World} {A : Nat → Prop} {n t p : Nat} {v : Value} {s : St} {ow : Nat → Nat → Int} (ho : Own n s ow) (hr : Reach n t s) (ht : t ≤ 400) (hp : p < n) (h : MRep w A n (2 * n) 2 v (mc s ow)) (hA : ∀ k, w.heap.size ≤ k → A k) :
    Calls Tryd.prog 53 #[v, .int .i64 p] w fun e w' => ∃ ow', Own n (stepN n s p) ow' ∧ Next A n (2 * n) 2 (mc (stepN n s p) ow') w e w' := by
  have hln := hr.fine hp
  have hn := hr.2.1
  have hop := ho p hp
  have h1 := hr.1
  have hd := hr.2.2.dr p hp
  have hkb := hr.2.2.kk p hp
  obtain ⟨jd, hjd⟩ : ∃ jd : Nat, s.dr p = jd := ⟨(s.dr p).toNat, by omega⟩
  obtain ⟨km, hkm⟩ : ∃ km : Nat, s.kk p = km := ⟨(s.kk p).toNat, by omega⟩
  have hod : ow p 0 = jd := hop.1.trans hjd
  have hok : ow p 1 = km := hop.2.trans hkm
  obtain hl | hl | hl | hl | hl | hl : s.ln p = 1 ∨ s.ln p = 2 ∨ s.ln p = 3 ∨ s.ln p = 4 ∨ s.ln p = 5 ∨ s.ln p = 6 := by omega
  · refine (MFilter.l1 h hA hp hn hl (j := jd) (k := km) (hop.1.trans hjd) (hop.2.trans hkm) (by omega) (by omega) (by omega)).mono ?_
    rintro e w' hN
    refine ⟨ow, ?_, hN.eq ?_ ?_ ?_⟩
    · intro q hq; have ho2 := ho q hq; by_cases e : q = p <;> simp_all [Own, stepN, hl, to1, word1, own1, goes1, mc, hjd, hkm, updR, upd]
    · intro i _; simp [stepN, hl, to1, word1, own1, goes1, mc, hjd, hkm]
    · intro i _
      by_cases e : i = p
      · subst e; simp [stepN, hl, to1, word1, own1, goes1, mc, hjd, hkm, upd]
      · simp [stepN, hl, to1, word1, own1, goes1, mc, hjd, hkm, upd, e]
    · intro q _ i _; simp [stepN, hl, to1, word1, own1, goes1, mc, hjd, hkm]
  · have hv : vx n (jd : Int) = n + jd - 1 := by unfold vx; omega
    refine (MFilter.l2 h hA hp hn hl (j := jd) (k := km) (hop.1.trans hjd) (hop.2.trans hkm) (by omega) (by omega) (by omega) (by omega)).mono ?_
    rintro e w' hN
    refine ⟨ow, ?_, hN.eq ?_ ?_ ?_⟩
    · intro q hq; have ho2 := ho q hq; by_cases e : q = p <;> simp_all [Own, stepN, hl, to1, word1, own1, goes1, mc, hjd, hv, updR, upd]
    · intro i _; simp [stepN, hl, to1, word1, own1, goes1, mc, hjd, hv]
    · intro i _
      by_cases e : i = p
      · subst e; simp [stepN, hl, to1, word1, own1, goes1, mc, hjd, hv, upd]
      · simp [stepN, hl, to1, word1, own1, goes1, mc, hjd, hv, upd, e]
    · intro q _ i _; simp [stepN, hl, to1, word1, own1, goes1, mc, hjd, hv]
  · have hv : vx n (jd : Int) = n + jd - 1 := by unfold vx; omega
    by_cases h0 : s.wd (n + jd - 1) = (p : Int) + 1
    · refine (MFilter.l31 h hA hp hn hl (j := jd) (k := km) (hop.1.trans hjd) (hop.2.trans hkm) (by omega) (by omega) (by omega) (by omega) h0).mono ?_
      rintro e w' hN
      refine ⟨ow, ?_, hN.eq ?_ ?_ ?_⟩
      · intro q hq; have ho2 := ho q hq; by_cases e : q = p <;> simp_all [Own, stepN, hl, to1, word1, own1, goes1, mc, hjd, hv, h0, updR, upd]
      · intro i _; simp [stepN, hl, to1, word1, own1, goes1, mc, hjd, hv, h0]
      · intro i _
        by_cases e : i = p
        · subst e; simp [stepN, hl, to1, word1, own1, goes1, mc, hjd, hv, h0, upd]
        · simp [stepN, hl, to1, word1, own1, goes1, mc, hjd, hv, h0, upd, e]
      · intro q _ i _; simp [stepN, hl, to1, word1, own1, goes1, mc, hjd, hv, h0]
    · refine (MFilter.l30 h hA hp hn hl (j := jd) (k := km) (hop.1.trans hjd) (hop.2.trans hkm) (by omega) (by omega) (by omega) (by omega) h0).mono ?_
      rintro e w' hN
      refine ⟨updR (updR ow p 0 (ow p 0 + 1)) p 1 0, ?_, hN.eq ?_ ?_ ?_⟩
      · intro q hq; have ho2 := ho q hq; by_cases e : q = p <;> simp_all [Own, stepN, hl, to1, word1, own1, goes1, mc, hjd, hv, h0, passes1, pass, hod, updR, upd]
      · intro i _; simp [stepN, hl, to1, word1, own1, goes1, mc, hjd, hv, h0, passes1, pass, hod]
      · intro i _
        by_cases e : i = p
        · subst e; simp [stepN, hl, to1, word1, own1, goes1, mc, hjd, hv, h0, passes1, pass, hod, upd]
        · simp [stepN, hl, to1, word1, own1, goes1, mc, hjd, hv, h0, passes1, pass, hod, upd, e]
      · intro q _ i _; simp [stepN, hl, to1, word1, own1, goes1, mc, hjd, hv, h0, passes1, pass, hod]
  · by_cases h0 : km ≠ p ∧ (jd : Int) ≤ s.wd km
    · have c1 : (km : Int) ≠ (p : Int) := by omega
      have c2 := h0.2
      refine (MFilter.l41 h hA hp hn hl (j := jd) (k := km) (hop.1.trans hjd) (hop.2.trans hkm) (by omega) (by omega) (by omega) h0).mono ?_
      rintro e w' hN
      refine ⟨updR ow p 1 0, ?_, hN.eq ?_ ?_ ?_⟩
      · intro q hq; have ho2 := ho q hq; by_cases e : q = p <;> simp_all [Own, stepN, hl, to1, word1, own1, goes1, mc, hjd, hkm, c1, c2, updR, upd]
      · intro i _; simp [stepN, hl, to1, word1, own1, goes1, mc, hjd, hkm, c1, c2]
      · intro i _
        by_cases e : i = p
        · subst e; simp [stepN, hl, to1, word1, own1, goes1, mc, hjd, hkm, c1, c2, upd]
        · simp [stepN, hl, to1, word1, own1, goes1, mc, hjd, hkm, c1, c2, upd, e]
      · intro q _ i _; simp [stepN, hl, to1, word1, own1, goes1, mc, hjd, hkm, c1, c2]
    · have c0 : ¬ (¬ (km : Int) = (p : Int) ∧ (jd : Int) ≤ s.wd km) := fun x => h0 ⟨by omega, x.2⟩
      by_cases h2 : km + 1 = n
      · have c2 : (km : Int) + 1 = n := by omega
        have hs : stepN n s p = pass n s p := by simp [stepN, hl, hkm, hjd, c0, c2]
        refine (MFilter.l42 h hA hp hn hl (j := jd) (k := km) (hop.1.trans hjd) (hop.2.trans hkm) (by omega) (by omega) (by omega) h0 h2).mono ?_
        rintro e w' hN
        refine ⟨updR (updR ow p 0 (ow p 0 + 1)) p 1 0, ?_, hN.eq ?_ ?_ ?_⟩
        · intro q hq; have ho2 := ho q hq; rw [hs]; clear hs c0 h0; by_cases e : q = p <;> simp_all [pass, updR, upd]
        · intro i _; simp [stepN, hl, to1, word1, own1, goes1, mc, hjd, hkm, c0, c2, passes1, pass, hod]
        · intro i _
          by_cases e : i = p
          · subst e; simp [stepN, hl, to1, word1, own1, goes1, mc, hjd, hkm, c0, c2, passes1, pass, hod, upd]
          · simp [stepN, hl, to1, word1, own1, goes1, mc, hjd, hkm, c0, c2, passes1, pass, hod, upd, e]
        · intro q _ i _; simp [stepN, hl, to1, word1, own1, goes1, mc, hjd, hkm, c0, c2, passes1, pass, hod]
      · have c2 : ¬ (km : Int) + 1 = n := by omega
        have hs : stepN n s p = { s with kk := upd s.kk p ((km : Int) + 1) } := by simp [stepN, hl, hkm, hjd, c0, c2]
        refine (MFilter.l43 h hA hp hn hl (j := jd) (k := km) (hop.1.trans hjd) (hop.2.trans hkm) (by omega) (by omega) (by omega) h0 h2).mono ?_
        rintro e w' hN
        refine ⟨updR ow p 1 ((km : Int) + 1), ?_, hN.eq ?_ ?_ ?_⟩
        · intro q hq; have ho2 := ho q hq; rw [hs]; clear hs c0 h0; by_cases e : q = p <;> simp_all [updR, upd]
        · intro i _; simp [stepN, hl, to1, word1, own1, goes1, mc, hjd, hkm, c0, c2]
        · intro i _
          by_cases e : i = p
          · subst e; simp [stepN, hl, to1, word1, own1, goes1, mc, hjd, hkm, c0, c2, upd]
          · simp [stepN, hl, to1, word1, own1, goes1, mc, hjd, hkm, c0, c2, upd, e]
        · intro q _ i _; simp [stepN, hl, to1, word1, own1, goes1, mc, hjd, hkm, c0, c2]
  · refine (MFilter.l5 h hA hp hn hl (j := jd) (k := km) (hop.1.trans hjd) (hop.2.trans hkm) (by omega) (by omega) (by omega)).mono ?_
    rintro e w' hN
    refine ⟨ow, ?_, hN.eq ?_ ?_ ?_⟩
    · intro q hq; have ho2 := ho q hq; by_cases e : q = p <;> simp_all [Own, stepN, hl, to1, word1, own1, goes1, mc, updR, upd]
    · intro i _; simp [stepN, hl, to1, word1, own1, goes1, mc]
    · intro i _
      by_cases e : i = p
      · subst e; simp [stepN, hl, to1, word1, own1, goes1, mc, upd]
      · simp [stepN, hl, to1, word1, own1, goes1, mc, upd, e]
    · intro q _ i _; simp [stepN, hl, to1, word1, own1, goes1, mc]
  · refine (MFilter.l6 h hA hp hn hl (j := jd) (k := km) (hop.1.trans hjd) (hop.2.trans hkm) (by omega) (by omega) (by omega)).mono ?_
    rintro e w' hN
    refine ⟨updR (updR ow p 0 1) p 1 0, ?_, hN.eq ?_ ?_ ?_⟩
    · intro q hq; have ho2 := ho q hq; by_cases e : q = p <;> simp_all [Own, stepN, hl, to1, word1, own1, goes1, mc, updR, upd]
    · intro i _; simp [stepN, hl, to1, word1, own1, goes1, mc]
    · intro i _
      by_cases e : i = p
      · subst e; simp [stepN, hl, to1, word1, own1, goes1, mc, upd]
      · simp [stepN, hl, to1, word1, own1, goes1, mc, upd, e]
    · intro q _ i _; simp [stepN, hl, to1, word1, own1, goes1, mc]
theorem line_mc {n : Nat} (s : St) (ow : Nat → Nat → Int) {j : Nat} (hj : j < n) : line n s (j : Int) = (mc s ow).at_ j := line_nat s hj
theorem at_q {w : World} {n L : Nat} {fb : List Nat} {s : St} {p k : Int} {m m' : Nat} (hb : Rep w n L fb s) (hn : n ≤ 4) (hk : line n s p = k) :
    Calls Tryd.prog 56 #[.pointer (some ⟨L, 0, none⟩), .int .i64 p] (w.drewN (m + m')) fun e w'' => e = .returned (.int .i64 k) ∧ ∃ j, w'' = w.drewN (m + j) :=
  (at_of (w := w.drewN (m + m')) (hn := hn) (hb.keep (w' := w.drewN (m + m')) (fun x hx => rfl)) hk).mono fun _ _ h => ⟨h.1, m', h.2.symm⟩

set_option maxRecDepth 100000 in
theorem words_at {w : World} {n L : Nat} {fb : List Nat} {s : St} {ow : Nat → Nat → Int} (h : Rep w n L fb s) (h1 : 1 ≤ n) (h4 : n ≤ 4) :
    Calls Tryd.prog 55 #[.pointer (some ⟨L, 0, none⟩)] w (Cloned (2 * n) (mc s ow).wd w) := by
  obtain ⟨bW, bH, cap, rfl, hcap, hLW, hLH, hWH, hB, rW, -⟩ := h
  have c1 := hB.cell 1
  simp only [List.getElem?_toArray, List.getElem?_cons_zero, List.getElem?_cons_succ] at c1
  clear hB
  go_enter Tryd.func55, Tryd.ntmps55
  go_wp2_with fail
  refine (clone_any (by omega) (by omega) rW).mono ?_
  rintro e w' ⟨g, cp, rfl, hg, hlt, hrow, hbel⟩
  clear rW c1
  go_wp2_with fail
  go_ret
  exact ⟨g, cp, rfl, hg, hlt, hrow, hbel⟩

def PlaysRel (n L C T : Nat) (fb : List Nat) (w : World) (i : Value) (wr : World) : Prop :=
  ∃ (k : Nat) (s : St) (ow : Nat → Nat → Int) (b : MB), k ≤ 400 ∧ i = .int .i64 k ∧ Reach n k s ∧ Rep wr n L fb s ∧ Own n s ow ∧ Px w C T n (2 * n) 2 b (mc s ow) wr

set_option maxHeartbeats 8000000 in
set_option maxRecDepth 100000 in
theorem plays_walk (n : Nat) (hn1 : 1 ≤ n) (hn4 : n ≤ 4) (a0 : Option Addr) (len0 cap0 : Nat) (z0 : List Int) (w : World) (w0 : IsRow .i64 w a0 len0 cap0 z0) (hg : TypeLaid w) :
    Calls Tryd.prog 9 #[.int .i64 n, .slice a0 len0 cap0] w fun e w' => e = .returned (.bool true) ∧ Below w.heap.size w w' := by
  have hle := w0.le
  have hat := Lib.hid (w0.at)
  have HG := Lib.hid hg
  clear w0 hg
  unfold maxLen at hle
  have hnn : 0 ≤ (n : Int) := by omega
  have hnn4 : (n : Int) ≤ 4 := by omega
  have hnn1 : (1 : Int) ≤ n := by omega
  go_enter Tryd.func9, Tryd.ntmps9
  go_wp2_with fail
  refine (new_any n hn1 hn4 _).mono ?_
  rintro e w2 ⟨L, fb, rfl, hL, hbel0, hfb⟩
  have HR := Lib.hid hL
  have Hb0 := Lib.hid hbel0
  have Hfb : Hid (∀ k ∈ fb, w.heap.size ≤ k ∧ k < w2.heap.size) := hfb
  clear hfb hbel0 hL
  go_wp2_with fail
  refine (filter_any (A := fun k => w2.heap.size ≤ k) rfl (fun k hk => hk) hn1 hn4).mono ?_
  rintro e w4 ⟨_, rfl, ⟨b, rfl, hm⟩, hbel⟩
  have Hb4 : Hid (Below w2.heap.size w2 w4) := hbel
  have HP : Hid (Px w w2.heap.size w4.heap.size n (2 * n) 2 b (mc (first n) (filter1 n n).ow) (w4.alloc (.cells #[.int .i64 n, .slice (some ⟨b.bW, 0, none⟩) (2 * n) b.cW, .slice (some ⟨b.bA, 0, none⟩) n b.cA, .slice (some ⟨b.bO, 0, none⟩) n b.cO] 27))) :=
    Px.start (w0 := w) (Hb0.out.trans (Hb4.out.mono Hb0.out.size)) Hb0.out.size Hb4.out.size (hm) (by omega) hn1
  replace HR : Hid (Rep (w4.alloc (.cells #[.int .i64 n, .slice (some ⟨b.bW, 0, none⟩) (2 * n) b.cW, .slice (some ⟨b.bA, 0, none⟩) n b.cA, .slice (some ⟨b.bO, 0, none⟩) n b.cO] 27)) n L fb (first n)) :=
    HR.out.keep (fun x hx => by rw [Below.heap_alloc _ _ _ (Nat.lt_of_lt_of_le (Hfb.out x hx).2 Hb4.out.size)]; exact Hb4.out.block x (Hfb.out x hx).2)
  unfold MB.val
  clear hm hbel
  go_wp2_with fail
  generalize w4.alloc (.cells #[.int .i64 n, .slice (some ⟨b.bW, 0, none⟩) (2 * n) b.cW, .slice (some ⟨b.bA, 0, none⟩) n b.cA, .slice (some ⟨b.bO, 0, none⟩) n b.cO] 27) = w5 at HP HR ⊢
  generalize w4.heap.size = T at HP ⊢
  clear Hb4 Hb0
  generalize w2.heap.size = C at HP Hfb
  go_loopw [8] (fun i wr => PlaysRel n L C T fb w i wr) (fun i _ => 400 - (intOf i).toNat)
  case atStart => exact ⟨0, first n, _, b, by omega, rfl, Reach.first n hn1 hn4, HR.out, own_first n, HP.out⟩
  case round =>
    clear HP HR
    obtain ⟨k, s, ow, b, hk, rfl, hf, hR, hO, hP⟩ := hrel
    have HR := Lib.hid hR
    have HP := Lib.hid hP
    have HO := Lib.hid hO
    have HF := Lib.hid hf
    clear hR hP hO hf
    by_cases hlt : k < len0 ∧ k < 400
    · obtain ⟨hk1, hk2⟩ := hlt
      obtain ⟨bb, off, p, rfl, hb0, hc, -, -⟩ := hat.out k hk1
      have hc' : wr.cell? ⟨bb, off + k, none⟩ = some (.int .i64 p) := by
        rw [HP.out.bel.cell (p := ⟨bb, off + k, none⟩) hb0]; exact hc
      clear hat hc hb0
      by_cases hp : 0 ≤ p ∧ p < n
      · obtain ⟨p, rfl⟩ := Int.eq_ofNat_of_zero_le hp.1
        have hpn : p < n := by omega
        have htold := told_nil (n := n) hpn
        have hst : step n s (p : Int) = stepN n s p := step_nat s hpn
        have HFn : Hid (Reach n (k + 1) (stepN n s p)) := hst ▸ HF.out.step p
        have d0 := HP.out.c0
        have d1 := HP.out.c1
        have d2 := HP.out.c2
        have d3 := HP.out.c3
        have Htold := Lib.hid htold
        have Hst := Lib.hid hst
        clear htold hst
        go_wp2_with fail
        refine (inS_yes hp.1 (by omega)).mono ?_
        rintro e wi ⟨rfl, rfl⟩
        go_wp2_with fail
        refine (m_any HO.out HF.out (by omega) hpn ⟨b, rfl, HP.out.mach⟩ HP.out.new).mono ?_
        rintro e w1 ⟨ow2, hO2, _, rfl, ⟨b2, rfl, hm2⟩, hbel⟩
        replace HR := Lib.hid (HR.out.keep (fun x hx => hbel.block x (Nat.lt_of_lt_of_le (Hfb.out x hx).2 (by have := HP.out.lt; omega))))
        replace HP := Lib.hid (HP.out.below hbel)
        replace HO := Lib.hid hO2
        have d0 := HP.out.c0
        have d1 := HP.out.c1
        have d2 := HP.out.c2
        have d3 := HP.out.c3
        have f0 := HP.out.f 0
        have f1 := HP.out.f 1
        have f2 := HP.out.f 2
        have f3 := HP.out.f 3
        unfold MB.val
        clear hbel hO2
        go_wp2_with fail
        replace HR : Hid (Rep ((((w1.setCell ⟨T, 0, none⟩ (.int .i64 n)).setCell ⟨T, 1, none⟩ (.slice (some ⟨b2.bW, 0, none⟩) (2 * n) b2.cW)).setCell ⟨T, 2, none⟩ (.slice (some ⟨b2.bA, 0, none⟩) n b2.cA)).setCell ⟨T, 3, none⟩ (.slice (some ⟨b2.bO, 0, none⟩) n b2.cO)) n L fb s) :=
          HR.out.keep (fun x hx => by
            have hne : T ≠ x := by have := HP.out.lt; have := (Hfb.out x hx).2; omega
            rw [Below.heap_setCell _ _ _ _ (by intro e; first | exact hne e | exact hne e.symm), Below.heap_setCell _ _ _ _ (by intro e; first | exact hne e | exact hne e.symm), Below.heap_setCell _ _ _ _ (by intro e; first | exact hne e | exact hne e.symm), Below.heap_setCell _ _ _ _ (by intro e; first | exact hne e | exact hne e.symm)])
        replace HP := Lib.hid (HP.out.rebox hm2)
        have b := b2
        clear hm2 d0 d1 d2 d3 f0 f1 f2 f3
        generalize ((((w1.setCell ⟨T, 0, none⟩ (.int .i64 n)).setCell ⟨T, 1, none⟩ (.slice (some ⟨b2.bW, 0, none⟩) (2 * n) b2.cW)).setCell ⟨T, 2, none⟩ (.slice (some ⟨b2.bA, 0, none⟩) n b2.cA)).setCell ⟨T, 3, none⟩ (.slice (some ⟨b2.bO, 0, none⟩) n b2.cO)) = wv at HP HR ⊢
        have HR0 := HR
        replace HR := Lib.hid (HR.out.keep (w' := wv.drew) (fun x hx => rfl))
        have s1 := HP.out.c1
        replace HP := Lib.hid HP.out.drew
        go_region_held3 (fun w' => w'.cell? ⟨T, 1, none⟩ = some (.slice (some ⟨b2.bW, 0, none⟩) (2 * n) b2.cW))
          (first | (with_reducible exact s1) | (with_reducible exact HP.out.c1))
          (first
            | (go_at_call 54; refine (step_of (n := n) (fb := fb) HR.out HF.out (by omega) Htold.out Hst.out).mono ?_; rintro e w1 ⟨rfl, hb1, ho1⟩; replace HP := Lib.hid (HP.out.only ho1.grow Hfb.out); replace HR := Lib.hid hb1; clear hb1 ho1)
            | (go_at_call 18; refine (error_nil _).mono ?_; rintro e w2 ⟨rfl, hbel⟩; replace HR := Lib.hid (HR.out.keep (fun x hx => hbel.block x (Nat.lt_of_lt_of_le (Hfb.out x hx).2 (by have := HP.out.lt; omega)))); replace HP := Lib.hid (HP.out.below hbel); clear hbel)
            | (go_at_call 55; refine (words_at (ow := ow2) HR.out hn1 hn4).mono ?_; rintro e w3 ⟨g, cp, rfl, hg3, hlt3, hrow3, hbel⟩; have Hrow := Lib.hid hrow3; replace HR := Lib.hid (HR.out.keep (fun x hx => hbel.block x (Nat.lt_of_lt_of_le (Hfb.out x hx).2 (by have := HP.out.lt; omega)))); replace HP := Lib.hid (HP.out.below hbel); clear hbel hg3 hlt3 hrow3)
            | (go_at_call 20; refine (ints_same Hrow.out HP.out.mach.rW (by omega)).mono ?_; rintro e w4 ⟨rfl, kk, rfl⟩; replace HR := Lib.hid (HR.out.keep (w' := w3.drewN kk) (fun x hx => rfl)); replace HP := Lib.hid (HP.out.drewN kk)))
        go_wp2_with fail
        generalize w3.drewN kk = wz at HP HR ⊢
        have b := b2
        go_loopw [11] (fun q wr => ∃ j mm : Nat, j ≤ n ∧ q = .int .i64 j ∧ wr = wz.drewN mm) (fun q _ => n - (intOf q).toNat)
        case atStart => exact ⟨0, 0, by omega, rfl, rfl⟩
        case round =>
          obtain ⟨j, mm, hj, rfl, rfl⟩ := hrel
          by_cases hj2 : j < n
          · have a2 := HP.out.c2
            have aL := HP.out.mach.line j hj2
            have hlj : line n (stepN n s p) (j : Int) = (mc (stepN n s p) ow2).at_ j := line_mc (stepN n s p) ow2 hj2
            have Hlj := Lib.hid hlj
            have e0 : ((mc (stepN n s p) ow2).at_ j != (mc (stepN n s p) ow2).at_ j) = false := by simp
            generalize (mc (stepN n s p) ow2).at_ j = X at *
            have hjn : (j : Int) < n := by omega
            clear hlj
            go_wp2_with fail
            go_quiet ((go_at_call 56; exact at_q HR.out hn4 Hlj.out))
            go_wp2_with fail
            go_roundw
            case rel => exact ⟨j + 1, mm + nq, by omega, by go_num, rfl⟩
            case measure => simp [intOf]; omega
          · go_wp2_with fail
            go_roundw
            case rel => exact ⟨k + 1, (stepN n s p), ow2, b2, by omega, by go_num, HFn.out, HR.out.keep (fun x hx => rfl), HO.out, HP.out.drewN mm⟩
            case measure => simp [intOf]; omega
      · have htold : told n p = .iface 77 (.int .i64 1) := by unfold told; rw [if_neg hp]
        have hst : step n s p = s := by unfold step; rw [if_neg hp]
        have HFn : Hid (Reach n (k + 1) s) := hst ▸ HF.out.step p
        have Htold := Lib.hid htold
        have Hst := Lib.hid hst
        have d0 := HP.out.c0
        have d1 := HP.out.c1
        have d2 := HP.out.c2
        have d3 := HP.out.c3
        clear htold hst
        go_wp2_with fail
        refine (inS_no (by omega)).mono ?_
        rintro e wi ⟨rfl, rfl⟩
        clear d0 d1 d2 d3
        go_wp2_with fail
        have HR0 := HR
        replace HR := Lib.hid (HR.out.keep (w' := wr.drew) (fun x hx => rfl))
        have s1 := HP.out.c1
        replace HP := Lib.hid HP.out.drew
        go_region_held3 (fun w' => w'.cell? ⟨T, 1, none⟩ = some (.slice (some ⟨b.bW, 0, none⟩) (2 * n) b.cW))
          (first | (with_reducible exact s1) | (with_reducible exact HP.out.c1))
          (first
            | (go_at_call 54; refine (step_of (n := n) (fb := fb) HR.out HF.out (by omega) Htold.out Hst.out).mono ?_; rintro e w1 ⟨rfl, hb1, ho1⟩; replace HP := Lib.hid (HP.out.only ho1.grow Hfb.out); replace HR := Lib.hid hb1; clear hb1 ho1)
            | (go_at_call 18; refine (error_one _ (HP.out.laid HG.out)).mono ?_; rintro e w2 ⟨rfl, hbel⟩; replace HR := Lib.hid (HR.out.keep (fun x hx => hbel.block x (Nat.lt_of_lt_of_le (Hfb.out x hx).2 (by have := HP.out.lt; omega)))); replace HP := Lib.hid (HP.out.below hbel); clear hbel)
            | (go_at_call 55; refine (words_at (ow := ow) HR.out hn1 hn4).mono ?_; rintro e w3 ⟨g, cp, rfl, hg3, hlt3, hrow3, hbel⟩; have Hrow := Lib.hid hrow3; replace HR := Lib.hid (HR.out.keep (fun x hx => hbel.block x (Nat.lt_of_lt_of_le (Hfb.out x hx).2 (by have := HP.out.lt; omega)))); replace HP := Lib.hid (HP.out.below hbel); clear hbel hg3 hlt3 hrow3)
            | (go_at_call 20; refine (ints_same Hrow.out HP.out.mach.rW (by omega)).mono ?_; rintro e w4 ⟨rfl, kk, rfl⟩; replace HR := Lib.hid (HR.out.keep (w' := w3.drewN kk) (fun x hx => rfl)); replace HP := Lib.hid (HP.out.drewN kk)))
        go_wp2_with fail
        generalize w3.drewN kk = wz at HP HR ⊢
        go_loopw [11] (fun q wr => ∃ j mm : Nat, j ≤ n ∧ q = .int .i64 j ∧ wr = wz.drewN mm) (fun q _ => n - (intOf q).toNat)
        case atStart => exact ⟨0, 0, by omega, rfl, rfl⟩
        case round =>
          obtain ⟨j, mm, hj, rfl, rfl⟩ := hrel
          by_cases hj2 : j < n
          · have a2 := HP.out.c2
            have aL := HP.out.mach.line j hj2
            have hlj : line n s (j : Int) = (mc s ow).at_ j := line_mc s ow hj2
            have Hlj := Lib.hid hlj
            have e0 : ((mc s ow).at_ j != (mc s ow).at_ j) = false := by simp
            generalize (mc s ow).at_ j = X at *
            have hjn : (j : Int) < n := by omega
            clear hlj
            go_wp2_with fail
            go_quiet ((go_at_call 56; exact at_q HR.out hn4 Hlj.out))
            go_wp2_with fail
            go_roundw
            case rel => exact ⟨j + 1, mm + nq, by omega, by go_num, rfl⟩
            case measure => simp [intOf]; omega
          · go_wp2_with fail
            go_roundw
            case rel => exact ⟨k + 1, s, ow, b, by omega, by go_num, HFn.out, HR.out.keep (fun x hx => rfl), HO.out, HP.out.drewN mm⟩
            case measure => simp [intOf]; omega
    · clear hat
      go_wp2_with fail
      all_goals
        refine (at_of (hn := hn4) (p := -1) (k := 0) HR.out (by unfold line; rw [if_neg (by omega)])).mono ?_
        rintro e wi ⟨rfl, rfl⟩
        go_wp2_with fail
        refine (at_of (hn := hn4) (p := n) (k := 0) HR.out (by unfold line; rw [if_neg (by omega)])).mono ?_
        rintro e wi ⟨rfl, rfl⟩
        go_wp2_with fail
        go_ret
        exact ⟨rfl, HP.out.bel⟩

set_option maxRecDepth 100000 in
theorem plays_bad (n : Int) (h : n < 1 ∨ 4 < n) (v : Value) (w : World) (hg : TypeLaid w) :
    Calls Tryd.prog 9 #[.int .i64 n, v] w fun e w' => e = .returned (.bool true) ∧ Below w.heap.size w w' := by
  have HG := Lib.hid hg
  have hd : n < 1 ∨ (1 ≤ n ∧ 4 < n) := by omega
  have HN := Lib.hid h
  clear h hg
  go_enter Tryd.func9, Tryd.ntmps9
  go_wp2_with fail
  refine (new_no _ HN.out _).mono ?_
  rintro e w2 ⟨rfl, rfl⟩
  rcases hd with hd | ⟨hd, hd2⟩
  · go_wp2_with fail
    refine (error_one _ HG.out).mono ?_
    rintro e w3 ⟨rfl, hb⟩
    go_wp2_with fail
    go_ret
    exact ⟨rfl, hb⟩
  · go_wp2_with fail
    refine (error_one _ HG.out).mono ?_
    rintro e w3 ⟨rfl, hb⟩
    go_wp2_with fail
    go_ret
    exact ⟨rfl, hb⟩

theorem plays_any (n : Int) (a0 : Option Addr) (len0 cap0 : Nat) (z0 : List Int) (w : World) (w0 : IsRow .i64 w a0 len0 cap0 z0) (hg : TypeLaid w) :
    Calls Tryd.prog 9 #[.int .i64 n, .slice a0 len0 cap0] w fun e w' => e = .returned (.bool true) ∧ Below w.heap.size w w' := by
  by_cases h : 1 ≤ n ∧ n ≤ 4
  · obtain ⟨m, rfl⟩ := Int.eq_ofNat_of_zero_le (show 0 ≤ n by omega)
    exact plays_walk m (by omega) (by omega) a0 len0 cap0 z0 w w0 hg
  · exact plays_bad n (by omega) _ w hg
end Go.Proofs.YtgkfgijmccojjaaDoor.Filter
