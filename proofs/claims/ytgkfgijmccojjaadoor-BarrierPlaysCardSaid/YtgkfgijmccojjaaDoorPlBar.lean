import Derived.Test.YtgkfgijmccojjaaDoorPx
import Derived.Test.YtgkfgijmccojjaaDoorBarNew
import Derived.Test.YtgkfgijmccojjaaDoorMBarrier
namespace Go.Proofs.YtgkfgijmccojjaaDoor.Bar
open Go.RowKit
set_option linter.unusedVariables false
set_option linter.unusedSimpArgs false

def mc (s : St) (_ : Nat → Nat → Int) : MS := ⟨fun i => if i = 0 then s.count else s.sense, s.ln, fun p i => if i = 0 then s.mine p else s.phase p⟩
def Own (n : Nat) (s : St) (ow : Nat → Nat → Int) : Prop := True
theorem own_first (n : Nat) : Own n (first n) (fun _ _ => 0) := trivial
theorem barFirst {w : World} {A : Nat → Prop} {n : Nat} {b : MB} (h : MBlk w A n 2 2 b (first1 fun i => if i = 0 then (n : Int) else 0)) : MBlk w A n 2 2 b (mc (first n) (fun _ _ => 0)) :=
  ⟨h.w0, h.a0, h.o0, h.rW.eq (fun j hj => by simp [mc, first, first1]), h.rA.eq (fun j hj => by simp [mc, first, first1]), fun p hp => ⟨(h.rO p hp).1, (h.rO p hp).2.1, (h.rO p hp).2.2.1, (h.rO p hp).2.2.2.eq (fun j hj => by simp [mc, first, first1])⟩⟩
set_option maxHeartbeats 4000000 in
theorem m_any {w : World} {A : Nat → Prop} {n t p : Nat} {v : Value} {s : St} {ow : Nat → Nat → Int} (ho : Own n s ow) (hr : Reach n t s) (ht : t ≤ 400) (hp : p < n) (h : MRep w A n 2 2 v (mc s ow)) (hA : ∀ k, w.heap.size ≤ k → A k) :
    Calls Tryd.prog 29 #[v, .int .i64 p] w fun e w' => ∃ ow', Own n (stepN n s p) ow' ∧ Next A n 2 2 (mc (stepN n s p) ow') w e w' := by
  have hf := hr.fine hp
  have hn := hr.2.1
  have b1 : -1 ≤ (mc s ow).ow p 1 ∧ (mc s ow).ow p 1 ≤ 100000 := by show -1 ≤ s.phase p ∧ s.phase p ≤ 100000; omega
  have b2 : 0 ≤ (mc s ow).ow p 0 ∧ (mc s ow).ow p 0 ≤ 1 := by show 0 ≤ s.mine p ∧ s.mine p ≤ 1; omega
  have b3 : 0 ≤ (mc s ow).wd 0 ∧ (mc s ow).wd 0 ≤ 4 := by show 0 ≤ s.count ∧ s.count ≤ 4; omega
  obtain hl | hl | hl | hl : s.ln p = 1 ∨ s.ln p = 2 ∨ s.ln p = 3 ∨ s.ln p = 4 := by omega
  · by_cases h0 : s.count - 1 = 0
    · refine (MBarrier.l1 h hA hp hn hl b1 b2 b3 ).mono ?_
      rintro e w' hN
      refine ⟨ow, trivial, hN.eq ?_ ?_ ?_⟩
      · intro i hi; obtain rfl | rfl : i = 0 ∨ i = 1 := by omega
        all_goals simp [stepN, hl, to1, word1, own1, _root_.Go.Proofs.YtgkfgijmccojjaaDoor.goes1, mc, updR, upd, h0]
      · intro i _
        by_cases e : i = p
        · subst e; simp [stepN, hl, to1, word1, own1, _root_.Go.Proofs.YtgkfgijmccojjaaDoor.goes1, mc, updR, upd, h0]
        · simp [stepN, hl, to1, word1, own1, _root_.Go.Proofs.YtgkfgijmccojjaaDoor.goes1, mc, updR, upd, h0, e]
      · intro q hq i hi
        by_cases e : q = p
        · subst e; obtain rfl | rfl : i = 0 ∨ i = 1 := by omega
          all_goals simp [stepN, hl, to1, word1, own1, _root_.Go.Proofs.YtgkfgijmccojjaaDoor.goes1, mc, updR, upd, h0]
        · simp [stepN, hl, to1, word1, own1, _root_.Go.Proofs.YtgkfgijmccojjaaDoor.goes1, mc, updR, upd, h0, e]
    · refine (MBarrier.l1 h hA hp hn hl b1 b2 b3 ).mono ?_
      rintro e w' hN
      refine ⟨ow, trivial, hN.eq ?_ ?_ ?_⟩
      · intro i hi; obtain rfl | rfl : i = 0 ∨ i = 1 := by omega
        all_goals simp [stepN, hl, to1, word1, own1, _root_.Go.Proofs.YtgkfgijmccojjaaDoor.goes1, mc, updR, upd, h0]
      · intro i _
        by_cases e : i = p
        · subst e; simp [stepN, hl, to1, word1, own1, _root_.Go.Proofs.YtgkfgijmccojjaaDoor.goes1, mc, updR, upd, h0]
        · simp [stepN, hl, to1, word1, own1, _root_.Go.Proofs.YtgkfgijmccojjaaDoor.goes1, mc, updR, upd, h0, e]
      · intro q hq i hi
        by_cases e : q = p
        · subst e; obtain rfl | rfl : i = 0 ∨ i = 1 := by omega
          all_goals simp [stepN, hl, to1, word1, own1, _root_.Go.Proofs.YtgkfgijmccojjaaDoor.goes1, mc, updR, upd, h0]
        · simp [stepN, hl, to1, word1, own1, _root_.Go.Proofs.YtgkfgijmccojjaaDoor.goes1, mc, updR, upd, h0, e]
  · refine (MBarrier.l2 h hA hp hn hl b1 b2 b3 ).mono ?_
    rintro e w' hN
    refine ⟨ow, trivial, hN.eq ?_ ?_ ?_⟩
    · intro i hi; obtain rfl | rfl : i = 0 ∨ i = 1 := by omega
      all_goals simp [stepN, hl, to1, word1, own1, _root_.Go.Proofs.YtgkfgijmccojjaaDoor.goes1, mc, updR, upd]
    · intro i _
      by_cases e : i = p
      · subst e; simp [stepN, hl, to1, word1, own1, _root_.Go.Proofs.YtgkfgijmccojjaaDoor.goes1, mc, updR, upd]
      · simp [stepN, hl, to1, word1, own1, _root_.Go.Proofs.YtgkfgijmccojjaaDoor.goes1, mc, updR, upd, e]
    · intro q hq i hi
      by_cases e : q = p
      · subst e; obtain rfl | rfl : i = 0 ∨ i = 1 := by omega
        all_goals simp [stepN, hl, to1, word1, own1, _root_.Go.Proofs.YtgkfgijmccojjaaDoor.goes1, mc, updR, upd]
      · simp [stepN, hl, to1, word1, own1, _root_.Go.Proofs.YtgkfgijmccojjaaDoor.goes1, mc, updR, upd, e]
  · refine (MBarrier.l3 h hA hp hn hl b1 b2 b3 ).mono ?_
    rintro e w' hN
    refine ⟨ow, trivial, hN.eq ?_ ?_ ?_⟩
    · intro i hi; obtain rfl | rfl : i = 0 ∨ i = 1 := by omega
      all_goals simp [stepN, hl, to1, word1, own1, _root_.Go.Proofs.YtgkfgijmccojjaaDoor.goes1, mc, updR, upd]
    · intro i _
      by_cases e : i = p
      · subst e; simp [stepN, hl, to1, word1, own1, _root_.Go.Proofs.YtgkfgijmccojjaaDoor.goes1, mc, updR, upd]
      · simp [stepN, hl, to1, word1, own1, _root_.Go.Proofs.YtgkfgijmccojjaaDoor.goes1, mc, updR, upd, e]
    · intro q hq i hi
      by_cases e : q = p
      · subst e; obtain rfl | rfl : i = 0 ∨ i = 1 := by omega
        all_goals simp [stepN, hl, to1, word1, own1, _root_.Go.Proofs.YtgkfgijmccojjaaDoor.goes1, mc, updR, upd]
      · simp [stepN, hl, to1, word1, own1, _root_.Go.Proofs.YtgkfgijmccojjaaDoor.goes1, mc, updR, upd, e]
  · by_cases h0 : s.sense = s.mine p
    · refine (MBarrier.l4a h hA hp hn hl b1 b2 b3 h0).mono ?_
      rintro e w' hN
      refine ⟨ow, trivial, hN.eq ?_ ?_ ?_⟩
      · intro i hi; obtain rfl | rfl : i = 0 ∨ i = 1 := by omega
        all_goals simp [stepN, hl, to1, word1, own1, _root_.Go.Proofs.YtgkfgijmccojjaaDoor.goes1, mc, updR, upd, h0]
      · intro i _
        by_cases e : i = p
        · subst e; simp [stepN, hl, to1, word1, own1, _root_.Go.Proofs.YtgkfgijmccojjaaDoor.goes1, mc, updR, upd, h0]
        · simp [stepN, hl, to1, word1, own1, _root_.Go.Proofs.YtgkfgijmccojjaaDoor.goes1, mc, updR, upd, h0, e]
      · intro q hq i hi
        by_cases e : q = p
        · subst e; obtain rfl | rfl : i = 0 ∨ i = 1 := by omega
          all_goals simp [stepN, hl, to1, word1, own1, _root_.Go.Proofs.YtgkfgijmccojjaaDoor.goes1, mc, updR, upd, h0]
        · simp [stepN, hl, to1, word1, own1, _root_.Go.Proofs.YtgkfgijmccojjaaDoor.goes1, mc, updR, upd, h0, e]
    · refine (MBarrier.l4b h hA hp hn hl b1 b2 b3 h0).mono ?_
      rintro e w' hN
      refine ⟨ow, trivial, hN.eq ?_ ?_ ?_⟩
      · intro i hi; obtain rfl | rfl : i = 0 ∨ i = 1 := by omega
        all_goals simp [stepN, hl, to1, word1, own1, _root_.Go.Proofs.YtgkfgijmccojjaaDoor.goes1, mc, updR, upd, h0]
      · intro i _
        by_cases e : i = p
        · subst e; simp [stepN, hl, to1, word1, own1, _root_.Go.Proofs.YtgkfgijmccojjaaDoor.goes1, mc, updR, upd, h0]
        · simp [stepN, hl, to1, word1, own1, _root_.Go.Proofs.YtgkfgijmccojjaaDoor.goes1, mc, updR, upd, h0, e]
      · intro q hq i hi
        by_cases e : q = p
        · subst e; obtain rfl | rfl : i = 0 ∨ i = 1 := by omega
          all_goals simp [stepN, hl, to1, word1, own1, _root_.Go.Proofs.YtgkfgijmccojjaaDoor.goes1, mc, updR, upd, h0]
        · simp [stepN, hl, to1, word1, own1, _root_.Go.Proofs.YtgkfgijmccojjaaDoor.goes1, mc, updR, upd, h0, e]
theorem at_q {w : World} {n L : Nat} {fb : List Nat} {s : St} {p k : Int} {m m' : Nat} (hb : Rep w n L fb s) (hn : n ≤ 4) (hk : line n s p = k) :
    Calls Tryd.prog 32 #[.pointer (some ⟨L, 0, none⟩), .int .i64 p] (w.drewN (m + m')) fun e w'' => e = .returned (.int .i64 k) ∧ ∃ j, w'' = w.drewN (m + j) :=
  (at_of (w := w.drewN (m + m')) (hn := hn) (hb.keep (w' := w.drewN (m + m')) (fun x hx => rfl)) hk).mono fun _ _ h => ⟨h.1, m', h.2.symm⟩
theorem phase_q {w : World} {n L : Nat} {fb : List Nat} {s : St} {p k : Int} {m m' : Nat} (hb : Rep w n L fb s) (hn : n ≤ 4) (hk : often n s p = k) :
    Calls Tryd.prog 33 #[.pointer (some ⟨L, 0, none⟩), .int .i64 p] (w.drewN (m + m')) fun e w'' => e = .returned (.int .i64 k) ∧ ∃ j, w'' = w.drewN (m + j) :=
  (phase_of (w := w.drewN (m + m')) (hn := hn) (hb.keep (w' := w.drewN (m + m')) (fun x hx => rfl)) hk).mono fun _ _ h => ⟨h.1, m', h.2.symm⟩
set_option maxRecDepth 100000 in
theorem words_at {w : World} {n L : Nat} {fb : List Nat} {s : St} (h : Rep w n L fb s) :
    Calls Tryd.prog 31 #[.pointer (some ⟨L, 0, none⟩)] w fun e w' => e = .returned (.tuple #[.int .i64 s.count, .int .i64 s.sense]) ∧ ∃ k, w' = w.drewN k := by
  obtain ⟨bH, cap, rfl, hcap, hLH, hB, -⟩ := h
  have c0 := hB.cell 0
  have c1 := hB.cell 1
  simp only [List.getElem?_toArray, List.getElem?_cons_zero, List.getElem?_cons_succ] at c0 c1
  clear hB
  go_enter Tryd.func31, Tryd.ntmps31
  go_wp2_with fail
  go_quiet (fail)
  go_wp2_with fail
  go_ret2
  exact ⟨rfl, _, rfl⟩

def PlaysRel (n L C T : Nat) (fb : List Nat) (w : World) (i : Value) (wr : World) : Prop :=
  ∃ (k : Nat) (s : St) (ow : Nat → Nat → Int) (b : MB), k ≤ 300 ∧ i = .int .i64 k ∧ Reach n k s ∧ Rep wr n L fb s ∧ Own n s ow ∧ Px w C T n (2) 2 b (mc s ow) wr

set_option maxHeartbeats 8000000 in
set_option maxRecDepth 100000 in
theorem plays_walk (n : Nat) (hn1 : 1 ≤ n) (hn4 : n ≤ 4) (a0 : Option Addr) (len0 cap0 : Nat) (z0 : List Int) (w : World) (w0 : IsRow .i64 w a0 len0 cap0 z0) (hg : TypeLaid w) :
    Calls Tryd.prog 5 #[.int .i64 n, .slice a0 len0 cap0] w fun e w' => e = .returned (.bool true) ∧ Below w.heap.size w w' := by
  have hle := w0.le
  have hat := Lib.hid (w0.at)
  have HG := Lib.hid hg
  clear w0 hg
  unfold maxLen at hle
  have hnn : 0 ≤ (n : Int) := by omega
  have hnn4 : (n : Int) ≤ 4 := by omega
  have hnn1 : (1 : Int) ≤ n := by omega
  go_enter Tryd.func5, Tryd.ntmps5
  go_wp2_with fail
  refine (new_any n hn1 hn4 _).mono ?_
  rintro e w2 ⟨L, fb, rfl, hL, hbel0, hfb⟩
  have HR := Lib.hid hL
  have Hb0 := Lib.hid hbel0
  have Hfb : Hid (∀ k ∈ fb, w.heap.size ≤ k ∧ k < w2.heap.size) := hfb
  clear hfb hbel0 hL
  go_wp2_with fail
  have HZ : Hid (Row (w2.alloc (.cells #[.int .i64 n, .int .i64 0] 3)) w2.heap.size 2 (fun j => j) (fun i => if i = 0 then (n : Int) else 0)) := by
    intro j hj
    have hB := Blk.new w2 #[.int .i64 n, .int .i64 0] 3
    refine ⟨?_, hB.free _⟩
    obtain rfl | rfl : j = 0 ∨ j = 1 := by omega
    · exact hB.cell 0
    · exact hB.cell 1
  refine (mnew_any (A := fun k => w2.heap.size ≤ k) (n := n) (nw := 2) (no := 2) rfl rfl HZ.out (Nat.le_refl _) (fun k hk => Nat.le_of_succ_le (by simpa using hk)) hn1 hn4 (by omega) (by omega)).mono ?_
  rintro e w4 ⟨_, rfl, ⟨b, rfl, hm⟩, hbel⟩
  have Hb4 : Hid (Below w2.heap.size w2 w4) := ((Below.refl _ _).alloc (Nat.le_refl _) _).trans (hbel.mono (by simp))
  have HP : Hid (Px w w2.heap.size w4.heap.size n (2) 2 b (mc (first n) (fun _ _ => 0)) (w4.alloc (.cells #[.int .i64 n, .slice (some ⟨b.bW, 0, none⟩) (2) b.cW, .slice (some ⟨b.bA, 0, none⟩) n b.cA, .slice (some ⟨b.bO, 0, none⟩) n b.cO] 27))) :=
    Px.start (w0 := w) (Hb0.out.trans (Hb4.out.mono Hb0.out.size)) Hb0.out.size Hb4.out.size (barFirst hm) (by omega) hn1
  replace HR : Hid (Rep (w4.alloc (.cells #[.int .i64 n, .slice (some ⟨b.bW, 0, none⟩) (2) b.cW, .slice (some ⟨b.bA, 0, none⟩) n b.cA, .slice (some ⟨b.bO, 0, none⟩) n b.cO] 27)) n L fb (first n)) :=
    HR.out.keep (fun x hx => by rw [Below.heap_alloc _ _ _ (Nat.lt_of_lt_of_le (Hfb.out x hx).2 Hb4.out.size)]; exact Hb4.out.block x (Hfb.out x hx).2)
  unfold MB.val
  clear hm hbel
  go_wp2_with fail
  generalize w4.alloc (.cells #[.int .i64 n, .slice (some ⟨b.bW, 0, none⟩) (2) b.cW, .slice (some ⟨b.bA, 0, none⟩) n b.cA, .slice (some ⟨b.bO, 0, none⟩) n b.cO] 27) = w5 at HP HR ⊢
  generalize w4.heap.size = T at HP ⊢
  clear Hb4 Hb0 HZ
  generalize w2.heap.size = C at HP Hfb
  go_loopw [8] (fun i wr => PlaysRel n L C T fb w i wr) (fun i _ => 300 - (intOf i).toNat)
  case atStart => exact ⟨0, first n, _, b, by omega, rfl, Reach.first n hn1 hn4, HR.out, own_first n, HP.out⟩
  case round =>
    clear HP HR
    obtain ⟨k, s, ow, b, hk, rfl, hf, hR, hO, hP⟩ := hrel
    have HR := Lib.hid hR
    have HP := Lib.hid hP
    have HO := Lib.hid hO
    have HF := Lib.hid hf
    clear hR hP hO hf
    by_cases hlt : k < len0 ∧ k < 300
    · obtain ⟨hk1, hk2⟩ := hlt
      obtain ⟨bb, off, p, rfl, hb0, hc, -, -⟩ := hat.out k hk1
      have hc' : wr.cell? ⟨bb, off + k, none⟩ = some (.int .i64 p) := by
        rw [HP.out.bel.cell (p := ⟨bb, off + k, none⟩) hb0]; exact hc
      clear hat hc hb0
      by_cases hp : 0 ≤ p ∧ p < n
      · obtain ⟨p, rfl⟩ := Int.eq_ofNat_of_zero_le hp.1
        have hpn : p < n := by omega
        have htold := told_nil (n := n) hpn
        have hst : step n s (p : Int) = stepN n s p := step_nat s hpn
        have HFn : Hid (Reach n (k + 1) (stepN n s p)) := hst ▸ HF.out.step p
        have d0 := HP.out.c0
        have d1 := HP.out.c1
        have d2 := HP.out.c2
        have d3 := HP.out.c3
        have Htold := Lib.hid htold
        have Hst := Lib.hid hst
        clear htold hst
        go_wp2_with fail
        refine (inS_yes hp.1 (by omega)).mono ?_
        rintro e wi ⟨rfl, rfl⟩
        go_wp2_with fail
        refine (m_any HO.out HF.out (by omega) hpn ⟨b, rfl, HP.out.mach⟩ HP.out.new).mono ?_
        rintro e w1 ⟨ow2, hO2, _, rfl, ⟨b2, rfl, hm2⟩, hbel⟩
        replace HR := Lib.hid (HR.out.keep (fun x hx => hbel.block x (Nat.lt_of_lt_of_le (Hfb.out x hx).2 (by have := HP.out.lt; omega))))
        replace HP := Lib.hid (HP.out.below hbel)
        replace HO := Lib.hid hO2
        have d0 := HP.out.c0
        have d1 := HP.out.c1
        have d2 := HP.out.c2
        have d3 := HP.out.c3
        have f0 := HP.out.f 0
        have f1 := HP.out.f 1
        have f2 := HP.out.f 2
        have f3 := HP.out.f 3
        unfold MB.val
        clear hbel hO2
        go_wp2_with fail
        replace HR : Hid (Rep ((((w1.setCell ⟨T, 0, none⟩ (.int .i64 n)).setCell ⟨T, 1, none⟩ (.slice (some ⟨b2.bW, 0, none⟩) (2) b2.cW)).setCell ⟨T, 2, none⟩ (.slice (some ⟨b2.bA, 0, none⟩) n b2.cA)).setCell ⟨T, 3, none⟩ (.slice (some ⟨b2.bO, 0, none⟩) n b2.cO)) n L fb s) :=
          HR.out.keep (fun x hx => by
            have hne : T ≠ x := by have := HP.out.lt; have := (Hfb.out x hx).2; omega
            rw [Below.heap_setCell _ _ _ _ (by intro e; first | exact hne e | exact hne e.symm), Below.heap_setCell _ _ _ _ (by intro e; first | exact hne e | exact hne e.symm), Below.heap_setCell _ _ _ _ (by intro e; first | exact hne e | exact hne e.symm), Below.heap_setCell _ _ _ _ (by intro e; first | exact hne e | exact hne e.symm)])
        replace HP := Lib.hid (HP.out.rebox hm2)
        have b := b2
        clear hm2 d0 d1 d2 d3 f0 f1 f2 f3
        generalize ((((w1.setCell ⟨T, 0, none⟩ (.int .i64 n)).setCell ⟨T, 1, none⟩ (.slice (some ⟨b2.bW, 0, none⟩) (2) b2.cW)).setCell ⟨T, 2, none⟩ (.slice (some ⟨b2.bA, 0, none⟩) n b2.cA)).setCell ⟨T, 3, none⟩ (.slice (some ⟨b2.bO, 0, none⟩) n b2.cO)) = wv at HP HR ⊢
        refine (step_of (n := n) (fb := fb) HR.out HF.out (by omega) Htold.out Hst.out).mono ?_
        rintro e w1' ⟨rfl, hb1, ho1⟩
        replace HP := Lib.hid (HP.out.only ho1.grow Hfb.out)
        replace HR := Lib.hid hb1
        clear hb1 ho1
        go_wp2_with fail
        refine (error_nil _).mono ?_
        rintro e wy ⟨rfl, hbel⟩
        replace HR := Lib.hid (HR.out.keep (fun x hx => hbel.block x (Nat.lt_of_lt_of_le (Hfb.out x hx).2 (by have := HP.out.lt; omega))))
        replace HP := Lib.hid (HP.out.below hbel)
        clear hbel
        go_wp2_with fail
        refine (words_at HR.out).mono ?_
        rintro e wz' ⟨rfl, kk, rfl⟩
        replace HR := Lib.hid (HR.out.keep (w' := wy.drewN kk) (fun x hx => rfl))
        replace HP := Lib.hid (HP.out.drewN kk)
        generalize wy.drewN kk = wz at HP HR ⊢
        have x1 := HP.out.c1
        have x2 : wz.cell? ⟨b2.bW, 0, none⟩ = some (.int .i64 (stepN n s p).count) := HP.out.mach.word 0 (by omega)
        have x3 : wz.cell? ⟨b2.bW, 1, none⟩ = some (.int .i64 (stepN n s p).sense) := HP.out.mach.word 1 (by omega)
        have x4 : ((stepN n s p).count != (stepN n s p).count) = false := by simp
        have x5 : ((stepN n s p).sense != (stepN n s p).sense) = false := by simp
        go_wp2_with fail
        clear x1 x2 x3 x4 x5
        go_loopw [13] (fun q wr => ∃ j mm : Nat, j ≤ n ∧ q = .int .i64 j ∧ wr = wz.drewN mm) (fun q _ => n - (intOf q).toNat)
        case atStart => exact ⟨0, 0, by omega, rfl, rfl⟩
        case round =>
          obtain ⟨j, mm, hj, rfl, rfl⟩ := hrel
          by_cases hj2 : j < n
          · have a2 := HP.out.c2
            have a3 := HP.out.c3
            have aL : wz.cell? ⟨b2.bA, j, none⟩ = some (.int .i64 ((stepN n s p).ln j)) := HP.out.mach.line j hj2
            have aR := HP.out.mach.row j hj2
            have aN : wz.cell? ⟨b2.ob j, 1, none⟩ = some (.int .i64 ((stepN n s p).phase j)) := HP.out.mach.num j 1 hj2 (by omega)
            have hlj : line n (stepN n s p) (j : Int) = (stepN n s p).ln j := line_nat _ hj2
            have hoj : often n (stepN n s p) (j : Int) = (stepN n s p).phase j := often_nat _ hj2
            have Hlj := Lib.hid hlj
            have Hoj := Lib.hid hoj
            generalize (stepN n s p).ln j = X at *
            generalize (stepN n s p).phase j = Y at *
            have e0 : (X != X) = false := by simp
            have e1 : (Y != Y) = false := by simp
            have hjn : (j : Int) < n := by omega
            clear hlj hoj
            go_wp2_with fail
            go_quiet (first | (go_at_call 32; exact at_q HR.out hn4 Hlj.out) | (go_at_call 33; exact phase_q HR.out hn4 Hoj.out))
            go_wp2_with fail
            go_roundw
            case rel => exact ⟨j + 1, mm + nq, by omega, by go_num, rfl⟩
            case measure => simp [intOf]; omega
          · go_wp2_with fail
            go_roundw
            case rel => exact ⟨k + 1, stepN n s p, ow2, b2, by omega, by go_num, HFn.out, HR.out.keep (fun x hx => rfl), HO.out, HP.out.drewN mm⟩
            case measure => simp [intOf]; omega
      · have htold : told n p = .iface 77 (.int .i64 1) := by unfold told; rw [if_neg hp]
        have hst : step n s p = s := by unfold step; rw [if_neg hp]
        have HFn : Hid (Reach n (k + 1) s) := hst ▸ HF.out.step p
        have Htold := Lib.hid htold
        have Hst := Lib.hid hst
        have d0 := HP.out.c0
        have d1 := HP.out.c1
        have d2 := HP.out.c2
        have d3 := HP.out.c3
        clear htold hst
        go_wp2_with fail
        refine (inS_no (by omega)).mono ?_
        rintro e wi ⟨rfl, rfl⟩
        clear d0 d1 d2 d3
        go_wp2_with fail
        refine (step_of (n := n) (fb := fb) HR.out HF.out (by omega) Htold.out Hst.out).mono ?_
        rintro e w1' ⟨rfl, hb1, ho1⟩
        replace HP := Lib.hid (HP.out.only ho1.grow Hfb.out)
        replace HR := Lib.hid hb1
        clear hb1 ho1
        go_wp2_with fail
        refine (error_one _ (HP.out.laid HG.out)).mono ?_
        rintro e wy ⟨rfl, hbel⟩
        replace HR := Lib.hid (HR.out.keep (fun x hx => hbel.block x (Nat.lt_of_lt_of_le (Hfb.out x hx).2 (by have := HP.out.lt; omega))))
        replace HP := Lib.hid (HP.out.below hbel)
        clear hbel
        go_wp2_with fail
        refine (words_at HR.out).mono ?_
        rintro e wz' ⟨rfl, kk, rfl⟩
        replace HR := Lib.hid (HR.out.keep (w' := wy.drewN kk) (fun x hx => rfl))
        replace HP := Lib.hid (HP.out.drewN kk)
        generalize wy.drewN kk = wz at HP HR ⊢
        have x1 := HP.out.c1
        have x2 : wz.cell? ⟨b.bW, 0, none⟩ = some (.int .i64 (s).count) := HP.out.mach.word 0 (by omega)
        have x3 : wz.cell? ⟨b.bW, 1, none⟩ = some (.int .i64 (s).sense) := HP.out.mach.word 1 (by omega)
        have x4 : ((s).count != (s).count) = false := by simp
        have x5 : ((s).sense != (s).sense) = false := by simp
        go_wp2_with fail
        clear x1 x2 x3 x4 x5
        go_loopw [13] (fun q wr => ∃ j mm : Nat, j ≤ n ∧ q = .int .i64 j ∧ wr = wz.drewN mm) (fun q _ => n - (intOf q).toNat)
        case atStart => exact ⟨0, 0, by omega, rfl, rfl⟩
        case round =>
          obtain ⟨j, mm, hj, rfl, rfl⟩ := hrel
          by_cases hj2 : j < n
          · have a2 := HP.out.c2
            have a3 := HP.out.c3
            have aL : wz.cell? ⟨b.bA, j, none⟩ = some (.int .i64 ((s).ln j)) := HP.out.mach.line j hj2
            have aR := HP.out.mach.row j hj2
            have aN : wz.cell? ⟨b.ob j, 1, none⟩ = some (.int .i64 ((s).phase j)) := HP.out.mach.num j 1 hj2 (by omega)
            have hlj : line n (s) (j : Int) = (s).ln j := line_nat _ hj2
            have hoj : often n (s) (j : Int) = (s).phase j := often_nat _ hj2
            have Hlj := Lib.hid hlj
            have Hoj := Lib.hid hoj
            generalize (s).ln j = X at *
            generalize (s).phase j = Y at *
            have e0 : (X != X) = false := by simp
            have e1 : (Y != Y) = false := by simp
            have hjn : (j : Int) < n := by omega
            clear hlj hoj
            go_wp2_with fail
            go_quiet (first | (go_at_call 32; exact at_q HR.out hn4 Hlj.out) | (go_at_call 33; exact phase_q HR.out hn4 Hoj.out))
            go_wp2_with fail
            go_roundw
            case rel => exact ⟨j + 1, mm + nq, by omega, by go_num, rfl⟩
            case measure => simp [intOf]; omega
          · go_wp2_with fail
            go_roundw
            case rel => exact ⟨k + 1, s, ow, b, by omega, by go_num, HFn.out, HR.out.keep (fun x hx => rfl), HO.out, HP.out.drewN mm⟩
            case measure => simp [intOf]; omega
    · clear hat
      go_wp2_with fail
      all_goals
        refine (at_of (hn := hn4) (p := -1) (k := 0) HR.out (by unfold line; rw [if_neg (by omega)])).mono ?_
        rintro e wi ⟨rfl, rfl⟩
        go_wp2_with fail
        refine (phase_of (hn := hn4) (p := n) (k := -1) HR.out (by unfold often; rw [if_neg (by omega)])).mono ?_
        rintro e wi ⟨rfl, rfl⟩
        go_wp2_with fail
        go_ret
        exact ⟨rfl, HP.out.bel⟩

set_option maxRecDepth 100000 in
theorem plays_bad (n : Int) (h : n < 1 ∨ 4 < n) (v : Value) (w : World) (hg : TypeLaid w) :
    Calls Tryd.prog 5 #[.int .i64 n, v] w fun e w' => e = .returned (.bool true) ∧ Below w.heap.size w w' := by
  have HG := Lib.hid hg
  have hd : n < 1 ∨ (1 ≤ n ∧ 4 < n) := by omega
  have HN := Lib.hid h
  clear h hg
  go_enter Tryd.func5, Tryd.ntmps5
  go_wp2_with fail
  refine (new_no _ HN.out _).mono ?_
  rintro e w2 ⟨rfl, rfl⟩
  rcases hd with hd | ⟨hd, hd2⟩
  · go_wp2_with fail
    refine (error_one _ HG.out).mono ?_
    rintro e w3 ⟨rfl, hb⟩
    go_wp2_with fail
    go_ret
    exact ⟨rfl, hb⟩
  · go_wp2_with fail
    refine (error_one _ HG.out).mono ?_
    rintro e w3 ⟨rfl, hb⟩
    go_wp2_with fail
    go_ret
    exact ⟨rfl, hb⟩

theorem plays_any (n : Int) (a0 : Option Addr) (len0 cap0 : Nat) (z0 : List Int) (w : World) (w0 : IsRow .i64 w a0 len0 cap0 z0) (hg : TypeLaid w) :
    Calls Tryd.prog 5 #[.int .i64 n, .slice a0 len0 cap0] w fun e w' => e = .returned (.bool true) ∧ Below w.heap.size w w' := by
  by_cases h : 1 ≤ n ∧ n ≤ 4
  · obtain ⟨m, rfl⟩ := Int.eq_ofNat_of_zero_le (show 0 ≤ n by omega)
    exact plays_walk m (by omega) (by omega) a0 len0 cap0 z0 w w0 hg
  · exact plays_bad n (by omega) _ w hg
end Go.Proofs.YtgkfgijmccojjaaDoor.Bar
