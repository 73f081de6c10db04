import Derived.Test.YtgkfgijmccojjaaDoorPx
import Derived.Test.YtgkfgijmccojjaaDoorSplitNew
import Derived.Test.YtgkfgijmccojjaaDoorMSplit
namespace Go.Proofs.YtgkfgijmccojjaaDoor.Split
open Go.RowKit
set_option linter.unusedVariables false
set_option linter.unusedSimpArgs false

def mc (s : St) (_ : Nat → Nat → Int) : MS := ⟨fun i => if i % 2 = 0 then s.xw (i / 2) else s.yw (i / 2), s.ln, fun p i => if i = 0 then s.row p else s.col p⟩
def Own (n : Nat) (s : St) (ow : Nat → Nat → Int) : Prop := True
theorem own_first (n : Nat) : Own n (first n) (fun _ _ => 0) := trivial
theorem splitFirst {w : World} {A : Nat → Prop} {n : Nat} {b : MB} (h : MBlk w A n (n * (n + 1)) 2 b (first1 fun _ => 0)) : MBlk w A n (n * (n + 1)) 2 b (mc (first n) (fun _ _ => 0)) :=
  ⟨h.w0, h.a0, h.o0, h.rW.eq (fun j hj => by simp [mc, first, first1]), h.rA.eq (fun j hj => by simp [mc, first, first1]), fun p hp => ⟨(h.rO p hp).1, (h.rO p hp).2.1, (h.rO p hp).2.2.1, (h.rO p hp).2.2.2.eq (fun j hj => by simp [mc, first, first1])⟩⟩
theorem mulN {n : Nat} (h1 : 1 ≤ n) (h4 : n ≤ 4) : wrap64 ((n : Int) * ((n : Int) + 1)) = ((n * (n + 1) : Nat) : Int) := by
  obtain rfl | rfl | rfl | rfl : n = 1 ∨ n = 2 ∨ n = 3 ∨ n = 4 := by omega
  all_goals decide +kernel
theorem twice {n K : Nat} (h1 : 1 ≤ n) (h4 : n ≤ 4) (h : K < n * (n + 1) / 2) : 2 * K + 1 < n * (n + 1) ∧ n * (n + 1) ≤ 1000 := by
  obtain rfl | rfl | rfl | rfl : n = 1 ∨ n = 2 ∨ n = 3 ∨ n = 4 := by omega
  all_goals omega
set_option maxHeartbeats 4000000 in
theorem m_any {w : World} {A : Nat → Prop} {n t p : Nat} {v : Value} {s : St} {ow : Nat → Nat → Int} (ho : Own n s ow) (hr : Reach n t s) (ht : t ≤ 400) (hp : p < n) (h : MRep w A n (n * (n + 1)) 2 v (mc s ow)) (hA : ∀ k, w.heap.size ≤ k → A k) :
    Calls Tryd.prog 46 #[v, .int .i64 p] w fun e w' => ∃ ow', Own n (stepN s p) ow' ∧ Next A n (n * (n + 1)) 2 (mc (stepN s p) ow') w e w' := by
  have hln := hr.fine hp
  have hn := hr.2.1
  obtain ⟨p0, p1, p2, p3⟩ := hr.place hp
  obtain ⟨K, hK⟩ : ∃ K : Nat, pl (s.row p) (s.col p) = K := ⟨_, rfl⟩
  rw [hK] at p3
  have hK2 := twice hr.1 hn p3
  have hK' : pl ((mc s ow).ow p 0) ((mc s ow).ow p 1) = K := hK
  have q0 : 0 ≤ (mc s ow).ow p 0 := p0
  have q1 : 0 ≤ (mc s ow).ow p 1 := p1
  have q2 : (mc s ow).ow p 0 + (mc s ow).ow p 1 ≤ 3 := p2
  have w0 : (mc s ow).wd (2 * K) = s.xw K := by simp [mc]
  have w1 : (mc s ow).wd (2 * K + 1) = s.yw K := by simp only [mc]; rw [if_neg (by omega), show (2 * K + 1) / 2 = K by omega]
  obtain hl | hl | hl | hl | hl : s.ln p = 1 ∨ s.ln p = 2 ∨ s.ln p = 3 ∨ s.ln p = 4 ∨ s.ln p = 5 := by omega
  · refine (MSplit.l1 h (by omega) hA hp hn hl hK' hK2.1 hK2.2 q0 q1 q2 ).mono ?_
    rintro e w' hN
    refine ⟨ow, trivial, hN.eq ?_ ?_ ?_⟩
    · intro i hi
      simp only [stepN, hl, to1, word1, own1, goes1, mc, hK, if_true, upd]
      by_cases e : i = 2 * K
      · subst e; simp
      · by_cases e2 : i % 2 = 0
        · have : ¬ i / 2 = K := by omega
          simp [e, e2, this]
        · simp [e, e2]
    · intro i _
      by_cases e : i = p
      · subst e; simp [stepN, hl, to1, word1, own1, goes1, mc, updR, upd, hK]
      · simp [stepN, hl, to1, word1, own1, goes1, mc, updR, upd, hK, e]
    · intro q hq i hi
      by_cases e : q = p
      · subst e; obtain rfl | rfl : i = 0 ∨ i = 1 := by omega
        all_goals simp [stepN, hl, to1, word1, own1, goes1, mc, updR, upd, hK]
      · simp [stepN, hl, to1, word1, own1, goes1, mc, updR, upd, hK, e]
  · by_cases h0 : s.yw K = 1
    · refine (MSplit.l21 h (by omega) hA hp hn hl hK' hK2.1 hK2.2 q0 q1 q2 (by rw [w1]; exact h0)).mono ?_
      rintro e w' hN
      refine ⟨ow, trivial, hN.eq ?_ ?_ ?_⟩
      · intro i hi; simp [stepN, hl, to1, word1, own1, goes1, mc, updR, upd, hK, h0]
      · intro i _
        by_cases e : i = p
        · subst e; simp [stepN, hl, to1, word1, own1, goes1, mc, updR, upd, hK, h0]
        · simp [stepN, hl, to1, word1, own1, goes1, mc, updR, upd, hK, h0, e]
      · intro q hq i hi
        by_cases e : q = p
        · subst e; obtain rfl | rfl : i = 0 ∨ i = 1 := by omega
          all_goals simp [stepN, hl, to1, word1, own1, goes1, mc, updR, upd, hK, h0]
        · simp [stepN, hl, to1, word1, own1, goes1, mc, updR, upd, hK, h0, e]
    · refine (MSplit.l20 h (by omega) hA hp hn hl hK' hK2.1 hK2.2 q0 q1 q2 (by rw [w1]; exact h0)).mono ?_
      rintro e w' hN
      refine ⟨ow, trivial, hN.eq ?_ ?_ ?_⟩
      · intro i hi; simp [stepN, hl, to1, word1, own1, goes1, mc, updR, upd, hK, h0]
      · intro i _
        by_cases e : i = p
        · subst e; simp [stepN, hl, to1, word1, own1, goes1, mc, updR, upd, hK, h0]
        · simp [stepN, hl, to1, word1, own1, goes1, mc, updR, upd, hK, h0, e]
      · intro q hq i hi
        by_cases e : q = p
        · subst e; obtain rfl | rfl : i = 0 ∨ i = 1 := by omega
          all_goals simp [stepN, hl, to1, word1, own1, goes1, mc, updR, upd, hK, h0]
        · simp [stepN, hl, to1, word1, own1, goes1, mc, updR, upd, hK, h0, e]
  · refine (MSplit.l3 h (by omega) hA hp hn hl hK' hK2.1 hK2.2 q0 q1 q2 ).mono ?_
    rintro e w' hN
    refine ⟨ow, trivial, hN.eq ?_ ?_ ?_⟩
    · intro i hi
      simp [stepN, hl, to1, word1, own1, goes1, mc, hK, upd]
      by_cases e : i = 2 * K + 1
      · subst e
        have e2 : (2 * K + 1) / 2 = K := by omega
        have e3 : ¬ (2 * K + 1) % 2 = 0 := by omega
        simp [e2, e3]
      · by_cases e2 : i % 2 = 0
        · simp [e, e2]
        · have : ¬ i / 2 = K := by omega
          simp [e, e2, this]
    · intro i _
      by_cases e : i = p
      · subst e; simp [stepN, hl, to1, word1, own1, goes1, mc, updR, upd, hK]
      · simp [stepN, hl, to1, word1, own1, goes1, mc, updR, upd, hK, e]
    · intro q hq i hi
      by_cases e : q = p
      · subst e; obtain rfl | rfl : i = 0 ∨ i = 1 := by omega
        all_goals simp [stepN, hl, to1, word1, own1, goes1, mc, updR, upd, hK]
      · simp [stepN, hl, to1, word1, own1, goes1, mc, updR, upd, hK, e]
  · by_cases h0 : s.xw K = (p : Int) + 1
    · refine (MSplit.l40 h (by omega) hA hp hn hl hK' hK2.1 hK2.2 q0 q1 q2 (by rw [w0]; exact h0)).mono ?_
      rintro e w' hN
      refine ⟨ow, trivial, hN.eq ?_ ?_ ?_⟩
      · intro i hi; simp [stepN, hl, to1, word1, own1, goes1, mc, updR, upd, hK, h0]
      · intro i _
        by_cases e : i = p
        · subst e; simp [stepN, hl, to1, word1, own1, goes1, mc, updR, upd, hK, h0]
        · simp [stepN, hl, to1, word1, own1, goes1, mc, updR, upd, hK, h0, e]
      · intro q hq i hi
        by_cases e : q = p
        · subst e; obtain rfl | rfl : i = 0 ∨ i = 1 := by omega
          all_goals simp [stepN, hl, to1, word1, own1, goes1, mc, updR, upd, hK, h0]
        · simp [stepN, hl, to1, word1, own1, goes1, mc, updR, upd, hK, h0, e]
    · refine (MSplit.l41 h (by omega) hA hp hn hl hK' hK2.1 hK2.2 q0 q1 q2 (by rw [w0]; exact h0)).mono ?_
      rintro e w' hN
      refine ⟨ow, trivial, hN.eq ?_ ?_ ?_⟩
      · intro i hi; simp [stepN, hl, to1, word1, own1, goes1, mc, updR, upd, hK, h0]
      · intro i _
        by_cases e : i = p
        · subst e; simp [stepN, hl, to1, word1, own1, goes1, mc, updR, upd, hK, h0]
        · simp [stepN, hl, to1, word1, own1, goes1, mc, updR, upd, hK, h0, e]
      · intro q hq i hi
        by_cases e : q = p
        · subst e; obtain rfl | rfl : i = 0 ∨ i = 1 := by omega
          all_goals simp [stepN, hl, to1, word1, own1, goes1, mc, updR, upd, hK, h0]
        · simp [stepN, hl, to1, word1, own1, goes1, mc, updR, upd, hK, h0, e]
  · refine (MSplit.l5 h (by omega) hA hp hn hl hK' hK2.1 hK2.2 q0 q1 q2 ).mono ?_
    rintro e w' hN
    refine ⟨ow, trivial, hN.eq ?_ ?_ ?_⟩
    · intro i hi; simp [stepN, hl, to1, word1, own1, goes1, mc, updR, upd, hK]
    · intro i _
      by_cases e : i = p
      · subst e; simp [stepN, hl, to1, word1, own1, goes1, mc, updR, upd, hK]
      · simp [stepN, hl, to1, word1, own1, goes1, mc, updR, upd, hK, e]
    · intro q hq i hi
      by_cases e : q = p
      · subst e; obtain rfl | rfl : i = 0 ∨ i = 1 := by omega
        all_goals simp [stepN, hl, to1, word1, own1, goes1, mc, updR, upd, hK]
      · simp [stepN, hl, to1, word1, own1, goes1, mc, updR, upd, hK, e]
theorem at_q {w : World} {n L : Nat} {fb : List Nat} {s : St} {p k : Int} {m m' : Nat} (hb : Rep w n L fb s) (hn : n ≤ 4) (hk : line n s p = k) :
    Calls Tryd.prog 49 #[.pointer (some ⟨L, 0, none⟩), .int .i64 p] (w.drewN (m + m')) fun e w'' => e = .returned (.int .i64 k) ∧ ∃ j, w'' = w.drewN (m + j) :=
  (at_of (w := w.drewN (m + m')) (hn := hn) (hb.keep (w' := w.drewN (m + m')) (fun x hx => rfl)) hk).mono fun _ _ h => ⟨h.1, m', h.2.symm⟩
theorem name_qq {w : World} {n L t : Nat} {fb : List Nat} {s : St} {p k : Int} {m m' : Nat} (hb : Rep w n L fb s) (hn : n ≤ 4) (hi : Reach n t s) (hk : name n s p = k) :
    Calls Tryd.prog 50 #[.pointer (some ⟨L, 0, none⟩), .int .i64 p] (w.drewN (m + m')) fun e w'' => e = .returned (.int .i64 k) ∧ ∃ j, w'' = w.drewN (m + j) :=
  (name_of (w := w.drewN (m + m')) (hb.keep (w' := w.drewN (m + m')) (fun x hx => rfl)) hn hi.2.2 hk).mono fun _ _ h => ⟨h.1, by obtain ⟨j, rfl⟩ := h.2; exact ⟨m' + j, by simp [Nat.add_assoc]⟩⟩
theorem place_qq {w : World} {r c : Int} {K m m' : Nat} (hK : pl r c = K) (h0 : 0 ≤ r) (h1 : 0 ≤ c) (h2 : r + c ≤ 3) :
    Calls Tryd.prog 48 #[.int .i64 r, .int .i64 c] (w.drewN (m + m')) fun e w'' => e = .returned (.int .i64 K) ∧ ∃ j, w'' = w.drewN (m + j) :=
  (MSplit.place_at hK h0 h1 h2).mono fun _ _ h => ⟨h.1, m', h.2.symm⟩

def PlaysRel (n L C T : Nat) (fb : List Nat) (w : World) (i : Value) (wr : World) : Prop :=
  ∃ (k : Nat) (s : St) (ow : Nat → Nat → Int) (b : MB), k ≤ 200 ∧ i = .int .i64 k ∧ Reach n k s ∧ Rep wr n L fb s ∧ Own n s ow ∧ Px w C T n (n * (n + 1)) 2 b (mc s ow) wr

set_option maxHeartbeats 8000000 in
set_option maxRecDepth 100000 in
theorem plays_walk (n : Nat) (hn1 : 1 ≤ n) (hn4 : n ≤ 4) (a0 : Option Addr) (len0 cap0 : Nat) (z0 : List Int) (w : World) (w0 : IsRow .i64 w a0 len0 cap0 z0) (hg : TypeLaid w) :
    Calls Tryd.prog 8 #[.int .i64 n, .slice a0 len0 cap0] w fun e w' => e = .returned (.bool true) ∧ Below w.heap.size w w' := by
  have hle := w0.le
  have hat := Lib.hid (w0.at)
  have HG := Lib.hid hg
  clear w0 hg
  unfold maxLen at hle
  have hnn : 0 ≤ (n : Int) := by omega
  have hnn4 : (n : Int) ≤ 4 := by omega
  have hnn1 : (1 : Int) ≤ n := by omega
  go_enter Tryd.func8, Tryd.ntmps8
  go_wp2_with fail
  refine (new_any n hn1 hn4 _).mono ?_
  rintro e w2 ⟨L, fb, rfl, hL, hbel0, hfb⟩
  have HR := Lib.hid hL
  have Hb0 := Lib.hid hbel0
  have Hfb : Hid (∀ k ∈ fb, w.heap.size ≤ k ∧ k < w2.heap.size) := hfb
  clear hfb hbel0 hL
  go_wp2_with fail
  have HNW : Hid (1 ≤ n * (n + 1) ∧ n * (n + 1) ≤ 1000) := by
    show 1 ≤ n * (n + 1) ∧ n * (n + 1) ≤ 1000
    obtain rfl | rfl | rfl | rfl : n = 1 ∨ n = 2 ∨ n = 3 ∨ n = 4 := by omega
    all_goals decide
  refine (zeros_any (n := n * (n + 1)) (by first | exact mulN hn1 hn4 | simp) HNW.out.2).mono ?_
  rintro e w3 ⟨gz, cz, rfl, hgz, hlz, hz, bz⟩
  have HZ := Lib.hid hz
  have Hgz := Lib.hid hgz
  have Hbz := Lib.hid bz
  clear hz hgz bz hlz
  go_wp2_with fail
  refine (mnew_any (A := fun k => w2.heap.size ≤ k) (n := n) (no := 2) rfl rfl HZ.out Hgz.out (fun k hk => Nat.le_trans Hbz.out.size hk) hn1 hn4 (by omega) HNW.out.1).mono ?_
  rintro e w4 ⟨_, rfl, ⟨b, rfl, hm⟩, hbel⟩
  have Hb4 : Hid (Below w2.heap.size w2 w4) := Hbz.out.trans (hbel.mono Hbz.out.size)
  have HP : Hid (Px w w2.heap.size w4.heap.size n (n * (n + 1)) 2 b (mc (first n) (fun _ _ => 0)) (w4.alloc (.cells #[.int .i64 n, .slice (some ⟨b.bW, 0, none⟩) (n * (n + 1)) b.cW, .slice (some ⟨b.bA, 0, none⟩) n b.cA, .slice (some ⟨b.bO, 0, none⟩) n b.cO] 27))) :=
    Px.start (w0 := w) (Hb0.out.trans (Hb4.out.mono Hb0.out.size)) Hb0.out.size Hb4.out.size (splitFirst hm) HNW.out.1 hn1
  replace HR : Hid (Rep (w4.alloc (.cells #[.int .i64 n, .slice (some ⟨b.bW, 0, none⟩) (n * (n + 1)) b.cW, .slice (some ⟨b.bA, 0, none⟩) n b.cA, .slice (some ⟨b.bO, 0, none⟩) n b.cO] 27)) n L fb (first n)) :=
    HR.out.keep (fun x hx => by rw [Below.heap_alloc _ _ _ (Nat.lt_of_lt_of_le (Hfb.out x hx).2 Hb4.out.size)]; exact Hb4.out.block x (Hfb.out x hx).2)
  unfold MB.val
  clear hm hbel
  go_wp2_with fail
  generalize w4.alloc (.cells #[.int .i64 n, .slice (some ⟨b.bW, 0, none⟩) (n * (n + 1)) b.cW, .slice (some ⟨b.bA, 0, none⟩) n b.cA, .slice (some ⟨b.bO, 0, none⟩) n b.cO] 27) = w5 at HP HR ⊢
  generalize w4.heap.size = T at HP ⊢
  clear Hb4 Hb0 HZ Hgz Hbz
  generalize w2.heap.size = C at HP Hfb
  go_loopw [8] (fun i wr => PlaysRel n L C T fb w i wr) (fun i _ => 200 - (intOf i).toNat)
  case atStart => exact ⟨0, first n, _, b, by omega, rfl, Reach.first n hn1 hn4, HR.out, own_first n, HP.out⟩
  case round =>
    clear HP HR
    obtain ⟨k, s, ow, b, hk, rfl, hf, hR, hO, hP⟩ := hrel
    have HR := Lib.hid hR
    have HP := Lib.hid hP
    have HO := Lib.hid hO
    have HF := Lib.hid hf
    clear hR hP hO hf
    by_cases hlt : k < len0 ∧ k < 200
    · obtain ⟨hk1, hk2⟩ := hlt
      obtain ⟨bb, off, p, rfl, hb0, hc, -, -⟩ := hat.out k hk1
      have hc' : wr.cell? ⟨bb, off + k, none⟩ = some (.int .i64 p) := by
        rw [HP.out.bel.cell (p := ⟨bb, off + k, none⟩) hb0]; exact hc
      clear hat hc hb0
      by_cases hp : 0 ≤ p ∧ p < n
      · obtain ⟨p, rfl⟩ := Int.eq_ofNat_of_zero_le hp.1
        have hpn : p < n := by omega
        have htold := told_nil (n := n) hpn
        have hst : step n s (p : Int) = stepN s p := step_nat s hpn
        have HFn : Hid (Reach n (k + 1) (stepN s p)) := hst ▸ HF.out.step p
        have d0 := HP.out.c0
        have d1 := HP.out.c1
        have d2 := HP.out.c2
        have d3 := HP.out.c3
        have Htold := Lib.hid htold
        have Hst := Lib.hid hst
        clear htold hst
        go_wp2_with fail
        refine (inS_yes hp.1 (by omega)).mono ?_
        rintro e wi ⟨rfl, rfl⟩
        go_wp2_with fail
        refine (m_any HO.out HF.out (by omega) hpn ⟨b, rfl, HP.out.mach⟩ HP.out.new).mono ?_
        rintro e w1 ⟨ow2, hO2, _, rfl, ⟨b2, rfl, hm2⟩, hbel⟩
        replace HR := Lib.hid (HR.out.keep (fun x hx => hbel.block x (Nat.lt_of_lt_of_le (Hfb.out x hx).2 (by have := HP.out.lt; omega))))
        replace HP := Lib.hid (HP.out.below hbel)
        replace HO := Lib.hid hO2
        have d0 := HP.out.c0
        have d1 := HP.out.c1
        have d2 := HP.out.c2
        have d3 := HP.out.c3
        have f0 := HP.out.f 0
        have f1 := HP.out.f 1
        have f2 := HP.out.f 2
        have f3 := HP.out.f 3
        unfold MB.val
        clear hbel hO2
        go_wp2_with fail
        replace HR : Hid (Rep ((((w1.setCell ⟨T, 0, none⟩ (.int .i64 n)).setCell ⟨T, 1, none⟩ (.slice (some ⟨b2.bW, 0, none⟩) (n * (n + 1)) b2.cW)).setCell ⟨T, 2, none⟩ (.slice (some ⟨b2.bA, 0, none⟩) n b2.cA)).setCell ⟨T, 3, none⟩ (.slice (some ⟨b2.bO, 0, none⟩) n b2.cO)) n L fb s) :=
          HR.out.keep (fun x hx => by
            have hne : T ≠ x := by have := HP.out.lt; have := (Hfb.out x hx).2; omega
            rw [Below.heap_setCell _ _ _ _ (by intro e; first | exact hne e | exact hne e.symm), Below.heap_setCell _ _ _ _ (by intro e; first | exact hne e | exact hne e.symm), Below.heap_setCell _ _ _ _ (by intro e; first | exact hne e | exact hne e.symm), Below.heap_setCell _ _ _ _ (by intro e; first | exact hne e | exact hne e.symm)])
        replace HP := Lib.hid (HP.out.rebox hm2)
        have b := b2
        clear hm2 d0 d1 d2 d3 f0 f1 f2 f3
        generalize ((((w1.setCell ⟨T, 0, none⟩ (.int .i64 n)).setCell ⟨T, 1, none⟩ (.slice (some ⟨b2.bW, 0, none⟩) (n * (n + 1)) b2.cW)).setCell ⟨T, 2, none⟩ (.slice (some ⟨b2.bA, 0, none⟩) n b2.cA)).setCell ⟨T, 3, none⟩ (.slice (some ⟨b2.bO, 0, none⟩) n b2.cO)) = wv at HP HR ⊢
        refine (step_of (n := n) (fb := fb) HR.out HF.out Htold.out Hst.out).mono ?_
        rintro e w1' ⟨rfl, hb1, ho1⟩
        replace HP := Lib.hid (HP.out.only ho1.grow Hfb.out)
        replace HR := Lib.hid hb1
        clear hb1 ho1
        go_wp2_with fail
        refine (error_nil _).mono ?_
        rintro e wz ⟨rfl, hbel⟩
        replace HR := Lib.hid (HR.out.keep (fun x hx => hbel.block x (Nat.lt_of_lt_of_le (Hfb.out x hx).2 (by have := HP.out.lt; omega))))
        replace HP := Lib.hid (HP.out.below hbel)
        clear hbel
        go_wp2_with fail
        go_loopw [11] (fun q wr => ∃ j mm : Nat, j ≤ n ∧ q = .int .i64 j ∧ wr = wz.drewN mm) (fun q _ => n - (intOf q).toNat)
        case atStart => exact ⟨0, 0, by omega, rfl, rfl⟩
        case round =>
          obtain ⟨j, mm, hj, rfl, rfl⟩ := hrel
          by_cases hj2 : j < n
          · have a2 := HP.out.c2
            have a3 := HP.out.c3
            have aL : wz.cell? ⟨b2.bA, j, none⟩ = some (.int .i64 ((stepN s p).ln j)) := HP.out.mach.line j hj2
            have aR := HP.out.mach.row j hj2
            have aN : wz.cell? ⟨b2.ob j, 0, none⟩ = some (.int .i64 ((stepN s p).row j)) := HP.out.mach.num j 0 hj2 (by omega)
            have aM : wz.cell? ⟨b2.ob j, 1, none⟩ = some (.int .i64 ((stepN s p).col j)) := HP.out.mach.num j 1 hj2 (by omega)
            have hpl3 := HFn.out.place hj2
            have hpl : 0 ≤ (stepN s p).row j ∧ 0 ≤ (stepN s p).col j ∧ (stepN s p).row j + (stepN s p).col j ≤ 3 := ⟨hpl3.1, hpl3.2.1, hpl3.2.2.1⟩
            obtain ⟨K, hK⟩ : ∃ K : Nat, pl ((stepN s p).row j) ((stepN s p).col j) = K := ⟨_, rfl⟩
            have Hlj : Hid (line n (stepN s p) (j : Int) = (stepN s p).ln j) := line_nat _ hj2
            have hjn : (j : Int) < n := by omega
            clear hpl3
            by_cases h5 : (stepN s p).ln j = 5
            · have hnm : name n (stepN s p) (j : Int) = (K : Int) := by unfold name; rw [if_pos (Hlj.out.trans h5)]; exact congrArg _ hK
              have Hnm := Lib.hid hnm
              have Hpl := Lib.hid hpl
              have HK := Lib.hid hK
              have t5 : ((stepN s p).ln j == 5) = true := by simp [h5]
              have e1 : ((K : Int) != (K : Int)) = false := by simp
              clear hnm hpl hK h5
              generalize (stepN s p).ln j = X at *
              have e0 : (X != X) = false := by simp
              go_wp2_with fail
              go_quiet ((go_at_call 48; exact place_qq HK.out Hpl.out.1 Hpl.out.2.1 Hpl.out.2.2))
              go_wp2_with fail
              go_quiet (first | (go_at_call 49; exact at_q HR.out hn4 Hlj.out) | (go_at_call 50; exact name_qq HR.out hn4 HFn.out Hnm.out))
              go_wp2_with fail
              go_roundw
              case rel => exact ⟨j + 1, _, by omega, by go_num, rfl⟩
              case measure => simp [intOf]; omega
            · have hnm : name n (stepN s p) (j : Int) = -1 := by unfold name; rw [if_neg (by rw [Hlj.out]; exact h5)]
              have Hnm := Lib.hid hnm
              have t5 : ((stepN s p).ln j == 5) = false := by simp [h5]
              clear hnm hpl hK h5
              generalize (stepN s p).ln j = X at *
              have e0 : (X != X) = false := by simp
              go_wp2_with fail
              go_quiet (first | (go_at_call 49; exact at_q HR.out hn4 Hlj.out) | (go_at_call 50; exact name_qq HR.out hn4 HFn.out Hnm.out))
              go_wp2_with fail
              go_roundw
              case rel => exact ⟨j + 1, mm + nq, by omega, by go_num, rfl⟩
              case measure => simp [intOf]; omega
          · go_wp2_with fail
            go_roundw
            case rel => exact ⟨k + 1, stepN s p, ow2, b2, by omega, by go_num, HFn.out, HR.out.keep (fun x hx => rfl), HO.out, HP.out.drewN mm⟩
            case measure => simp [intOf]; omega
      · have htold : told n p = .iface 77 (.int .i64 1) := by unfold told; rw [if_neg hp]
        have hst : step n s p = s := by unfold step; rw [if_neg hp]
        have HFn : Hid (Reach n (k + 1) s) := hst ▸ HF.out.step p
        have Htold := Lib.hid htold
        have Hst := Lib.hid hst
        have d0 := HP.out.c0
        have d1 := HP.out.c1
        have d2 := HP.out.c2
        have d3 := HP.out.c3
        clear htold hst
        go_wp2_with fail
        refine (inS_no (by omega)).mono ?_
        rintro e wi ⟨rfl, rfl⟩
        clear d0 d1 d2 d3
        go_wp2_with fail
        refine (step_of (n := n) (fb := fb) HR.out HF.out Htold.out Hst.out).mono ?_
        rintro e w1' ⟨rfl, hb1, ho1⟩
        replace HP := Lib.hid (HP.out.only ho1.grow Hfb.out)
        replace HR := Lib.hid hb1
        clear hb1 ho1
        go_wp2_with fail
        refine (error_one _ (HP.out.laid HG.out)).mono ?_
        rintro e wz ⟨rfl, hbel⟩
        replace HR := Lib.hid (HR.out.keep (fun x hx => hbel.block x (Nat.lt_of_lt_of_le (Hfb.out x hx).2 (by have := HP.out.lt; omega))))
        replace HP := Lib.hid (HP.out.below hbel)
        clear hbel
        go_wp2_with fail
        go_loopw [11] (fun q wr => ∃ j mm : Nat, j ≤ n ∧ q = .int .i64 j ∧ wr = wz.drewN mm) (fun q _ => n - (intOf q).toNat)
        case atStart => exact ⟨0, 0, by omega, rfl, rfl⟩
        case round =>
          obtain ⟨j, mm, hj, rfl, rfl⟩ := hrel
          by_cases hj2 : j < n
          · have a2 := HP.out.c2
            have a3 := HP.out.c3
            have aL : wz.cell? ⟨b.bA, j, none⟩ = some (.int .i64 ((s).ln j)) := HP.out.mach.line j hj2
            have aR := HP.out.mach.row j hj2
            have aN : wz.cell? ⟨b.ob j, 0, none⟩ = some (.int .i64 ((s).row j)) := HP.out.mach.num j 0 hj2 (by omega)
            have aM : wz.cell? ⟨b.ob j, 1, none⟩ = some (.int .i64 ((s).col j)) := HP.out.mach.num j 1 hj2 (by omega)
            have hpl3 := HFn.out.place hj2
            have hpl : 0 ≤ (s).row j ∧ 0 ≤ (s).col j ∧ (s).row j + (s).col j ≤ 3 := ⟨hpl3.1, hpl3.2.1, hpl3.2.2.1⟩
            obtain ⟨K, hK⟩ : ∃ K : Nat, pl ((s).row j) ((s).col j) = K := ⟨_, rfl⟩
            have Hlj : Hid (line n (s) (j : Int) = (s).ln j) := line_nat _ hj2
            have hjn : (j : Int) < n := by omega
            clear hpl3
            by_cases h5 : (s).ln j = 5
            · have hnm : name n (s) (j : Int) = (K : Int) := by unfold name; rw [if_pos (Hlj.out.trans h5)]; exact congrArg _ hK
              have Hnm := Lib.hid hnm
              have Hpl := Lib.hid hpl
              have HK := Lib.hid hK
              have t5 : ((s).ln j == 5) = true := by simp [h5]
              have e1 : ((K : Int) != (K : Int)) = false := by simp
              clear hnm hpl hK h5
              generalize (s).ln j = X at *
              have e0 : (X != X) = false := by simp
              go_wp2_with fail
              go_quiet ((go_at_call 48; exact place_qq HK.out Hpl.out.1 Hpl.out.2.1 Hpl.out.2.2))
              go_wp2_with fail
              go_quiet (first | (go_at_call 49; exact at_q HR.out hn4 Hlj.out) | (go_at_call 50; exact name_qq HR.out hn4 HFn.out Hnm.out))
              go_wp2_with fail
              go_roundw
              case rel => exact ⟨j + 1, _, by omega, by go_num, rfl⟩
              case measure => simp [intOf]; omega
            · have hnm : name n (s) (j : Int) = -1 := by unfold name; rw [if_neg (by rw [Hlj.out]; exact h5)]
              have Hnm := Lib.hid hnm
              have t5 : ((s).ln j == 5) = false := by simp [h5]
              clear hnm hpl hK h5
              generalize (s).ln j = X at *
              have e0 : (X != X) = false := by simp
              go_wp2_with fail
              go_quiet (first | (go_at_call 49; exact at_q HR.out hn4 Hlj.out) | (go_at_call 50; exact name_qq HR.out hn4 HFn.out Hnm.out))
              go_wp2_with fail
              go_roundw
              case rel => exact ⟨j + 1, mm + nq, by omega, by go_num, rfl⟩
              case measure => simp [intOf]; omega
          · go_wp2_with fail
            go_roundw
            case rel => exact ⟨k + 1, s, ow, b, by omega, by go_num, HFn.out, HR.out.keep (fun x hx => rfl), HO.out, HP.out.drewN mm⟩
            case measure => simp [intOf]; omega
    · clear hat
      go_wp2_with fail
      all_goals
        refine (at_of (hn := hn4) (p := -1) (k := 0) HR.out (by unfold line; rw [if_neg (by omega)])).mono ?_
        rintro e wi ⟨rfl, rfl⟩
        go_wp2_with fail
        refine (name_of (p := n) (k := -1) HR.out hn4 HF.out.2.2 (by unfold name line; rw [if_neg (by rw [if_neg (by omega)]; omega)])).mono ?_
        rintro e wi ⟨rfl, kk, rfl⟩
        go_wp2_with fail
        go_ret
        exact ⟨rfl, (HP.out.drewN kk).bel⟩

set_option maxRecDepth 100000 in
theorem plays_bad (n : Int) (h : n < 1 ∨ 4 < n) (v : Value) (w : World) (hg : TypeLaid w) :
    Calls Tryd.prog 8 #[.int .i64 n, v] w fun e w' => e = .returned (.bool true) ∧ Below w.heap.size w w' := by
  have HG := Lib.hid hg
  have hd : n < 1 ∨ (1 ≤ n ∧ 4 < n) := by omega
  have HN := Lib.hid h
  clear h hg
  go_enter Tryd.func8, Tryd.ntmps8
  go_wp2_with fail
  refine (new_no _ HN.out _).mono ?_
  rintro e w2 ⟨rfl, rfl⟩
  rcases hd with hd | ⟨hd, hd2⟩
  · go_wp2_with fail
    refine (error_one _ HG.out).mono ?_
    rintro e w3 ⟨rfl, hb⟩
    go_wp2_with fail
    go_ret
    exact ⟨rfl, hb⟩
  · go_wp2_with fail
    refine (error_one _ HG.out).mono ?_
    rintro e w3 ⟨rfl, hb⟩
    go_wp2_with fail
    go_ret
    exact ⟨rfl, hb⟩

theorem plays_any (n : Int) (a0 : Option Addr) (len0 cap0 : Nat) (z0 : List Int) (w : World) (w0 : IsRow .i64 w a0 len0 cap0 z0) (hg : TypeLaid w) :
    Calls Tryd.prog 8 #[.int .i64 n, .slice a0 len0 cap0] w fun e w' => e = .returned (.bool true) ∧ Below w.heap.size w w' := by
  by_cases h : 1 ≤ n ∧ n ≤ 4
  · obtain ⟨m, rfl⟩ := Int.eq_ofNat_of_zero_le (show 0 ≤ n by omega)
    exact plays_walk m (by omega) (by omega) a0 len0 cap0 z0 w w0 hg
  · exact plays_bad n (by omega) _ w hg
end Go.Proofs.YtgkfgijmccojjaaDoor.Split
