import Derived.Test.YtmkgaophojhfjaaFilterPlain
namespace Go.Proofs.Ytmkgaophojhfjaa.Filter
set_option linter.unusedVariables false

/-- What a line of a hand does to that hand. -/
inductive Move (n : Nat) (s t : St) (p : Nat) : Prop
  | one (a : s.ln p = 1) (b : t.ln p = 2) (c : t.dr p = s.dr p) (d : t.wd p = s.dr p) (e : t.kk p = s.kk p)
  | two (a : s.ln p = 2) (b : t.ln p = 3) (c : t.dr p = s.dr p) (d : t.wd p = s.wd p) (e : t.kk p = s.kk p) (v : t.wd (vx n (s.dr p)) = p + 1)
  | three (a : s.ln p = 3) (b : t.ln p = 4) (c : t.dr p = s.dr p) (d : t.wd p = s.wd p) (e : t.kk p = s.kk p) (v : s.wd (vx n (s.dr p)) = p + 1)
  | back (a : s.ln p = 4) (b : t.ln p = 3) (c : t.dr p = s.dr p) (d : t.wd p = s.wd p) (e : t.kk p = 0) (v : s.kk p ≠ p ∧ s.dr p ≤ s.wd (s.kk p).toNat)
  | on (a : s.ln p = 4) (b : t.ln p = 4) (c : t.dr p = s.dr p) (d : t.wd p = s.wd p) (e : t.kk p = s.kk p + 1) (f : s.kk p + 1 < n)
  | thru (a : s.ln p = 3 ∧ s.wd (vx n (s.dr p)) ≠ p + 1 ∨ s.ln p = 4) (b : t.ln p = if s.dr p + 1 ≥ n then 5 else 1) (c : t.dr p = s.dr p + 1) (d : t.wd p = s.wd p) (e : t.kk p = 0)
  | five (a : s.ln p = 5) (b : t.ln p = 6) (c : t.dr p = s.dr p) (d : t.wd p = s.wd p) (e : t.kk p = s.kk p)
  | six (a : s.ln p = 6) (b : t.ln p = 1) (c : t.dr p = 1) (d : t.wd p = 0) (e : t.kk p = 0)
/-- What it does to the rest. -/
structure Rest (n : Nat) (s t : St) (p : Nat) : Prop where
  ln : ∀ g, g ≠ p → t.ln g = s.ln g
  dr : ∀ g, g ≠ p → t.dr g = s.dr g
  kk : ∀ g, g ≠ p → t.kk g = s.kk g
  wd : ∀ g, g < n → g ≠ p → t.wd g = s.wd g
  vv : ∀ j : Int, 1 ≤ j → (s.ln p = 2 → vx n j ≠ vx n (s.dr p)) → t.wd (vx n j) = s.wd (vx n j)

theorem vx_ge {n : Nat} {j : Int} (h1 : 1 ≤ n) (h : 1 ≤ j) : n ≤ vx n j := by unfold vx; omega

theorem moves {n : Nat} {s : St} (h : Inv n s) (hn : 1 ≤ n) {p : Nat} (hp : p < n) : Rest n s (stepN n s p) p ∧ Move n s (stepN n s p) p := by
  have hl := h.ln p hp
  have hd := h.dr p hp
  have hk := h.kk p hp
  have hdv := vx_ge (n := n) (j := s.dr p) hn hd.1
  have hcase : s.ln p = 1 ∨ s.ln p = 2 ∨ (s.ln p = 3 ∧ s.wd (vx n (s.dr p)) = p + 1) ∨ (s.ln p = 3 ∧ s.wd (vx n (s.dr p)) ≠ p + 1) ∨
      (s.ln p = 4 ∧ s.kk p ≠ p ∧ s.dr p ≤ s.wd (s.kk p).toNat) ∨ (s.ln p = 4 ∧ ¬ (s.kk p ≠ p ∧ s.dr p ≤ s.wd (s.kk p).toNat) ∧ s.kk p + 1 = n) ∨
      (s.ln p = 4 ∧ ¬ (s.kk p ≠ p ∧ s.dr p ≤ s.wd (s.kk p).toNat) ∧ s.kk p + 1 ≠ n) ∨ s.ln p = 5 ∨ s.ln p = 6 := by
    by_cases c1 : s.wd (vx n (s.dr p)) = p + 1 <;> by_cases c2 : s.kk p ≠ p ∧ s.dr p ≤ s.wd (s.kk p).toNat <;> by_cases c3 : s.kk p + 1 = n <;> omega
  rcases hcase with e | e | ⟨e, e1⟩ | ⟨e, e1⟩ | ⟨e, e1⟩ | ⟨e, e1, e2⟩ | ⟨e, e1, e2⟩ | e | e
  · have hst : stepN n s p = { s with wd := upd s.wd p (s.dr p), ln := upd s.ln p 2 } := by simp [stepN, e]
    rw [hst]
    exact ⟨⟨fun g c => upd_other c, fun g c => rfl, fun g c => rfl, fun g _ c => upd_other c, fun j hj _ => upd_other (by have := vx_ge (n := n) hn hj; omega)⟩, .one e (upd_same _ _ _) rfl (upd_same _ _ _) rfl⟩
  · have hst : stepN n s p = { s with wd := upd s.wd (vx n (s.dr p)) (p + 1), ln := upd s.ln p 3 } := by simp [stepN, e]
    rw [hst]
    exact ⟨⟨fun g c => upd_other c, fun g c => rfl, fun g c => rfl, fun g hg c => upd_other (by omega), fun j hj x => upd_other (x e)⟩, .two e (upd_same _ _ _) rfl (upd_other (by omega)) rfl (upd_same _ _ _)⟩
  · have hst : stepN n s p = { s with ln := upd s.ln p 4 } := by simp [stepN, e, e1]
    rw [hst]
    exact ⟨⟨fun g c => upd_other c, fun g c => rfl, fun g c => rfl, fun g hg c => rfl, fun j hj x => rfl⟩, .three e (upd_same _ _ _) rfl rfl rfl e1⟩
  · have hst : stepN n s p = pass n s p := by simp [stepN, e, e1]
    rw [hst]
    exact ⟨⟨fun g c => upd_other c, fun g c => upd_other c, fun g c => upd_other c, fun g hg c => rfl, fun j hj x => rfl⟩, .thru (.inl ⟨e, e1⟩) (upd_same _ _ _) (upd_same _ _ _) rfl (upd_same _ _ _)⟩
  · have hst : stepN n s p = { s with ln := upd s.ln p 3, kk := upd s.kk p 0 } := by simp [stepN, e, e1.1, e1.2]
    rw [hst]
    exact ⟨⟨fun g c => upd_other c, fun g c => rfl, fun g c => upd_other c, fun g hg c => rfl, fun j hj x => rfl⟩, .back e (upd_same _ _ _) rfl rfl (upd_same _ _ _) e1⟩
  · have hst : stepN n s p = pass n s p := by simp only [stepN, e]; rw [if_neg (by decide), if_neg (by decide), if_neg (by decide), if_pos trivial, if_neg e1, if_pos e2]
    rw [hst]
    exact ⟨⟨fun g c => upd_other c, fun g c => upd_other c, fun g c => upd_other c, fun g hg c => rfl, fun j hj x => rfl⟩, .thru (.inr e) (upd_same _ _ _) (upd_same _ _ _) rfl (upd_same _ _ _)⟩
  · have hst : stepN n s p = { s with kk := upd s.kk p (s.kk p + 1) } := by simp only [stepN, e]; rw [if_neg (by decide), if_neg (by decide), if_neg (by decide), if_pos trivial, if_neg e1, if_neg e2]
    rw [hst]
    exact ⟨⟨fun g c => rfl, fun g c => rfl, fun g c => upd_other c, fun g hg c => rfl, fun j hj x => rfl⟩, .on e e rfl rfl (upd_same _ _ _) (by omega)⟩
  · have hst : stepN n s p = { s with ln := upd s.ln p 6 } := by simp [stepN, e]
    rw [hst]
    exact ⟨⟨fun g c => upd_other c, fun g c => rfl, fun g c => rfl, fun g hg c => rfl, fun j hj x => rfl⟩, .five e (upd_same _ _ _) rfl rfl rfl⟩
  · have hst : stepN n s p = { s with wd := upd s.wd p 0, ln := upd s.ln p 1, dr := upd s.dr p 1, kk := upd s.kk p 0 } := by simp [stepN, e]
    rw [hst]
    exact ⟨⟨fun g c => upd_other c, fun g c => upd_other c, fun g c => upd_other c, fun g hg c => upd_other c, fun j hj x => upd_other (by have := vx_ge (n := n) hn hj; omega)⟩, .six e (upd_same _ _ _) (upd_same _ _ _) (upd_same _ _ _) (upd_same _ _ _)⟩

/-- A hand that does not guard its door does not mind who is there. -/
theorem rho_free {n : Nat} {s t : St} {q : Nat} (hl : t.ln q = s.ln q) (hd : t.dr q = s.dr q) (hk : t.kk q = s.kk q) (hv : t.wd (vx n (s.dr q)) = s.wd (vx n (s.dr q))) (hw : s.wd (vx n (s.dr q)) ≠ q + 1) : rho n t q = rho n s q := by
  unfold rho loc; rw [hl, hd, hk, hv, if_pos hw, if_pos hw]

/-- The sum of all that stand at p's door or beyond falls. -/
theorem sig_lt {n : Nat} {s t : St} {p g o : Nat} {d c : Int} (hgn : g < n) (hgp : g ≠ p) (hdg : d ≤ s.wd g) (hwd : ∀ i, i < n → i ≠ g → t.wd i = s.wd i)
    (hi : ∀ i, i < n → i ≠ g → i ≠ p → d ≤ s.wd i → rho n t i ≤ rho n s i + (if i = o then c else 0)) (hc : 0 ≤ c) (hg : (if t.wd g < d then 0 else rho n t g) + c < rho n s g) : sig n t p d < sig n s p d := by
  unfold sig
  refine sumTo_two (o := o) (c := c) hgn (fun i h1 h2 => ?_) hc ?_
  · show (if i = p ∨ t.wd i < d then 0 else rho n t i) ≤ (if i = p ∨ s.wd i < d then 0 else rho n s i) + _
    rw [hwd i h1 h2]
    by_cases e : i = p ∨ s.wd i < d
    · rw [if_pos e, if_pos e]; split <;> omega
    · rw [if_neg e, if_neg e]; exact hi i h1 h2 (fun x => e (.inl x)) (by omega)
  · show (if g = p ∨ t.wd g < d then 0 else rho n t g) + c < (if g = p ∨ s.wd g < d then 0 else rho n s g)
    rw [if_neg (show ¬ (g = p ∨ s.wd g < d) by omega)]
    by_cases e : t.wd g < d
    · rw [if_pos (.inr e)]; rw [if_pos e] at hg; exact hg
    · rw [if_neg (show ¬ (g = p ∨ t.wd g < d) by omega)]; rw [if_neg e] at hg; exact hg
theorem sig_eq {n : Nat} {s t : St} {p : Nat} {d : Int} (hwd : ∀ i, i < n → i ≠ p → (t.wd i < d ↔ s.wd i < d)) (hi : ∀ i, i < n → i ≠ p → d ≤ s.wd i → rho n t i = rho n s i) : sig n t p d = sig n s p d := by
  unfold sig
  refine sumTo_congr (fun i h1 => ?_)
  by_cases e0 : i = p
  · simp [e0]
  · by_cases e : s.wd i < d
    · rw [if_pos (.inr ((hwd i h1 e0).2 e)), if_pos (.inr e)]
    · have e' : ¬ t.wd i < d := fun x => e ((hwd i h1 e0).1 x)
      rw [if_neg (by simp [e0]; omega), if_neg (by simp [e0]; omega)]
      exact hi i h1 e0 (by omega)

/-- Of those at p's door or beyond somebody surely goes on. -/
theorem act_some {n : Nat} {s : St} (h : Inv n s) (hn : 1 ≤ n) {p : Nat} (hp : p < n) (hl : s.ln p = 3 ∨ s.ln p = 4) (hv : s.wd (vx n (s.dr p)) = p + 1) (hw : waits n s p = true) : ∃ q, q < n ∧ act n s p q = true := by
  apply Classical.byContradiction
  intro hno
  have hd := h.dr p hp
  have hall : ∀ q, q < n → q ≠ p → s.dr p ≤ s.wd q → (s.ln q = 3 ∨ s.ln q = 4) ∧ s.wd (vx n (s.dr q)) = q + 1 ∧ waits n s q = true := by
    intro q hq hqp hdq
    have : act n s p q = false := by
      cases c : act n s p q with
      | false => rfl
      | true => exact absurd ⟨q, hq, c⟩ hno
    simp only [act, hqp, hdq, ne_eq, not_false_eq_true, decide_true, Bool.true_and, Bool.not_eq_false', Bool.and_eq_true, Bool.or_eq_true, decide_eq_true_eq] at this
    exact ⟨this.1.1, this.1.2, this.2⟩
  have key : ∀ k : Nat, ∀ q, q < n → q ≠ p → s.dr p ≤ s.wd q → s.dr q + k = n → False := by
    intro k
    induction k using Nat.strongRecOn with
    | ind k ih =>
      intro q hq hqp hdq hk
      obtain ⟨h1, h2, h3⟩ := hall q hq hqp hdq
      have hdrq := h.dr q hq
      have hwq := h.wl q hq
      rw [if_neg (by omega)] at hwq
      obtain ⟨r, hr, hrq, hrw⟩ := waits_iff.1 h3
      by_cases hrp : r = p
      · subst hrp
        have hwp := h.wl r hr
        rw [if_neg (by omega)] at hwp
        have e : s.dr q = s.dr r := by omega
        rw [e, hv] at h2; omega
      · obtain ⟨g1, g2, g3⟩ := hall r hr hrp (by omega)
        have hdrr := h.dr r hr
        have hwr := h.wl r hr
        rw [if_neg (by omega)] at hwr
        by_cases e : s.dr r = s.dr q
        · rw [e, h2] at g2; omega
        · have : s.dr r < n := by omega
          exact ih (k - (s.dr r - s.dr q).toNat) (by omega) r hr hrp (by omega) (by omega)
  obtain ⟨r, hr, hrp, hrw⟩ := waits_iff.1 hw
  have hdr := h.dr r hr
  obtain ⟨g1, -, -⟩ := hall r hr hrp (by omega)
  exact key (n - s.dr r).toNat r hr hrp hrw (by omega)

/-- The last part of the measure: how far p is from passing its door, which it guards, when nobody comes. -/
noncomputable def term (n p : Nat) (s : St) : Int := if waits n s p = true then (n : Int) + 2 else if s.ln p = 4 then (n : Int) - s.kk p else (n : Int) + 1
theorem vee_gu {n p : Nat} {s : St} (hl : s.ln p = 3 ∨ s.ln p = 4) (hv : s.wd (vx n (s.dr p)) = p + 1) :
    vee n p s = base n (ahead n (s.dr p)) + (if 0 < cnt (chal s p) n then n + 1 + (n - cnt (chal s p) n) else 2 * n + sig n s p (s.dr p) + term n p s) := by
  unfold vee term
  rw [if_neg (by omega), if_neg (by omega), if_neg (by omega), if_neg (by omega), if_neg (by simp [hv])]
theorem vee_no {n p : Nat} {s : St} (hl : s.ln p = 3 ∨ s.ln p = 4) (hv : s.wd (vx n (s.dr p)) ≠ p + 1) :
    vee n p s = base n (ahead n (s.dr p)) + (if s.ln p = 4 then n - s.kk p + 1 else 1) := by
  unfold vee
  rw [if_neg (by omega), if_neg (by omega), if_neg (by omega), if_neg (by omega), if_pos hv]
theorem vee_1 {n p : Nat} {s : St} (hl : s.ln p = 1) : vee n p s = base n (ahead n (s.dr p)) + most n (ahead n (s.dr p)) := by
  unfold vee; rw [if_neg (by omega), if_neg (by omega), if_pos hl]
theorem vee_2 {n p : Nat} {s : St} (hl : s.ln p = 2) : vee n p s = base n (ahead n (s.dr p)) + (most n (ahead n (s.dr p)) - 1) := by
  unfold vee; rw [if_neg (by omega), if_neg (by omega), if_neg (by omega), if_pos hl]
theorem vee_5 {n p : Nat} {s : St} (hl : s.ln p = 5) : vee n p s = base n (ahead n 0) + 2 := by
  unfold vee; rw [if_pos hl]
theorem vee_6 {n p : Nat} {s : St} (hl : s.ln p = 6) : vee n p s = base n (ahead n 0) + 1 := by
  unfold vee; rw [if_neg (by omega), if_pos hl]
theorem who_gu {n p : Nat} {s : St} (hl : s.ln p = 3 ∨ s.ln p = 4) (hv : s.wd (vx n (s.dr p)) = p + 1) :
    who n p s = if 0 < cnt (chal s p) n then pick (chal s p) p n else if waits n s p = true then pick (act n s p) p n else p := by
  unfold who; rw [if_pos ⟨hl, hv⟩]
theorem who_no {n p : Nat} {s : St} (h : ¬ ((s.ln p = 3 ∨ s.ln p = 4) ∧ s.wd (vx n (s.dr p)) = p + 1)) : who n p s = p := by
  unfold who; rw [if_neg h]
theorem term_bd {n p : Nat} {s : St} (h : Inv n s) (hp : p < n) : 1 ≤ term n p s ∧ term n p s ≤ n + 2 := by
  have := h.kk p hp
  unfold term
  repeat' split
  all_goals omega
/-- The measure behind a door that was passed. -/
theorem vee_thru {n p : Nat} {s t : St} (h : Inv n s) (hn : 1 ≤ n) (hp : p < n) (hl : s.ln p = 3 ∨ s.ln p = 4) (b : t.ln p = if s.dr p + 1 ≥ n then 5 else 1) (c : t.dr p = s.dr p + 1) :
    t.ln p = 5 ∨ vee n p t ≤ base n (ahead n (s.dr p)) := by
  by_cases e : s.dr p + 1 ≥ n
  · left; rw [b, if_pos e]
  · right
    rw [if_neg e] at b
    rw [vee_1 b, c, ahead_succ (n := n) (d := s.dr p) (by omega)]
    exact Int.le_refl _

theorem zero_sum (m : Nat) : sumTo (fun _ => 0) m = 0 := by
  induction m with
  | zero => rfl
  | succ m ih => simp only [sumTo, ih]; rfl
/-- A line of p itself. -/
theorem move_own {n : Nat} {s : St} (h : Inv n s) (hn : 1 ≤ n) {p : Nat} (hp : p < n) {t : St} (hi : Inv n t) (R : Rest n s t p) (M : Move n s t p) :
    t.ln p = 5 ∨ vee n p t < vee n p s ∨ (vee n p t = vee n p s ∧ p ≠ who n p s ∧ who n p t = who n p s) := by
  have hk := h.kk p hp
  have hd := h.dr p hp
  have hb0 := base_pos n (ahead n 0) hn
  have hself : ∀ q, q ≠ p → chal t p q = chal s p q ∨ t.dr p ≠ s.dr p := fun q hq => by
    by_cases c : t.dr p = s.dr p
    · left; unfold chal; rw [R.ln q hq, R.dr q hq, c]
    · exact .inr c
  -- a line that leaves p at its door, which it guards
  have stay : (s.ln p = 3 ∨ s.ln p = 4) → (t.ln p = 3 ∨ t.ln p = 4) → t.dr p = s.dr p → t.wd p = s.wd p → s.wd (vx n (s.dr p)) = p + 1 →
      (waits n s p = true ∨ term n p t < term n p s) → vee n p t < vee n p s ∨ (vee n p t = vee n p s ∧ p ≠ who n p s ∧ who n p t = who n p s) := by
    intro l1 l2 hdr hwd hv hx
    have hv' : t.wd (vx n (t.dr p)) = p + 1 := by rw [hdr, R.vv _ hd.1 (fun x => by omega)]; exact hv
    have hch : ∀ q, q < n → chal t p q = chal s p q := fun q hq => by
      by_cases c : q = p
      · subst c; simp [chal]
      · rcases hself q c with x | x
        · exact x
        · exact absurd hdr x
    have hwd' : ∀ q, q < n → t.wd q = s.wd q := fun q hq => by
      by_cases c : q = p
      · subst c; exact hwd
      · exact R.wd q hq c
    have hwt : ∀ q, q < n → waits n t q = waits n s q := fun q hq => by
      have hdq : t.dr q = s.dr q := by
        by_cases c : q = p
        · subst c; exact hdr
        · exact R.dr q c
      exact waits_congr hdq (fun r hr _ => by rw [hwd' r hr])
    have hcn : cnt (chal t p) n = cnt (chal s p) n := cnt_congr hch
    have hsg : sig n t p (t.dr p) = sig n s p (s.dr p) := by
      rw [hdr]
      exact sig_eq (fun i hi _ => by rw [hwd' i hi]) (fun i hi hip _ => rho_same (R.ln i hip) (R.dr i hip) (R.kk i hip) (R.vv _ (h.dr i hi).1 (fun x => by omega)) (hwt i hi))
    have hac : ∀ q, q < n → act n t p q = act n s p q := fun q hq => by
      by_cases c : q = p
      · subst c; simp [act]
      · unfold act; rw [hdr, hwd' q hq, R.ln q c, R.dr q c, hwt q hq, R.vv _ (h.dr q hq).1 (fun x => by omega)]
    rw [vee_gu l1 hv, vee_gu l2 hv', who_gu l1 hv, who_gu l2 hv', hcn, hsg, hdr, hwt p hp, pick_congr hch, pick_congr hac]
    by_cases c : 0 < cnt (chal s p) n
    · simp only [if_pos c]
      right
      refine ⟨trivial, fun e => ?_, trivial⟩
      have := (pick_ok (p := p) (cnt_pos_iff.1 c)).2
      rw [← e] at this; simp [chal] at this
    · simp only [if_neg c]
      by_cases w : waits n s p = true
      · right
        simp only [if_pos w]
        have ht : term n p t = term n p s := by unfold term; rw [hwt p hp, if_pos w, if_pos w]
        refine ⟨by rw [ht], fun e => ?_, trivial⟩
        have := (pick_ok (p := p) (act_some h hn hp l1 hv w)).2
        rw [← e] at this; simp [act] at this
      · left
        rcases hx with x | x
        · exact absurd x w
        · omega
  have thru : (s.ln p = 3 ∨ s.ln p = 4) → base n (ahead n (s.dr p)) < vee n p s := by
    intro hl
    by_cases hv : s.wd (vx n (s.dr p)) = p + 1
    · rw [vee_gu hl hv]
      have := sig_pos h p (s.dr p)
      have := term_bd h hp
      have := cnt_chal (s := s) hp
      split <;> omega
    · rw [vee_no hl hv]
      split <;> omega
  cases M with
  | one a b c d e =>
    right; left
    rw [vee_1 a, vee_2 b, c]; omega
  | two a b c d e v =>
    right; left
    have hv' : t.wd (vx n (t.dr p)) = p + 1 := by rw [c]; exact v
    rw [vee_2 a, vee_gu (.inl b) hv', c]
    have hmm : most n (ahead n (s.dr p)) = 3 * n + 4 + (n - 1) * (dw n (ahead n (s.dr p)) + n + 3) := rfl
    have ht := term_bd hi hp
    have hcc := cnt_chal (s := t) hp
    have hm := most_pos n (ahead n (s.dr p)) hn
    by_cases cc : 0 < cnt (chal t p) n
    · rw [if_pos cc]; omega
    · rw [if_neg cc]
      have := sig_most hi hp (.inl b) hv' cc
      rw [c] at this
      omega
  | three a b c d e v =>
    right
    refine stay (.inl a) (.inr b) c d v ?_
    by_cases w : waits n s p = true
    · exact .inl w
    · right
      have w' : ¬ waits n t p = true := fun x => by
        obtain ⟨r, r1, r2, r3⟩ := waits_iff.1 x
        exact w (waits_iff.2 ⟨r, r1, r2, by rw [c] at r3; rw [R.wd r r1 r2] at r3; exact r3⟩)
      unfold term; rw [if_neg w, if_neg w', if_pos b, if_neg (by omega), e]; omega
  | back a b c d e v =>
    right
    by_cases g : s.wd (vx n (s.dr p)) = p + 1
    · exact stay (.inr a) (.inl b) c d g (.inl (waits_iff.2 ⟨(s.kk p).toNat, by omega, by omega, v.2⟩))
    · left
      have g' : t.wd (vx n (t.dr p)) ≠ p + 1 := by rw [c, R.vv _ hd.1 (fun x => by omega)]; exact g
      rw [vee_no (.inr a) g, vee_no (.inl b) g', c, if_pos a, if_neg (by omega)]; omega
  | on a b c d e f =>
    right
    by_cases g : s.wd (vx n (s.dr p)) = p + 1
    · refine stay (.inr a) (.inr b) c d g ?_
      by_cases w : waits n s p = true
      · exact .inl w
      · right
        have w' : ¬ waits n t p = true := fun x => by
          obtain ⟨r, r1, r2, r3⟩ := waits_iff.1 x
          exact w (waits_iff.2 ⟨r, r1, r2, by rw [c] at r3; rw [R.wd r r1 r2] at r3; exact r3⟩)
        unfold term; rw [if_neg w, if_neg w', if_pos b, if_pos a, e]; omega
    · left
      have g' : t.wd (vx n (t.dr p)) ≠ p + 1 := by rw [c, R.vv _ hd.1 (fun x => by omega)]; exact g
      rw [vee_no (.inr a) g, vee_no (.inr b) g', c, if_pos a, if_pos b, e]; omega
  | thru a b c d e =>
    have hl : s.ln p = 3 ∨ s.ln p = 4 := by omega
    have := thru hl
    rcases vee_thru h hn hp hl b c with x | x
    · exact .inl x
    · right; left; omega
  | five a b c d e =>
    right; left
    rw [vee_5 a, vee_6 b]; omega
  | six a b c d e =>
    right; left
    rw [vee_6 a, vee_1 b, c]
    have : ahead n 0 = ahead n 1 + 1 := by unfold ahead; omega
    rw [this]
    show base n (ahead n 1) + most n (ahead n 1) < base n (ahead n 1) + most n (ahead n 1) + 1
    omega

set_option maxHeartbeats 2000000 in
/-- Hand g, at p's door or beyond, goes on: the sum falls; or it stands and waits, and nothing turns. -/
theorem move_far {n : Nat} {s : St} (h : Inv n s) (hn : 1 ≤ n) {p g : Nat} (hp : p < n) (hg : g < n) (hgp : g ≠ p) {t : St} (hi : Inv n t) (R : Rest n s t g) (M : Move n s t g)
    (hl : s.ln p = 3 ∨ s.ln p = 4) (hv : s.wd (vx n (s.dr p)) = p + 1) (hc : ¬ (s.dr g = s.dr p ∧ s.ln g = 2)) (hfar : s.dr p ≤ s.wd g) :
    sig n t p (s.dr p) < sig n s p (s.dr p) ∨
      (sig n t p (s.dr p) = sig n s p (s.dr p) ∧ act n s p g = false ∧ (∀ q, q < n → act n t p q = act n s p q) ∧ waits n t p = waits n s p) := by
  have hkg := h.kk g hg
  have hdg := h.dr g hg
  have hwg := h.wl g hg
  have hd := h.dr p hp
  have hn2 : 2 ≤ n := by omega
  have hdwg := dw_bd n (ahead n (s.dr g))
  have hlc := loc_bd h hg
  have rho34 : ∀ u : St, (u.ln g = 3 ∨ u.ln g = 4) → rho n u g = dw n (ahead n (u.dr g)) + 2 + loc n u g := fun u hu => by
    unfold rho; rw [if_neg (by omega), if_neg (by omega), if_neg (by omega), if_neg (by omega)]
  have hloc : ∀ u : St, u.dr g = s.dr g → u.wd (vx n (s.dr g)) = g + 1 → waits n u g = true → loc n u g = n + 2 := fun u u1 u2 u3 => by
    unfold loc; rw [u1, u2, u3]; simp
  -- a line that writes no word
  have calm : s.ln g ≠ 2 → t.wd g = s.wd g → (∀ i, i < n → i ≠ g → i ≠ p → s.dr p ≤ s.wd i → rho n t i ≤ rho n s i + (if i = n then 0 else 0)) := by
    intro l2 hw i hi hig hip _
    have : rho n t i = rho n s i := rho_same (R.ln i hig) (R.dr i hig) (R.kk i hig) (R.vv _ (h.dr i hi).1 (fun x => absurd x l2)) (waits_congr (R.dr i hig) (fun r hr _ => by
      by_cases c : r = g
      · subst c; rw [hw]
      · rw [R.wd r hr c]))
    rw [this]; split <;> omega
  have fall : s.ln g ≠ 2 → t.wd g = s.wd g → rho n t g < rho n s g → sig n t p (s.dr p) < sig n s p (s.dr p) := by
    intro l2 hw hr
    refine sig_lt (o := n) (c := 0) hg hgp hfar (fun i hi hig => R.wd i hi hig) (calm l2 hw) (by omega) ?_
    rw [if_neg (by omega)]; omega
  -- a line of who waits at its door turns nothing
  have idle : (s.ln g = 3 ∨ s.ln g = 4) → (t.ln g = 3 ∨ t.ln g = 4) → t.dr g = s.dr g → t.wd g = s.wd g → s.wd (vx n (s.dr g)) = g + 1 → waits n s g = true →
      (sig n t p (s.dr p) = sig n s p (s.dr p) ∧ act n s p g = false ∧ (∀ q, q < n → act n t p q = act n s p q) ∧ waits n t p = waits n s p) := by
    intro l1 l2 hdr hw hgv hgw
    have hwd' : ∀ q, q < n → t.wd q = s.wd q := fun q hq => by
      by_cases c : q = g
      · subst c; exact hw
      · exact R.wd q hq c
    have hdr' : ∀ q, t.dr q = s.dr q := fun q => by
      by_cases c : q = g
      · subst c; exact hdr
      · exact R.dr q c
    have hwt : ∀ q, waits n t q = waits n s q := fun q => waits_congr (hdr' q) (fun r hr _ => by rw [hwd' r hr])
    have hvv : ∀ q, q < n → t.wd (vx n (s.dr q)) = s.wd (vx n (s.dr q)) := fun q hq => R.vv _ (h.dr q hq).1 (fun x => by omega)
    have hact : ∀ u : St, (u.ln g = 3 ∨ u.ln g = 4) → u.dr g = s.dr g → u.wd (vx n (s.dr g)) = g + 1 → waits n u g = true → act n u p g = false := fun u u1 u2 u3 u4 => by
      have : (decide (u.ln g = 3) || decide (u.ln g = 4)) = true := by simpa using u1
      unfold act; rw [u2, u3, u4, this]; simp
    refine ⟨sig_eq (fun i hi _ => by rw [hwd' i hi]) (fun i hi hip _ => ?_), hact s l1 rfl hgv hgw, fun q hq => ?_, hwt p⟩
    · by_cases c : i = g
      · subst c
        rw [rho34 t l2, rho34 s l1, hdr, hloc t hdr (by rw [hvv i hi]; exact hgv) (by rw [hwt i]; exact hgw), hloc s rfl hgv hgw]
      · exact rho_same (R.ln i c) (R.dr i c) (R.kk i c) (hvv i hi) (hwt i)
    · by_cases c : q = g
      · subst c
        rw [hact s l1 rfl hgv hgw, hact t l2 hdr (by rw [hvv q hq]; exact hgv) (by rw [hwt q]; exact hgw)]
      · unfold act; rw [hdr' p, hdr' q, hwd' q hq, R.ln q c, hwt q, hvv q hq]
  cases M with
  | one a b c d e =>
    left
    rw [if_pos (.inl a)] at hwg
    refine sig_lt (o := (s.wd (vx n (s.dr g)) - 1).toNat) (c := n + 1) hg hgp hfar (fun i hi hig => R.wd i hi hig) (fun i hi hig hip hdi => ?_) (by omega) ?_
    · have hvi : t.wd (vx n (s.dr i)) = s.wd (vx n (s.dr i)) := R.vv _ (h.dr i hi).1 (fun x => by omega)
      by_cases e1 : s.dr i = s.dr g
      · by_cases e2 : s.wd (vx n (s.dr i)) = i + 1
        · rw [if_pos (by rw [← e1, e2]; omega)]
          exact rho_up h hi (R.ln i hig) (R.dr i hig) (R.kk i hig) hvi
        · rw [rho_free (R.ln i hig) (R.dr i hig) (R.kk i hig) hvi e2]; split <;> omega
      · rw [rho_same (R.ln i hig) (R.dr i hig) (R.kk i hig) hvi (waits_congr (R.dr i hig) (fun r hr hri => by
          by_cases cc : r = g
          · subst cc; rw [d, hwg]; omega
          · rw [R.wd r hr cc]))]
        split <;> omega
    · rw [if_neg (by omega)]
      unfold rho; rw [c, if_neg (by omega), if_neg (by omega), if_neg (by omega), if_pos b, if_neg (by omega), if_neg (by omega), if_pos a]; omega
  | two a b c d e v =>
    left
    rw [if_neg (by omega)] at hwg
    have hgd : s.dr g ≠ s.dr p := fun x => hc ⟨x, a⟩
    refine sig_lt (o := n) (c := 0) hg hgp hfar (fun i hi hig => R.wd i hi hig) (fun i hi hig hip hdi => ?_) (by omega) ?_
    · have hle : rho n t i ≤ rho n s i := by
        refine rho_le h hi (R.ln i hig) (R.dr i hig) (R.kk i hig) ?_ (fun x => ?_)
        · by_cases e1 : s.dr i = s.dr g
          · exact .inr ⟨waits_iff.2 ⟨g, hg, fun x => hig x.symm, by omega⟩, by rw [e1, v]; omega⟩
          · left
            have hdi2 := h.dr i hi
            refine R.vv _ hdi2.1 (fun _ x => e1 ?_)
            unfold vx at x; omega
        · obtain ⟨r, r1, r2, r3⟩ := waits_iff.1 x
          rw [R.dr i hig] at r3
          refine waits_iff.2 ⟨r, r1, r2, ?_⟩
          by_cases cc : r = g
          · subst cc; rw [d] at r3; exact r3
          · rw [R.wd r r1 cc] at r3; exact r3
      split <;> omega
    · rw [if_neg (by omega), rho34 t (.inl b), c]
      have := loc_bd hi hg
      unfold rho; rw [if_neg (by omega), if_neg (by omega), if_neg (by omega), if_pos a]; omega
  | three a b c d e v =>
    by_cases w : waits n s g = true
    · exact .inr (idle (.inl a) (.inr b) c d v w)
    · left
      have w' : ¬ waits n t g = true := fun x => by
        obtain ⟨r, r1, r2, r3⟩ := waits_iff.1 x
        exact w (waits_iff.2 ⟨r, r1, r2, by rw [c] at r3; rw [R.wd r r1 r2] at r3; exact r3⟩)
      have v' : t.wd (vx n (t.dr g)) = g + 1 := by rw [c, R.vv _ hdg.1 (fun x => by omega)]; exact v
      refine fall (by omega) d ?_
      rw [rho34 t (.inr b), rho34 s (.inl a), c]
      unfold loc
      rw [if_neg (by simp [v']), if_neg w', if_pos b, if_neg (by simp [v]), if_neg w, if_neg (by omega), e]; omega
  | back a b c d e v =>
    have w : waits n s g = true := waits_iff.2 ⟨(s.kk g).toNat, by omega, by omega, v.2⟩
    by_cases g1 : s.wd (vx n (s.dr g)) = g + 1
    · exact .inr (idle (.inr a) (.inl b) c d g1 w)
    · left
      have v' : t.wd (vx n (t.dr g)) ≠ g + 1 := by rw [c, R.vv _ hdg.1 (fun x => by omega)]; exact g1
      refine fall (by omega) d ?_
      rw [rho34 t (.inl b), rho34 s (.inr a), c]
      unfold loc
      rw [if_pos v', if_neg (by omega), if_pos g1, if_pos a]; omega
  | on a b c d e f =>
    by_cases g1 : s.wd (vx n (s.dr g)) = g + 1
    · by_cases w : waits n s g = true
      · exact .inr (idle (.inr a) (.inr b) c d g1 w)
      · left
        have w' : ¬ waits n t g = true := fun x => by
          obtain ⟨r, r1, r2, r3⟩ := waits_iff.1 x
          exact w (waits_iff.2 ⟨r, r1, r2, by rw [c] at r3; rw [R.wd r r1 r2] at r3; exact r3⟩)
        have v' : t.wd (vx n (t.dr g)) = g + 1 := by rw [c, R.vv _ hdg.1 (fun x => by omega)]; exact g1
        refine fall (by omega) d ?_
        rw [rho34 t (.inr b), rho34 s (.inr a), c]
        unfold loc
        rw [if_neg (by simp [v']), if_neg w', if_pos b, if_neg (by simp [g1]), if_neg w, if_pos a, e]; omega
    · left
      have v' : t.wd (vx n (t.dr g)) ≠ g + 1 := by rw [c, R.vv _ hdg.1 (fun x => by omega)]; exact g1
      refine fall (by omega) d ?_
      rw [rho34 t (.inr b), rho34 s (.inr a), c]
      unfold loc
      rw [if_pos v', if_pos b, if_pos g1, if_pos a, e]; omega
  | thru a b c d e =>
    left
    refine fall (by omega) d ?_
    rw [rho34 s (by omega)]
    unfold rho
    by_cases e1 : s.dr g + 1 ≥ n
    · rw [if_pos e1] at b
      rw [if_pos b]; omega
    · rw [if_neg e1] at b
      have : dw n (ahead n (s.dr g)) = dw n (ahead n (s.dr g + 1)) + (2 * n + 5) := by rw [ahead_succ (n := n) (d := s.dr g) (by omega)]; rfl
      rw [if_neg (by omega), if_neg (by omega), if_pos b, c]; omega
  | five a b c d e =>
    left
    refine fall (by omega) d ?_
    unfold rho; rw [if_pos a, if_neg (by omega), if_pos b]; omega
  | six a b c d e =>
    left
    refine sig_lt (o := n) (c := 0) hg hgp hfar (fun i hi hig => R.wd i hi hig) (fun i hi hig hip hdi => ?_) (by omega) ?_
    · have hle : rho n t i ≤ rho n s i := by
        refine rho_le h hi (R.ln i hig) (R.dr i hig) (R.kk i hig) (.inl (R.vv _ (h.dr i hi).1 (fun x => by omega))) (fun x => ?_)
        obtain ⟨r, r1, r2, r3⟩ := waits_iff.1 x
        rw [R.dr i hig] at r3
        refine waits_iff.2 ⟨r, r1, r2, ?_⟩
        by_cases cc : r = g
        · subst cc; rw [d] at r3; have := (h.dr i hi).1; omega
        · rw [R.wd r r1 cc] at r3; exact r3
      split <;> omega
    · rw [if_pos (by omega)]
      have := rho_bd h hg; omega

set_option maxHeartbeats 2000000 in
/-- A line of another one. -/
theorem move_other {n : Nat} {s : St} (h : Inv n s) (hn : 1 ≤ n) {p g : Nat} (hp : p < n) (hg : g < n) (hgp : g ≠ p) {t : St} (hi : Inv n t) (R : Rest n s t g) (M : Move n s t g) :
    vee n p t < vee n p s ∨ (vee n p t = vee n p s ∧ g ≠ who n p s ∧ who n p t = who n p s) := by
  have hpg : p ≠ g := fun e => hgp e.symm
  have hlp := R.ln p hpg
  have hdp := R.dr p hpg
  have hkp := R.kk p hpg
  have hwp := R.wd p hp hpg
  have hl := h.ln p hp
  have hd := h.dr p hp
  have hk := h.kk p hp
  have hdg := h.dr g hg
  have hn2 : 2 ≤ n := by omega
  by_cases hl34 : s.ln p = 3 ∨ s.ln p = 4
  · by_cases hv : s.wd (vx n (s.dr p)) = p + 1
    · have hcc := cnt_chal (s := s) hp
      have hs0 := sig_pos h p (s.dr p)
      have ht0 := term_bd h hp
      by_cases hch : chal s p g = true
      · -- g writes at p's door
        left
        simp only [chal, Bool.and_eq_true, decide_eq_true_eq] at hch
        obtain ⟨⟨-, h1⟩, h2⟩ := hch
        have hv' : t.wd (vx n (t.dr p)) ≠ p + 1 := by
          cases M with
          | two a b c d e v => rw [hdp, ← h1, v]; omega
          | one a _ _ _ _ => omega
          | three a _ _ _ _ _ => omega
          | back a _ _ _ _ _ => omega
          | on a _ _ _ _ _ => omega
          | thru a _ _ _ _ => omega
          | five a _ _ _ _ => omega
          | six a _ _ _ _ => omega
        have hpos : 0 < cnt (chal s p) n := cnt_pos hg (by simp [chal, hgp, h1, h2])
        rw [vee_gu hl34 hv, vee_no (by rw [hlp]; exact hl34) hv', if_pos hpos, hdp, hkp, hlp]
        split <;> omega
      · have hch' : ¬ (s.dr g = s.dr p ∧ s.ln g = 2) := fun x => hch (by simp [chal, hgp, x.1, x.2])
        have hv' : t.wd (vx n (t.dr p)) = p + 1 := by
          rw [hdp, R.vv _ hd.1 (fun x y => hch' ⟨?_, x⟩)]
          · exact hv
          · unfold vx at y; omega
        have hoth : ∀ q, q ≠ g → chal t p q = chal s p q := fun q hq => by
          by_cases c : q = p
          · subst c; simp [chal]
          · unfold chal; rw [R.ln q hq, R.dr q hq, hdp]
        have l2 : t.ln p = 3 ∨ t.ln p = 4 := by rw [hlp]; exact hl34
        by_cases hcg : chal t p g = true
        · left
          have e1 := cnt_turn (f := chal s p) (g := chal t p) hg (fun i _ hi => hoth i hi)
          rw [if_neg hch, if_pos hcg] at e1
          have := (cnt_bd (chal s p) n).1
          have := cnt_chal (s := t) hp
          rw [vee_gu hl34 hv, vee_gu l2 hv', hdp, if_pos (show 0 < cnt (chal t p) n by omega)]
          split <;> omega
        · have heq : ∀ q, q < n → chal t p q = chal s p q := fun q _ => by
            by_cases c : q = g
            · subst c
              cases x : chal t p q <;> cases y : chal s p q <;> simp_all
            · exact hoth q c
          have hcn : cnt (chal t p) n = cnt (chal s p) n := cnt_congr heq
          by_cases cc : 0 < cnt (chal s p) n
          · right
            rw [vee_gu hl34 hv, vee_gu l2 hv', who_gu hl34 hv, who_gu l2 hv', hcn, hdp, pick_congr heq]
            simp only [if_pos cc]
            refine ⟨trivial, fun e => ?_, trivial⟩
            have := (pick_ok (p := p) (cnt_pos_iff.1 cc)).2
            rw [← e] at this; exact hch this
          · have goal : sig n t p (s.dr p) < sig n s p (s.dr p) ∨ (sig n t p (s.dr p) = sig n s p (s.dr p) ∧ (waits n s p = true → act n s p g = false) ∧ (∀ q, q < n → act n t p q = act n s p q) ∧ waits n t p = waits n s p) := by
              by_cases hfar : s.dr p ≤ s.wd g
              · rcases move_far h hn hp hg hgp hi R M hl34 hv hch' hfar with x | ⟨x, y, z, u⟩
                · exact .inl x
                · exact .inr ⟨x, fun _ => y, z, u⟩
              · right
                have hwl := h.wl g hg
                have hlg := h.ln g hg
                have hnear : t.wd g < s.dr p := by
                  cases M with
                  | one a b c d e =>
                    rw [d]
                    rw [if_pos (.inl a)] at hwl
                    have : ¬ s.dr g = s.dr p := fun x => hcg (by simp [chal, hgp, c, hdp, x, b])
                    omega
                  | two a b c d e v => omega
                  | three a b c d e v => omega
                  | back a b c d e v => omega
                  | on a b c d e f => omega
                  | thru a b c d e => omega
                  | five a b c d e => omega
                  | six a b c d e => omega
                have hwt : ∀ q, q < n → q ≠ g → s.dr p ≤ s.dr q → waits n t q = waits n s q := fun q hq hqg hdq => waits_congr (R.dr q hqg) (fun r hr _ => by
                  by_cases c : r = g
                  · subst c; omega
                  · rw [R.wd r hr c])
                have hvq : ∀ q, q < n → s.dr p ≤ s.dr q → t.wd (vx n (s.dr q)) = s.wd (vx n (s.dr q)) := fun q hq hdq => by
                  have hdq2 := h.dr q hq
                  refine R.vv _ hdq2.1 (fun a x => ?_)
                  rw [if_neg (by omega)] at hwl
                  unfold vx at x; omega
                have hdq : ∀ q, q < n → s.dr p ≤ s.wd q → s.dr p ≤ s.dr q := fun q hq hx => by
                  have := h.wl q hq
                  split at this <;> omega
                refine ⟨sig_eq (fun i hi hip => ?_) (fun i hi hip hx => ?_), fun _ => ?_, fun q hq => ?_, hwt p hp hpg (Int.le_refl _)⟩
                · by_cases c : i = g
                  · subst c; omega
                  · rw [R.wd i hi c]
                · have c : i ≠ g := fun c => by subst c; omega
                  have := hdq i hi hx
                  exact rho_same (R.ln i c) (R.dr i c) (R.kk i c) (hvq i hi this) (hwt i hi c this)
                · unfold act; simp [show ¬ s.dr p ≤ s.wd g by omega]
                · by_cases c : q = g
                  · subst c; unfold act; simp [hdp, show ¬ s.dr p ≤ s.wd q by omega, show ¬ s.dr p ≤ t.wd q by omega]
                  · unfold act
                    rw [hdp, R.wd q hq c, R.ln q c, R.dr q c]
                    by_cases hx : s.dr p ≤ s.wd q
                    · have := hdq q hq hx
                      rw [hvq q hq this, hwt q hq c this]
                    · simp [hx]
            rw [vee_gu hl34 hv, vee_gu l2 hv', who_gu hl34 hv, who_gu l2 hv', hcn, hdp]
            simp only [if_neg cc]
            rcases goal with x | ⟨x, y, z, u⟩
            · left
              by_cases w : waits n s p = true
              · have : term n p s = n + 2 := by unfold term; rw [if_pos w]
                have := term_bd hi hp
                omega
              · -- nobody is there, so the sum could not fall
                exfalso
                have e0 : sig n s p (s.dr p) = 0 := by
                  have : sig n s p (s.dr p) = sumTo (fun _ => 0) n := by
                    unfold sig
                    refine sumTo_congr (fun i hi => ?_)
                    by_cases c : i = p
                    · rw [if_pos (.inl c)]
                    · have hx : s.wd i < s.dr p := by
                        apply Classical.byContradiction
                        intro hx
                        exact w (waits_iff.2 ⟨i, hi, c, by omega⟩)
                      rw [if_pos (.inr hx)]
                  rw [this, zero_sum]
                have := sig_pos hi p (t.dr p)
                rw [hdp] at this
                omega
            · right
              rw [x, u, pick_congr z]
              have ht : term n p t = term n p s := by unfold term; rw [u, hlp, hkp]
              refine ⟨by rw [ht], fun e => ?_, by first | rfl | trivial⟩
              by_cases w : waits n s p = true
              · rw [if_pos w] at e
                have := (pick_ok (p := p) (act_some h hn hp hl34 hv w)).2
                rw [← e, y w] at this; simp at this
              · rw [if_neg w] at e; exact hgp e
    · right
      have hv' : t.wd (vx n (t.dr p)) ≠ p + 1 := by
        rw [hdp]
        by_cases x : s.ln g = 2 ∧ vx n (s.dr p) = vx n (s.dr g)
        · cases M with
          | two a b c d e v => rw [x.2, v]; omega
          | one a _ _ _ _ => omega
          | three a _ _ _ _ _ => omega
          | back a _ _ _ _ _ => omega
          | on a _ _ _ _ _ => omega
          | thru a _ _ _ _ => omega
          | five a _ _ _ _ => omega
          | six a _ _ _ _ => omega
        · rw [R.vv _ hd.1 (fun a b => x ⟨a, b⟩)]; exact hv
      rw [vee_no hl34 hv, vee_no (by rw [hlp]; exact hl34) hv', who_no (fun x => hv x.2), who_no (fun x => hv' x.2), hdp, hkp, hlp]
      exact ⟨rfl, hgp, rfl⟩
  · right
    rw [who_no (fun x => hl34 x.1), who_no (fun x => hl34 (by rw [hlp] at x; exact x.1))]
    refine ⟨?_, hgp, rfl⟩
    obtain e | e | e | e : s.ln p = 1 ∨ s.ln p = 2 ∨ s.ln p = 5 ∨ s.ln p = 6 := by omega
    · rw [vee_1 e, vee_1 (hlp.trans e), hdp]
    · rw [vee_2 e, vee_2 (hlp.trans e), hdp]
    · rw [vee_5 e, vee_5 (hlp.trans e)]
    · rw [vee_6 e, vee_6 (hlp.trans e)]

theorem who_lt {n p : Nat} {s : St} (h : Inv n s) (hn : 1 ≤ n) (hp : p < n) : who n p s < n := by
  by_cases c : (s.ln p = 3 ∨ s.ln p = 4) ∧ s.wd (vx n (s.dr p)) = p + 1
  · rw [who_gu c.1 c.2]
    by_cases cc : 0 < cnt (chal s p) n
    · rw [if_pos cc]; exact (pick_ok (p := p) (cnt_pos_iff.1 cc)).1
    · rw [if_neg cc]
      by_cases w : waits n s p = true
      · rw [if_pos w]; exact (pick_ok (p := p) (act_some h hn hp c.1 c.2 w)).1
      · rw [if_neg w]; exact hp
  · rw [who_no c]; exact hp

theorem Reach.goes {n k : Nat} {s : St} (h : Reach n k s) (q : Nat) (hq : q < n) : was n s q (300 * n) = true := by
  obtain ⟨h1, h4, hi⟩ := h
  obtain ⟨t, g1, g2, g3⟩ := live (St := St) (n := n) (p := q) hq (fun s h => stepN n s h) (fun s t => Filter.turns n s t) (fun _ => rfl) (fun s t => by
      show Filter.step n (Filter.turns n s t) ((t % n : Nat) : Int) = _
      rw [step_nat _ (Nat.mod_lt _ (by omega))])
    (Inv n) (fun s => isIn n s q) (fun s => (vee n q s).toNat) (who n q)
    (fun s h hi hh => hi.step h1 hh) (fun s hi => who_lt hi h1 hq)
    (fun s g hi hg => by
      obtain ⟨R, M⟩ := moves hi h1 hg
      have hi' := hi.step h1 hg
      have b1 := vee_bd hi hq
      have b2 := vee_bd hi' hq
      by_cases c : g = q
      · subst c
        rcases move_own hi h1 hg hi' R M with x | x | ⟨x, y, z⟩
        · exact .inl ⟨rfl, by simp [isIn, line_nat _ hg, x]⟩
        · exact .inr (.inl (by omega))
        · exact .inr (.inr ⟨by omega, y, z⟩)
      · rcases move_other hi h1 hq hg c hi' R M with x | ⟨x, y, z⟩
        · exact .inr (.inl (by omega))
        · exact .inr (.inr ⟨by omega, y, z⟩))
    300 s hi (by have := vee_bd hi hq; have := base_300 h1 h4; omega)
  exact was_of (by omega) g2 g3
end Go.Proofs.Ytmkgaophojhfjaa.Filter
