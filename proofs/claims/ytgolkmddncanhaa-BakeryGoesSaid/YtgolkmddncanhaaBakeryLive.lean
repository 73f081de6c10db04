import Derived.Test.YtgolkmddncanhaaBakeryPlain
namespace Go.Proofs.Ytgolkmddncanhaa.Bakery
set_option linter.unusedVariables false

/-- How far a hand is from line 7, if nobody holds it up. -/
def cc (n : Nat) (s : St) (q : Nat) : Int :=
  if s.ln q = 1 then 3 * n + 3 else if s.ln q = 2 then 2 * n + 2 + (n - s.kk q) else if s.ln q = 3 then 2 * n + 2 else if s.ln q = 4 then 2 * n + 1
  else if s.ln q = 5 then 2 * (n - s.kk q) else if s.ln q = 6 then 2 * (n - s.kk q) - 1 else if s.ln q = 7 then 0 else -1
/-- Hand q surely comes behind p. -/
def Behind (n : Nat) (s : St) (p q : Nat) : Prop :=
  s.ln q = 1 ∨ (s.ln q = 2 ∧ ((p : Int) < s.kk q → s.wd (n + p) ≤ s.ms q)) ∨ (s.ln q = 3 ∧ s.wd (n + p) ≤ s.ms q) ∨ (4 ≤ s.ln q ∧ Less n s p q)
open Classical in
/-- How many lines of hand q may still be done ahead of p. -/
noncomputable def wq (n p : Nat) (s : St) (q : Nat) : Int := if q = p then cc n s p else cc n s q + (if Behind n s p q then 0 else 3 * n + 5)
noncomputable def vee (n p : Nat) (s : St) : Int :=
  if s.ln p = 5 ∨ s.ln p = 6 then sumTo (wq n p s) n else if s.ln p ≤ 4 then 125 + cc n s p else 125 + 3 * n + 3 + (9 - s.ln p)
open Classical in
/-- The next line turns something. -/
noncomputable def mv (n : Nat) (s : St) (q : Nat) : Bool :=
  !decide ((s.ln q = 5 ∧ s.wd (s.kk q).toNat ≠ 0) ∨ (s.ln q = 6 ∧ ¬ (s.wd (n + (s.kk q).toNat) = 0 ∨ s.wd (n + q) < s.wd (n + (s.kk q).toNat) ∨ (s.wd (n + (s.kk q).toNat) = s.wd (n + q) ∧ (q : Int) ≤ s.kk q))))
noncomputable def who (n p : Nat) (s : St) : Nat := if s.ln p = 5 ∨ s.ln p = 6 then pick (mv n s) p n else p

theorem cc_bd {n k : Nat} {s : St} (h : Inv n k s) {q : Nat} (hq : q < n) : -1 ≤ cc n s q ∧ cc n s q ≤ 3 * n + 3 ∧ (s.ln q ≠ 1 → cc n s q ≤ 3 * n + 2) ∧ (s.ln q ≠ 8 → 0 ≤ cc n s q) := by
  have hk := h.kk q hq
  have hl := h.ln q hq
  unfold cc
  repeat' split
  all_goals omega
theorem not_behind {n k : Nat} {s : St} (h : Inv n k s) {p q : Nat} (hp : p < n) (hq : q < n) (hqp : q ≠ p) (hl : 4 ≤ s.ln p) (hp8 : Past s q p) : ¬ Behind n s p q := by
  intro hb
  have := h.less q p hq hp hqp hp8 hl
  unfold Past at hp8
  unfold Behind Less at hb
  unfold Less at this
  omega
theorem wq_bd {n k : Nat} {s : St} (h : Inv n k s) (h4 : n ≤ 4) {p q : Nat} (hp : p < n) (hq : q < n) (hl : s.ln p = 5 ∨ s.ln p = 6) : 0 ≤ wq n p s q ∧ wq n p s q ≤ 31 := by
  have hc := cc_bd h hq
  unfold wq
  by_cases c : q = p
  · subst c; rw [if_pos rfl]; have := hc.2.2.2 (by omega); omega
  · rw [if_neg c]
    by_cases hb : Behind n s p q
    · rw [if_pos hb]
      have : s.ln q ≠ 8 := fun e => not_behind h hp hq c (by omega) (.inr (.inr e)) hb
      have := hc.2.2.2 this
      omega
    · rw [if_neg hb]
      have : s.ln q ≠ 1 := fun e => hb (.inl e)
      have := hc.2.2.1 this
      omega
theorem sum_bd {n k : Nat} {s : St} (h : Inv n k s) (h4 : n ≤ 4) {p : Nat} (hp : p < n) (hl : s.ln p = 5 ∨ s.ln p = 6) : 0 ≤ sumTo (wq n p s) n ∧ sumTo (wq n p s) n ≤ 124 := by
  have key : ∀ m, m ≤ n → 0 ≤ sumTo (wq n p s) m ∧ sumTo (wq n p s) m ≤ 31 * m := by
    intro m
    induction m with
    | zero => intro _; simp [sumTo]
    | succ m ih =>
      intro hm
      have := ih (by omega)
      have := wq_bd h h4 hp (q := m) (by omega) hl
      simp only [sumTo]; omega
  have := key n (Nat.le_refl n); omega
theorem vee_bd {n k : Nat} {s : St} (h : Inv n k s) (h4 : n ≤ 4) {p : Nat} (hp : p < n) : 0 ≤ vee n p s ∧ vee n p s < 200 := by
  have hl := h.ln p hp
  have hc := cc_bd h hp
  unfold vee
  by_cases c : s.ln p = 5 ∨ s.ln p = 6
  · rw [if_pos c]; have := sum_bd h h4 hp c; omega
  · rw [if_neg c]
    split <;> omega
theorem mv_some {n k : Nat} {s : St} (h : Inv n k s) (h1 : 1 ≤ n) (h4 : n ≤ 4) : ∃ q, q < n ∧ mv n s q = true := by
  apply Classical.byContradiction
  intro hx
  have hall : ∀ q, q < n → (s.ln q = 5 ∧ s.wd (s.kk q).toNat ≠ 0) ∨ (s.ln q = 6 ∧ ¬ (s.wd (n + (s.kk q).toNat) = 0 ∨ s.wd (n + q) < s.wd (n + (s.kk q).toNat) ∨ (s.wd (n + (s.kk q).toNat) = s.wd (n + q) ∧ (q : Int) ≤ s.kk q))) := by
    intro q hq
    cases c : mv n s q with
    | true => exact absurd ⟨q, hq, c⟩ hx
    | false => unfold mv at c; simp only [Bool.not_eq_false', decide_eq_true_eq] at c; exact c
  have h6 : ∀ q, q < n → s.ln q = 6 ∧ ¬ (s.wd (n + (s.kk q).toNat) = 0 ∨ s.wd (n + q) < s.wd (n + (s.kk q).toNat) ∨ (s.wd (n + (s.kk q).toNat) = s.wd (n + q) ∧ (q : Int) ≤ s.kk q)) := by
    intro q hq
    rcases hall q hq with ⟨a, b⟩ | x
    · have hk := h.kk q hq
      have hkn := hk.2.2 (by omega)
      have hg : (s.kk q).toNat < n := by omega
      have hc := h.c _ hg
      have := hall _ hg
      rw [if_neg (by omega)] at hc
      exact absurd hc b
    · exact x
  have key : ∀ x : Nat, ∀ q, q < n → s.wd (n + q) * 4 + q = x → False := by
    intro x
    induction x using Nat.strongRecOn with
    | ind x ih =>
      intro q hq e
      obtain ⟨a, b⟩ := h6 q hq
      have hk := h.kk q hq
      have hkn := hk.2.2 (by omega)
      have hg : (s.kk q).toNat < n := by omega
      have hz := (h.nz _ hg).2.1 (by have := h6 _ hg; omega)
      exact ih (s.wd (n + (s.kk q).toNat) * 4 + (s.kk q).toNat).toNat (by omega) _ hg (by omega)
  have hz := (h.nz 0 (by omega)).2.1 (by have := h6 0 (by omega); omega)
  exact key (s.wd (n + 0) * 4 + (0 : Nat)).toNat 0 (by omega) (by omega)
theorem who_lt {n k : Nat} {s : St} (h : Inv n k s) (h1 : 1 ≤ n) (h4 : n ≤ 4) {p : Nat} (hp : p < n) : who n p s < n := by
  unfold who
  split
  · exact (pick_ok (p := p) (mv_some h h1 h4)).1
  · exact hp

/-- What another hand may still do ahead of p: less by each line that turns something. -/
theorem wq_lt {n k : Nat} {s t : St} (h : Inv n k s) {k' : Nat} (hi : Inv n k' t) {p g : Nat} (hp : p < n) (hg : g < n) (hgp : g ≠ p) (hl : s.ln p = 5 ∨ s.ln p = 6) (R : Rest n s t g) (M : Move n s t g) (hm : t ≠ s) : wq n p t g < wq n p s g := by
  have hpg : p ≠ g := fun e => hgp e.symm
  have hk := h.kk g hg
  have hNp := R.nn p hp hpg
  have hlp := R.ln p hpg
  have fin : (Behind n s p g → Behind n t p g) → cc n t g < cc n s g → wq n p t g < wq n p s g := by
    intro b c
    unfold wq
    rw [if_neg hgp, if_neg hgp]
    by_cases hb : Behind n s p g
    · rw [if_pos hb, if_pos (b hb)]; omega
    · rw [if_neg hb]; split <;> omega
  cases M with
  | stay a b => exact absurd b hm
  | one a b c d e f =>
    refine fin (fun _ => .inr (.inl ⟨b, fun x => by omega⟩)) ?_
    unfold cc; simp [a, b, e]; omega
  | two a b c d e f =>
    have hkn := hk.2.2 (.inl a)
    refine fin (fun x => ?_) ?_
    · have x' : (p : Int) < s.kk g → s.wd (n + p) ≤ s.ms g := by unfold Behind at x; rcases x with x | x | x | x <;> first | exact x.2 | omega
      have key : (p : Int) < s.kk g + 1 → s.wd (n + p) ≤ max (s.ms g) (s.wd (n + (s.kk g).toNat)) := by
        intro hlt
        by_cases e1 : (p : Int) < s.kk g
        · have := x' e1; omega
        · have : (s.kk g).toNat = p := by omega
          rw [this]; omega
      unfold Behind
      rw [hNp, e, f]
      by_cases e1 : s.kk g + 1 = n
      · rw [if_pos e1] at b; exact .inr (.inr (.inl ⟨b, key (by omega)⟩))
      · rw [if_neg e1] at b; exact .inr (.inl ⟨b, key⟩)
    · by_cases e1 : s.kk g + 1 = n
      · rw [if_pos e1] at b; unfold cc; simp [a, b]; omega
      · rw [if_neg e1] at b; unfold cc; simp [a, b, e]; omega
  | three a b c d e f =>
    refine fin (fun x => ?_) (by unfold cc; simp [a, b])
    have x' : s.wd (n + p) ≤ s.ms g := by unfold Behind at x; rcases x with x | x | x | x <;> first | exact x.2 | omega
    exact .inr (.inr (.inr ⟨by omega, .inl (by rw [hNp, d]; omega)⟩))
  | four a b c d e f =>
    refine fin (fun x => ?_) (by unfold cc; simp [a, b, e]; omega)
    have x' : Less n s p g := by unfold Behind at x; rcases x with x | x | x | x <;> first | exact x.2 | omega
    unfold Less at x'
    exact .inr (.inr (.inr ⟨by omega, by unfold Less; rw [hNp, d]; exact x'⟩))
  | look a b c d e f v =>
    refine fin (fun x => ?_) (by unfold cc; simp [a, b, e]; omega)
    have x' : Less n s p g := by unfold Behind at x; rcases x with x | x | x | x <;> first | exact x.2 | omega
    unfold Less at x'
    exact .inr (.inr (.inr ⟨by omega, by unfold Less; rw [hNp, d]; exact x'⟩))
  | over a b c d e f v =>
    have hb2 : t.ln g = 5 ∨ t.ln g = 7 := by rw [b]; split <;> simp
    refine fin (fun x => ?_) ?_
    · have x' : Less n s p g := by unfold Behind at x; rcases x with x | x | x | x <;> first | exact x.2 | omega
      unfold Less at x'
      exact .inr (.inr (.inr ⟨by omega, by unfold Less; rw [hNp, d]; exact x'⟩))
    · have hkn := hk.2.2 (.inr (.inr a))
      by_cases e1 : s.kk g + 1 = n
      · rw [if_pos e1] at b; unfold cc; simp [a, b]; omega
      · rw [if_neg e1] at b; unfold cc; simp [a, b, e]; omega
  | sev a b c d e f =>
    refine fin (fun x => ?_) (by unfold cc; simp [a, b])
    exact absurd x (not_behind h hp hg hgp (by omega) (.inr (.inl a)))
  | eight a b c d e f =>
    have hb := not_behind h hp hg hgp (by omega) (.inr (.inr a))
    unfold wq
    rw [if_neg hgp, if_neg hgp, if_neg hb, if_pos (show Behind n t p g from .inl b)]
    unfold cc; simp [a, b]; omega

theorem vee_move {n k : Nat} {s : St} (h : Inv n k s) (h1 : 1 ≤ n) (h4 : n ≤ 4) {p g : Nat} (hp : p < n) (hg : g < n) :
    (g = p ∧ (stepN n s g).ln p = 7) ∨ vee n p (stepN n s g) < vee n p s ∨ (vee n p (stepN n s g) = vee n p s ∧ g ≠ who n p s ∧ who n p (stepN n s g) = who n p s) := by
  obtain ⟨R, M⟩ := moves (n := n) hg (h.ln g hg)
  have hi := h.step hg
  generalize stepN n s g = t at R M hi
  have hl := h.ln p hp
  have hk := h.kk p hp
  have hc := cc_bd h hp
  by_cases hq : s.ln p = 5 ∨ s.ln p = 6
  · by_cases hts : t = s
    · right; right
      subst hts
      refine ⟨rfl, fun e => ?_, rfl⟩
      unfold who at e
      rw [if_pos hq] at e
      have hmv := (pick_ok (p := p) (mv_some h h1 h4)).2
      rw [← e] at hmv
      have hno : mv n t g = false := by
        unfold mv
        simp only [Bool.not_eq_false', decide_eq_true_eq]
        cases M with
        | stay a b => exact a
        | one a b c d e f => omega
        | two a b c d e f => omega
        | three a b c d e f => omega
        | four a b c d e f => omega
        | look a b c d e f v => omega
        | over a b c d e f v => omega
        | sev a b c d e f => omega
        | eight a b c d e f => omega
      rw [hno] at hmv; simp at hmv
    · by_cases c : g = p
      · subst c
        have old : ∀ i, i < n → i ≠ g → t.wd (n + g) = s.wd (n + g) → wq n g t i = wq n g s i := by
          intro i hin hig hN
          have hb : Behind n t g i ↔ Behind n s g i := by unfold Behind Less; rw [R.ln i hig, R.kk i hig, R.ms i hig, R.nn i hin hig, hN]
          have hcc : cc n t i = cc n s i := by unfold cc; rw [R.ln i hig, R.kk i hig]
          unfold wq
          rw [if_neg hig, if_neg hig, hcc]
          by_cases x : Behind n s g i
          · rw [if_pos x, if_pos (hb.2 x)]
          · rw [if_neg x, if_neg (fun y => x (hb.1 y))]
        have self : cc n t g < cc n s g → wq n g t g < wq n g s g := fun x => by unfold wq; rw [if_pos rfl, if_pos rfl]; exact x
        cases M with
        | look a b c d e f v =>
          right; left
          unfold vee; rw [if_pos hq, if_pos (.inr b)]
          exact sumTo_lt hg (fun i hin hig => by rw [old i hin hig d]; exact Int.le_refl _) (self (by unfold cc; simp [a, b, e]; omega))
        | over a b c d e f v =>
          have hkn := hk.2.2 (.inr (.inr a))
          by_cases e1 : s.kk g + 1 = n
          · rw [if_pos e1] at b; exact .inl ⟨rfl, b⟩
          · rw [if_neg e1] at b
            right; left
            unfold vee; rw [if_pos hq, if_pos (.inl b)]
            exact sumTo_lt hg (fun i hin hig => by rw [old i hin hig d]; exact Int.le_refl _) (self (by unfold cc; simp [a, b, e]; omega))
        | stay a b => exact absurd b hts
        | one a b c d e f => omega
        | two a b c d e f => omega
        | three a b c d e f => omega
        | four a b c d e f => omega
        | sev a b c d e f => omega
        | eight a b c d e f => omega
      · right; left
        have c' : p ≠ g := fun e => c e.symm
        have hlt := wq_lt h hi hp hg c hq R M hts
        unfold vee
        rw [R.ln p c', if_pos hq, if_pos hq]
        refine sumTo_lt hg (fun i hin hig => ?_) hlt
        have hN := R.nn p hp c'
        have hcc : cc n t i = cc n s i := by unfold cc; rw [R.ln i hig, R.kk i hig]
        unfold wq
        by_cases e : i = p
        · subst e; rw [if_pos rfl, if_pos rfl, hcc]; exact Int.le_refl _
        · have hb : Behind n t p i ↔ Behind n s p i := by unfold Behind Less; rw [R.ln i hig, R.kk i hig, R.ms i hig, R.nn i hin hig, hN]
          rw [if_neg e, if_neg e, hcc]
          by_cases x : Behind n s p i
          · rw [if_pos x, if_pos (hb.2 x)]; exact Int.le_refl _
          · rw [if_neg x, if_neg (fun y => x (hb.1 y))]; exact Int.le_refl _
  · by_cases c : g = p
    · subst c
      right; left
      cases M with
      | stay a b => omega
      | look a b c d e f v => omega
      | over a b c d e f v => omega
      | one a b c d e f =>
        unfold vee; rw [if_neg hq, if_neg (by omega), if_pos (by omega), if_pos (by omega)]
        unfold cc; simp [a, b, e]; omega
      | two a b c d e f =>
        have hkn := hk.2.2 (.inl a)
        have hb2 : t.ln g = 2 ∨ t.ln g = 3 := by rw [b]; split <;> simp
        unfold vee; rw [if_neg hq, if_neg (by omega), if_pos (by omega), if_pos (by omega)]
        by_cases e1 : s.kk g + 1 = n
        · rw [if_pos e1] at b; unfold cc; simp [a, b]; omega
        · rw [if_neg e1] at b; unfold cc; simp [a, b, e]; omega
      | three a b c d e f =>
        unfold vee; rw [if_neg hq, if_neg (by omega), if_pos (by omega), if_pos (by omega)]
        unfold cc; simp [a, b]
      | four a b c d e f =>
        have := sum_bd hi h4 hg (.inl b)
        unfold vee; rw [if_neg hq, if_pos (.inl b), if_pos (by omega)]
        have : cc n s g = 2 * n + 1 := by unfold cc; simp [a]
        omega
      | sev a b c d e f =>
        unfold vee; rw [if_neg hq, if_neg (by omega), if_neg (by omega), if_neg (by omega)]; omega
      | eight a b c d e f =>
        unfold vee; rw [if_neg hq, if_neg (show ¬ (t.ln g = 5 ∨ t.ln g = 6) by omega), if_pos (show t.ln g ≤ 4 by omega), if_neg (show ¬ s.ln g ≤ 4 by omega)]
        have : cc n t g = 3 * n + 3 := by unfold cc; simp [b]
        omega
    · right; right
      have c' : p ≠ g := fun e => c e.symm
      have hcc : cc n t p = cc n s p := by unfold cc; rw [R.ln p c', R.kk p c']
      unfold vee who
      rw [R.ln p c', if_neg hq, if_neg hq, if_neg hq, if_neg hq, hcc]
      exact ⟨rfl, c, rfl⟩

theorem Reach.goes {n k : Nat} {s : St} (h : Reach n k s) (q : Nat) (hq : q < n) : was n s q (200 * n) = true := by
  obtain ⟨h1, h4, hi⟩ := h
  obtain ⟨t, g1, g2, g3⟩ := live (St := St) (n := n) (p := q) hq (fun s h => stepN n s h) (fun s t => Bakery.turns n s t) (fun _ => rfl) (fun s t => by
      show Bakery.step n (Bakery.turns n s t) ((t % n : Nat) : Int) = _
      rw [step_nat _ (Nat.mod_lt _ (by omega))])
    (fun s => ∃ k, Inv n k s) (fun s => isIn n s q) (fun s => (vee n q s).toNat) (who n q)
    (fun s h ⟨k, hi⟩ hh => ⟨k + 1, hi.step hh⟩) (fun s ⟨k, hi⟩ => who_lt hi h1 h4 hq)
    (fun s g ⟨k, hi⟩ hg => by
      have b1 := vee_bd hi h4 hq
      have b2 := vee_bd (hi.step hg) h4 hq
      rcases vee_move hi h1 h4 hq hg with ⟨x, y⟩ | x | ⟨x, y, z⟩
      · subst x; exact .inl ⟨rfl, by simp [isIn, line_nat _ hg, y]⟩
      · exact .inr (.inl (by omega))
      · exact .inr (.inr ⟨by rw [x], y, z⟩))
    200 s ⟨k, hi⟩ (by have := vee_bd hi h4 hq; omega)
  exact was_of (by omega) g2 g3
end Go.Proofs.Ytgolkmddncanhaa.Bakery
