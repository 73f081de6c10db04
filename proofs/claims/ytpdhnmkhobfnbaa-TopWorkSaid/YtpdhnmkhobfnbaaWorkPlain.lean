import Derived.Test.YtpdhnmkhobfnbaaKit
namespace Go.Proofs.Ytpdhnmkhobfnbaa.Work
set_option linter.unusedVariables false

/-- The deque: its ends, its places, and of each hand its line, value, top and bottom. -/
structure St where
  tp : Int
  bt : Int
  pc : Nat → Int
  ln : Nat → Int
  vl : Nat → Int
  ht : Nat → Int
  hb : Nat → Int

def first : St := ⟨0, 0, fun _ => 0, fun _ => 0, fun _ => 0, fun _ => 0, fun _ => 0⟩
/-- A hand's numbers put anew. -/
def put (s : St) (p : Nat) (a v t b : Int) : St := { s with ln := upd s.ln p a, vl := upd s.vl p v, ht := upd s.ht p t, hb := upd s.hb p b }
def rest (s : St) (p : Nat) : St := put s p 0 0 0 0

def stepN (s : St) (p : Nat) : St :=
  if s.ln p = 1 then put s p 2 (s.vl p) (s.ht p) (s.hb p)
  else if s.ln p = 2 then { put s p 3 (s.vl p) (s.ht p) (s.hb p) with pc := upd s.pc s.bt.toNat (s.vl p) }
  else if s.ln p = 3 then { rest s p with bt := s.bt + 1 }
  else if s.ln p = 4 then { put s p 5 (s.vl p) (s.ht p) (s.bt - 1) with bt := s.bt - 1 }
  else if s.ln p = 5 then (if s.tp < s.hb p then rest s p else if s.hb p = s.tp then put s p 7 (s.vl p) s.tp (s.hb p) else put s p 6 (s.vl p) s.tp (s.hb p))
  else if s.ln p = 6 then { rest s p with bt := s.ht p }
  else if s.ln p = 7 then (if s.tp = s.ht p then { put s p 8 (s.pc (s.hb p).toNat) (s.ht p) (s.hb p) with tp := s.ht p + 1 } else put s p 8 (-1) (s.ht p) (s.hb p))
  else if s.ln p = 8 then { rest s p with bt := s.ht p + 1 }
  else if s.ln p = 9 then put s p 10 (s.vl p) s.tp (s.hb p)
  else if s.ln p = 10 then (if s.bt ≤ s.ht p then rest s p else put s p 11 (s.vl p) (s.ht p) (s.hb p))
  else if s.ln p = 11 then put s p 12 (s.pc (s.ht p).toNat) (s.ht p) (s.hb p)
  else (if s.tp = s.ht p then { rest s p with tp := s.ht p + 1 } else rest s p)

/-- Is the hand done with that step, and what has it? -/
def fin (s : St) (p : Nat) : Bool :=
  s.ln p == 3 || (s.ln p == 5 && decide (s.tp < s.hb p)) || s.ln p == 6 || s.ln p == 8 || (s.ln p == 10 && decide (s.bt ≤ s.ht p)) || s.ln p == 12
def got (s : St) (p : Nat) : Int :=
  if s.ln p = 3 then -1
  else if s.ln p = 5 then (if s.tp < s.hb p then s.pc (s.hb p).toNat else 0)
  else if s.ln p = 6 then -1
  else if s.ln p = 8 then s.vl p
  else if s.ln p = 10 then (if s.bt ≤ s.ht p then -1 else 0)
  else if s.ln p = 12 then (if s.tp = s.ht p then s.vl p else -2)
  else 0

def lim (s : St) : Int := s.bt + (if 5 ≤ s.ln 0 then 1 else 0)
/-- What was had, with one step more. -/
def more (s : St) (p : Nat) (was : Nat → Int) : Nat → Int := if fin s p = true ∧ 0 ≤ got s p then upd was (got s p).toNat (was (got s p).toNat + 1) else was
def hasIt (m : Nat) (s : St) (k : Nat) : Prop := k < m ∧ ((k : Int) < s.tp ∨ lim s ≤ k) ∧ ¬ (s.ln 0 = 8 ∧ s.vl 0 = k)
instance (m : Nat) (s : St) (k : Nat) : Decidable (hasIt m s k) := by unfold hasIt; infer_instance

structure Inv (m n : Nat) (s : St) (was : Nat → Int) : Prop where
  m8 : m ≤ 8
  pc : ∀ k, k < m → s.pc k = k
  low : 0 ≤ s.tp ∧ s.tp ≤ lim s ∧ lim s ≤ m
  was : ∀ k, was k = if hasIt m s k then 1 else 0
  l0 : s.ln 0 = 0 ∨ 4 ≤ s.ln 0 ∧ s.ln 0 ≤ 8
  b5 : 5 ≤ s.ln 0 → s.hb 0 = s.bt
  six : s.ln 0 = 6 → s.ht 0 = s.tp ∧ s.tp = s.bt + 1
  sev : s.ln 0 = 7 → s.ht 0 = s.bt ∧ s.bt ≤ s.tp
  eig : s.ln 0 = 8 → s.ht 0 = s.bt ∧ s.tp = s.bt + 1 ∧ (s.vl 0 = s.bt ∨ s.vl 0 = -1)
  lp : ∀ p, 1 ≤ p → p < n → s.ln p = 0 ∨ 9 ≤ s.ln p ∧ s.ln p ≤ 12
  t10 : ∀ p, 1 ≤ p → p < n → 10 ≤ s.ln p → 0 ≤ s.ht p ∧ s.ht p ≤ s.tp
  t11 : ∀ p, 1 ≤ p → p < n → 11 ≤ s.ln p → s.ht p < m ∧ (s.ht p = s.tp → s.tp < lim s)
  t12 : ∀ p, 1 ≤ p → p < n → s.ln p = 12 → s.vl p = s.ht p

theorem was_re {m : Nat} {s s' : St} {was : Nat → Int} (h : ∀ k, was k = if hasIt m s k then 1 else 0) (e : ∀ k, hasIt m s' k ↔ hasIt m s k) : ∀ k, was k = if hasIt m s' k then 1 else 0 := by
  intro k; rw [h k]; simp only [e k]
theorem was_add {m x : Nat} {s s' : St} {was : Nat → Int} (h : ∀ k, was k = if hasIt m s k then 1 else 0) (hx : ¬ hasIt m s x) (hx' : hasIt m s' x) (e : ∀ k, k ≠ x → (hasIt m s' k ↔ hasIt m s k)) :
    ∀ k, upd was x (was x + 1) k = if hasIt m s' k then 1 else 0 := by
  intro k
  by_cases hk : k = x
  · subst hk; rw [upd_same, h k]; simp [hx, hx']
  · rw [upd_other hk, h k]; simp only [e k hk]

theorem put_ln {s : St} {p : Nat} {a v t b : Int} : (put s p a v t b).ln = upd s.ln p a := rfl

/-- A hand that does nothing begins. -/
theorem Inv.begin0 {m n : Nat} {s : St} {was : Nat → Int} (h : Inv m n s was) (h0 : s.ln 0 = 0) : Inv m n (put s 0 4 0 0 0) was := by
  have hl : lim (put s 0 4 0 0 0) = lim s := by simp [lim, put, upd, h0]
  refine ⟨h.m8, h.pc, by rw [hl]; exact h.low, was_re h.was (fun k => by simp only [hasIt, hl]; simp [put, upd, h0]), ?_, ?_, ?_, ?_, ?_, ?_, ?_, ?_, ?_⟩
  · right; simp [put, upd]
  · simp [put, upd]
  · simp [put, upd]
  · simp [put, upd]
  · simp [put, upd]
  · intro p hp hn; have := h.lp p hp hn; simp only [put, upd_other (show p ≠ 0 by omega)]; exact this
  · intro p hp hn; have := h.t10 p hp hn; simp only [put, upd_other (show p ≠ 0 by omega)]; exact this
  · intro p hp hn; have := h.t11 p hp hn; rw [hl]; simp only [put, upd_other (show p ≠ 0 by omega)]; exact this
  · intro p hp hn; have := h.t12 p hp hn; simp only [put, upd_other (show p ≠ 0 by omega)]; exact this
theorem Inv.begin1 {m n : Nat} {s : St} {was : Nat → Int} (h : Inv m n s was) {p : Nat} (hp : 1 ≤ p) (h0 : s.ln p = 0) : Inv m n (put s p 9 0 0 0) was := by
  have e0 : ∀ f v, upd f p v 0 = f 0 := fun f v => upd_other (show 0 ≠ p by omega)
  have hl : lim (put s p 9 0 0 0) = lim s := by simp [lim, put, e0]
  refine ⟨h.m8, h.pc, by rw [hl]; exact h.low, was_re h.was (fun k => by simp only [hasIt, hl]; simp [put, e0]), ?_, ?_, ?_, ?_, ?_, ?_, ?_, ?_, ?_⟩
  · simp only [put, e0]; exact h.l0
  · simp only [put, e0]; exact h.b5
  · simp only [put, e0]; exact h.six
  · simp only [put, e0]; exact h.sev
  · simp only [put, e0]; exact h.eig
  · intro q hq hn; have := h.lp q hq hn; simp only [put, upd]; split
    · omega
    · exact this
  · intro q hq hn; have := h.t10 q hq hn; simp only [put, upd]; split
    · omega
    · exact this
  · intro q hq hn; have := h.t11 q hq hn; rw [hl]; simp only [put, upd]; split
    · omega
    · exact this
  · intro q hq hn; have := h.t12 q hq hn; simp only [put, upd]; split
    · omega
    · exact this

/-- A thief's step that leaves the ends. -/
theorem Inv.thief {m n : Nat} {s : St} {was : Nat → Int} (h : Inv m n s was) {p : Nat} (hp : 1 ≤ p) {a v t b : Int}
    (ha : a = 0 ∨ 9 ≤ a ∧ a ≤ 12) (h10 : 10 ≤ a → 0 ≤ t ∧ t ≤ s.tp) (h11 : 11 ≤ a → t < m ∧ (t = s.tp → s.tp < lim s)) (h12 : a = 12 → v = t) : Inv m n (put s p a v t b) was := by
  have e0 : ∀ f v, upd f p v 0 = f 0 := fun f v => upd_other (show 0 ≠ p by omega)
  have hl : lim (put s p a v t b) = lim s := by simp [lim, put, e0]
  refine ⟨h.m8, h.pc, by rw [hl]; exact h.low, was_re h.was (fun k => by simp only [hasIt, hl]; simp [put, e0]), ?_, ?_, ?_, ?_, ?_, ?_, ?_, ?_, ?_⟩
  · simp only [put, e0]; exact h.l0
  · simp only [put, e0]; exact h.b5
  · simp only [put, e0]; exact h.six
  · simp only [put, e0]; exact h.sev
  · simp only [put, e0]; exact h.eig
  · intro q hq hn; have := h.lp q hq hn; simp only [put, upd]; split
    · exact ha
    · exact this
  · intro q hq hn; have := h.t10 q hq hn; simp only [put, upd]; split
    · exact h10
    · exact this
  · intro q hq hn; have := h.t11 q hq hn; rw [hl]; simp only [put, upd]; split
    · exact h11
    · exact this
  · intro q hq hn; have := h.t12 q hq hn; simp only [put, upd]; split
    · exact h12
    · exact this

/-- A thief has the piece at the top. -/
theorem Inv.steal {m n : Nat} {s : St} {was : Nat → Int} (h : Inv m n s was) {p : Nat} (hp : 1 ≤ p) (hpn : p < n) (h12 : s.ln p = 12) (ht : s.tp = s.ht p) :
    Inv m n { rest s p with tp := s.ht p + 1 } (upd was (s.vl p).toNat (was (s.vl p).toNat + 1)) ∧ 0 ≤ s.vl p ∧ s.vl p < m := by
  have e0 : ∀ f v, upd f p v 0 = f 0 := fun f v => upd_other (show 0 ≠ p by omega)
  have hv := h.t12 p hp hpn h12
  have h11 := (h.t11 p hp hpn (by omega))
  have hlt := h11.2 ht.symm
  have hlow := h.low
  have hl : lim { rest s p with tp := s.ht p + 1 } = lim s := by simp [lim, put, rest, e0]
  have hs := h.six
  have h8 := h.eig
  have hlim : lim s = s.bt + (if 5 ≤ s.ln 0 then 1 else 0) := rfl
  have ne6 : s.ln 0 ≠ 6 := fun e => by have := h.six e; rw [if_pos (by omega)] at hlim; omega
  have ne8 : s.ln 0 ≠ 8 := fun e => by have := h.eig e; rw [if_pos (by omega)] at hlim; omega
  refine ⟨⟨h.m8, h.pc, by rw [hl]; show 0 ≤ s.ht p + 1 ∧ s.ht p + 1 ≤ lim s ∧ lim s ≤ m; omega, ?_, ?_, ?_, ?_, ?_, ?_, ?_, ?_, ?_, ?_⟩, by omega, by omega⟩
  · refine was_add h.was ?_ ?_ ?_
    · simp only [hasIt]; omega
    · simp only [hasIt, hl]
      show _ ∧ (_ < s.ht p + 1 ∨ _) ∧ ¬ (upd s.ln p 0 0 = 8 ∧ _)
      rw [e0]; omega
    · intro k hk
      simp only [hasIt, hl]
      show (_ ∧ (_ < s.ht p + 1 ∨ _) ∧ ¬ (upd s.ln p 0 0 = 8 ∧ upd s.vl p 0 0 = _)) ↔ _
      rw [e0, e0]; omega
  · simp only [put, rest, e0]; exact h.l0
  · simp only [put, rest, e0]; exact h.b5
  · simp only [put, rest, e0]; exact fun e => absurd e ne6
  · simp only [put, rest, e0]; intro e; have := h.sev e; omega
  · simp only [put, rest, e0]; exact fun e => absurd e ne8
  · intro q hq hn; have := h.lp q hq hn; simp only [put, rest, upd]; split
    · omega
    · exact this
  · intro q hq hn; have := h.t10 q hq hn; simp only [put, rest, upd]; split
    · omega
    · intro x; have := this x; omega
  · intro q hq hn; have := h.t11 q hq hn; have h9 := h.t10 q hq hn; rw [hl]; simp only [put, rest, upd]; split
    · omega
    · intro x; have := this x; have := h9 (by omega); omega
  · intro q hq hn; have := h.t12 q hq hn; simp only [put, rest, upd]; split
    · omega
    · exact this

/-- A step of hand 0: only its own numbers, the ends, and who has what, are new. -/
theorem Inv.own {m n : Nat} {s : St} {was was' : Nat → Int} (h : Inv m n s was) {a v t b : Int} {T B : Int}
    (hlow : 0 ≤ T ∧ T ≤ B + (if 5 ≤ a then 1 else 0) ∧ B + (if 5 ≤ a then 1 else 0) ≤ m) (ha : a = 0 ∨ 4 ≤ a ∧ a ≤ 8) (h5 : 5 ≤ a → b = B) (h6 : a = 6 → t = T ∧ T = B + 1) (h7 : a = 7 → t = B ∧ B ≤ T)
    (h8 : a = 8 → t = B ∧ T = B + 1 ∧ (v = B ∨ v = -1)) (hT : s.tp ≤ T) (hlim : ∀ x, x = T → x = s.tp → s.tp < lim s → T < B + (if 5 ≤ a then 1 else 0))
    (hw : ∀ k, was' k = if hasIt m { put s 0 a v t b with tp := T, bt := B } k then 1 else 0) : Inv m n { put s 0 a v t b with tp := T, bt := B } was' := by
  have hl : lim { put s 0 a v t b with tp := T, bt := B } = B + (if 5 ≤ a then 1 else 0) := by simp [lim, put, upd]
  refine ⟨h.m8, h.pc, by rw [hl]; exact hlow, hw, ?_, ?_, ?_, ?_, ?_, ?_, ?_, ?_, ?_⟩
  · simp only [put, upd_same]; exact ha
  · simp only [put, upd_same]; exact h5
  · simp only [put, upd_same]; exact h6
  · simp only [put, upd_same]; exact h7
  · simp only [put, upd_same]; exact h8
  · intro p hp hn; have := h.lp p hp hn; simp only [put, upd_other (show p ≠ 0 by omega)]; exact this
  · intro p hp hn; have := h.t10 p hp hn; simp only [put, upd_other (show p ≠ 0 by omega)]; intro x; have := this x; omega
  · intro p hp hn; have h1 := h.t11 p hp hn; have h2 := h.t10 p hp hn; rw [hl]; simp only [put, upd_other (show p ≠ 0 by omega)]
    intro x; have := h1 x; have h2 := h2 (by omega)
    refine ⟨this.1, fun e => ?_⟩
    exact hlim (s.ht p) e (by omega) (this.2 (by omega))
  · intro p hp hn; have := h.t12 p hp hn; simp only [put, upd_other (show p ≠ 0 by omega)]; exact this

/-- Everything was had, and hand 0 rests. -/
def Over (s : St) : Prop := s.ln 0 = 0 ∧ s.tp = s.bt
def coef (s : St) : Int := if s.ln 0 = 5 then 3 else if s.ln 0 = 6 then 1 else if s.ln 0 = 7 then 2 else if s.ln 0 = 8 then (if 0 ≤ s.vl 0 then 5 else 1) else 4
/-- How many steps hand 0 has ahead. -/
def mu (s : St) : Int := 8 * (lim s - s.tp) + coef s

theorem Inv.mu_bd {m n : Nat} {s : St} {was : Nat → Int} (h : Inv m n s was) : 1 ≤ mu s ∧ mu s ≤ 69 := by
  have h1 := h.low
  have := h.m8
  have : 1 ≤ coef s ∧ coef s ≤ 5 := by unfold coef; repeat' split <;> omega
  unfold mu; omega

/-- What a step of any hand does. -/
theorem Inv.step0 {m n : Nat} {s : St} {was : Nat → Int} (h : Inv m n s was) (hl : s.ln 0 ≠ 0) :
    Inv m n (stepN s 0) (more s 0 was) ∧ (fin s 0 = true → -2 ≤ got s 0 ∧ got s 0 < 8) ∧ (fin s 0 = true ∧ got s 0 = -1 → Over (stepN s 0)) ∧ (¬ (fin s 0 = true ∧ got s 0 = -1) → mu (stepN s 0) < mu s) := by
  have hm := h.m8
  have hlow := h.low
  have hL : lim s = s.bt + (if 5 ≤ s.ln 0 then 1 else 0) := rfl
  have hcases : s.ln 0 = 4 ∨ s.ln 0 = 5 ∨ s.ln 0 = 6 ∨ s.ln 0 = 7 ∨ s.ln 0 = 8 := by have := h.l0; omega
  rcases hcases with e | e | e | e | e
  · have es : stepN s 0 = { put s 0 5 (s.vl 0) (s.ht 0) (s.bt - 1) with tp := s.tp, bt := s.bt - 1 } := by simp [stepN, e, put]
    have ef : fin s 0 = false := by simp [fin, e]
    have em : more s 0 was = was := by simp [more, ef]
    rw [if_neg (by omega)] at hL
    refine ⟨?_, by simp [ef], by simp [ef], fun _ => ?_⟩
    · rw [es, em]
      refine h.own (by simp; omega) (by omega) (fun _ => rfl) (by omega) (by omega) (by omega) (by omega) (fun x h1 h2 h3 => by simp; omega) (was_re h.was fun k => ?_)
      simp only [hasIt, lim, put, upd_same, e]; simp
    · rw [es]; simp only [mu, coef, lim, put, upd_same, e]; simp <;> omega
  · have hb := h.b5 (by omega)
    rw [if_pos (by omega)] at hL
    by_cases c1 : s.tp < s.hb 0
    · have es : stepN s 0 = { put s 0 0 0 0 0 with tp := s.tp, bt := s.bt } := by simp [stepN, e, put, rest, c1]
      have ef : fin s 0 = true := by simp [fin, e, c1]
      have hx : (s.hb 0).toNat < m := by omega
      have eg : got s 0 = s.hb 0 := by simp only [got, e, c1]; simp; rw [h.pc _ hx]; omega
      have em : more s 0 was = upd was (s.hb 0).toNat (was (s.hb 0).toNat + 1) := by unfold more; rw [if_pos ⟨ef, by omega⟩, eg]
      refine ⟨?_, fun _ => by omega, fun x => by omega, fun _ => ?_⟩
      · rw [es, em]
        refine h.own (by simp; omega) (by omega) (by omega) (by omega) (by omega) (by omega) (by omega) (fun x h1 h2 h3 => by simp; omega) (was_add h.was ?_ ?_ ?_)
        · simp only [hasIt]; omega
        · simp only [hasIt, lim, put, upd_same]; simp <;> omega
        · intro k hk
          simp only [hasIt, hL]
          simp only [lim, put, upd_same, e]; simp <;> omega
      · rw [es]; simp only [mu, coef, lim, put, upd_same, e]; simp <;> omega
    · by_cases c2 : s.hb 0 = s.tp
      · have es : stepN s 0 = { put s 0 7 (s.vl 0) s.tp (s.hb 0) with tp := s.tp, bt := s.bt } := by simp [stepN, e, put, c2]
        have ef : fin s 0 = false := by simp [fin, e]; omega
        have em : more s 0 was = was := by simp [more, ef]
        refine ⟨?_, by simp [ef], by simp [ef], fun _ => ?_⟩
        · rw [es, em]
          refine h.own (by simp; omega) (by omega) (fun _ => hb) (by omega) (by omega) (by omega) (by omega) (fun x h1 h2 h3 => by simp; omega) (was_re h.was fun k => ?_)
          simp only [hasIt, lim, put, upd_same, e]; simp
        · rw [es]; simp only [mu, coef, lim, put, upd_same, e]; simp
      · have es : stepN s 0 = { put s 0 6 (s.vl 0) s.tp (s.hb 0) with tp := s.tp, bt := s.bt } := by simp [stepN, e, put, c1, c2]
        have ef : fin s 0 = false := by simp [fin, e]; omega
        have em : more s 0 was = was := by simp [more, ef]
        refine ⟨?_, by simp [ef], by simp [ef], fun _ => ?_⟩
        · rw [es, em]
          refine h.own (by simp; omega) (by omega) (fun _ => hb) (by omega) (by omega) (by omega) (by omega) (fun x h1 h2 h3 => by simp; omega) (was_re h.was fun k => ?_)
          simp only [hasIt, lim, put, upd_same, e]; simp
        · rw [es]; simp only [mu, coef, lim, put, upd_same, e]; simp
  · have hb := h.six e
    rw [if_pos (by omega)] at hL
    have es : stepN s 0 = { put s 0 0 0 0 0 with tp := s.tp, bt := s.ht 0 } := by simp [stepN, e, put, rest]
    have ef : fin s 0 = true := by simp [fin, e]
    have eg : got s 0 = -1 := by simp [got, e]
    have em : more s 0 was = was := by simp [more, eg]
    refine ⟨?_, fun _ => by omega, fun _ => ?_, fun x => absurd ⟨ef, eg⟩ x⟩
    · rw [es, em]
      refine h.own (by simp; omega) (by omega) (by omega) (by omega) (by omega) (by omega) (by omega) (fun x h1 h2 h3 => by simp; omega) (was_re h.was fun k => ?_)
      simp only [hasIt, hL]
      simp only [lim, put, upd_same, e]; simp <;> omega
    · rw [es]; simp only [Over, put, upd_same]; refine ⟨trivial, ?_⟩; omega
  · have hb := h.sev e
    have hb5 := h.b5 (by omega)
    rw [if_pos (by omega)] at hL
    have ef : fin s 0 = false := by simp [fin, e]
    have em : more s 0 was = was := by simp [more, ef]
    by_cases c1 : s.tp = s.ht 0
    · have hx : (s.hb 0).toNat < m := by omega
      have ev : s.pc (s.hb 0).toNat = s.bt := by rw [h.pc _ hx]; omega
      have es : stepN s 0 = { put s 0 8 s.bt (s.ht 0) (s.hb 0) with tp := s.ht 0 + 1, bt := s.bt } := by simp [stepN, e, put, c1, ev]
      refine ⟨?_, by simp [ef], by simp [ef], fun _ => ?_⟩
      · rw [es, em]
        refine h.own (by simp; omega) (by omega) (fun _ => hb5) (by omega) (by omega) (by omega) (by omega) (fun x h1 h2 h3 => by omega) (was_re h.was fun k => ?_)
        simp only [hasIt, hL]
        simp only [lim, put, upd_same, e]; simp <;> omega
      · rw [es]; simp only [mu, coef, lim, put, upd_same, e]; simp; split <;> omega
    · have es : stepN s 0 = { put s 0 8 (-1) (s.ht 0) (s.hb 0) with tp := s.tp, bt := s.bt } := by simp [stepN, e, put, c1]
      refine ⟨?_, by simp [ef], by simp [ef], fun _ => ?_⟩
      · rw [es, em]
        refine h.own (by simp; omega) (by omega) (fun _ => hb5) (by omega) (by omega) (by omega) (by omega) (fun x h1 h2 h3 => by simp; omega) (was_re h.was fun k => ?_)
        simp only [hasIt, hL]
        simp only [lim, put, upd_same, e]; simp <;> omega
      · rw [es]; simp only [mu, coef, lim, put, upd_same, e]; simp
  · have hb := h.eig e
    rw [if_pos (by omega)] at hL
    have es : stepN s 0 = { put s 0 0 0 0 0 with tp := s.tp, bt := s.ht 0 + 1 } := by simp [stepN, e, put, rest]
    have ef : fin s 0 = true := by simp [fin, e]
    have eg : got s 0 = s.vl 0 := by simp [got, e]
    by_cases c : s.vl 0 = -1
    · have em : more s 0 was = was := by simp [more, eg, c]
      refine ⟨?_, fun _ => by omega, fun _ => ?_, fun x => absurd ⟨ef, eg.trans c⟩ x⟩
      · rw [es, em]
        refine h.own (by simp; omega) (by omega) (by omega) (by omega) (by omega) (by omega) (by omega) (fun x h1 h2 h3 => by simp; omega) (was_re h.was fun k => ?_)
        simp only [hasIt, hL]
        simp only [lim, put, upd_same, e]; simp <;> omega
      · rw [es]; simp only [Over, put, upd_same]; refine ⟨trivial, ?_⟩; omega
    · have hv : s.vl 0 = s.bt := by omega
      by_cases hneg : s.bt < 0
      · omega
      have em : more s 0 was = upd was (s.vl 0).toNat (was (s.vl 0).toNat + 1) := by unfold more; rw [if_pos ⟨ef, by omega⟩, eg]
      refine ⟨?_, fun _ => by omega, fun x => by omega, fun _ => ?_⟩
      · rw [es, em]
        refine h.own (by simp; omega) (by omega) (by omega) (by omega) (by omega) (by omega) (by omega) (fun x h1 h2 h3 => by simp; omega) (was_add h.was ?_ ?_ ?_)
        · simp only [hasIt]; omega
        · simp only [hasIt, lim, put, upd_same]; simp <;> omega
        · intro k hk
          simp only [hasIt, hL]
          simp only [lim, put, upd_same, e]; simp <;> omega
      · rw [es]; simp only [mu, coef, lim, put, upd_same, e]; simp; split <;> omega

theorem Inv.step1 {m n : Nat} {s : St} {was : Nat → Int} (h : Inv m n s was) {p : Nat} (hp : 1 ≤ p) (hpn : p < n) (hl : s.ln p ≠ 0) :
    Inv m n (stepN s p) (more s p was) ∧ (fin s p = true → -2 ≤ got s p ∧ got s p < 8) ∧ (Over s → Over (stepN s p) ∧ more s p was = was) ∧ mu (stepN s p) ≤ mu s ∧ (stepN s p).ln 0 = s.ln 0 := by
  have hm := h.m8
  have hlow := h.low
  have e0 : ∀ f v, upd f p v 0 = f 0 := fun f v => upd_other (show 0 ≠ p by omega)
  have hL : lim s = s.bt + (if 5 ≤ s.ln 0 then 1 else 0) := rfl
  have hcases : s.ln p = 9 ∨ s.ln p = 10 ∨ s.ln p = 11 ∨ s.ln p = 12 := by have := h.lp p hp hpn; omega
  have hput : ∀ a v t b, (put s p a v t b).ln 0 = s.ln 0 ∧ mu (put s p a v t b) = mu s ∧ (Over s → Over (put s p a v t b)) := by
    intro a v t b
    refine ⟨by simp [put, e0], ?_, ?_⟩
    · simp [mu, coef, lim, put, e0]
    · simp [Over, put, e0]
  rcases hcases with e | e | e | e
  · have es : stepN s p = put s p 10 (s.vl p) s.tp (s.hb p) := by simp [stepN, e]
    have ef : fin s p = false := by simp [fin, e]
    have em : more s p was = was := by simp [more, ef]
    obtain ⟨q1, q2, q3⟩ := hput 10 (s.vl p) s.tp (s.hb p)
    rw [es, em]
    exact ⟨h.thief hp (by omega) (fun _ => ⟨hlow.1, Int.le_refl _⟩) (by omega) (by omega), by simp [ef], fun o => ⟨q3 o, rfl⟩, by rw [q2]; exact Int.le_refl _, q1⟩
  · have ht := h.t10 p hp hpn (by omega)
    by_cases c : s.bt ≤ s.ht p
    · have es : stepN s p = put s p 0 0 0 0 := by simp [stepN, e, c, rest]
      have eg : got s p = -1 := by simp [got, e, c]
      have em : more s p was = was := by simp [more, eg]
      obtain ⟨q1, q2, q3⟩ := hput 0 0 0 0
      rw [es, em]
      exact ⟨h.thief hp (by omega) (by omega) (by omega) (by omega), fun _ => by omega, fun o => ⟨q3 o, rfl⟩, by rw [q2]; exact Int.le_refl _, q1⟩
    · have es : stepN s p = put s p 11 (s.vl p) (s.ht p) (s.hb p) := by simp [stepN, e, c]
      have ef : fin s p = false := by simp [fin, e, c]
      have em : more s p was = was := by simp [more, ef]
      obtain ⟨q1, q2, q3⟩ := hput 11 (s.vl p) (s.ht p) (s.hb p)
      rw [es, em]
      have : s.bt ≤ lim s := by rw [hL]; split <;> omega
      exact ⟨h.thief hp (by omega) (fun _ => ht) (fun _ => ⟨by omega, fun _ => by omega⟩) (by omega), by simp [ef], fun o => ⟨q3 o, rfl⟩, by rw [q2]; exact Int.le_refl _, q1⟩
  · have ht := h.t10 p hp hpn (by omega)
    have h11 := h.t11 p hp hpn (by omega)
    have ev : s.pc (s.ht p).toNat = s.ht p := by rw [h.pc _ (by omega)]; omega
    have es : stepN s p = put s p 12 (s.ht p) (s.ht p) (s.hb p) := by simp [stepN, e, ev]
    have ef : fin s p = false := by simp [fin, e]
    have em : more s p was = was := by simp [more, ef]
    obtain ⟨q1, q2, q3⟩ := hput 12 (s.ht p) (s.ht p) (s.hb p)
    rw [es, em]
    exact ⟨h.thief hp (by omega) (fun _ => ht) (fun _ => h11) (fun _ => rfl), by simp [ef], fun o => ⟨q3 o, rfl⟩, by rw [q2]; exact Int.le_refl _, q1⟩
  · have ef : fin s p = true := by simp [fin, e]
    have h11 := h.t11 p hp hpn (by omega)
    by_cases c : s.tp = s.ht p
    · obtain ⟨hi, v0, v1⟩ := h.steal hp hpn e c
      have es : stepN s p = { rest s p with tp := s.ht p + 1 } := by simp [stepN, e, c]
      have eg : got s p = s.vl p := by simp [got, e, c]
      have em : more s p was = upd was (s.vl p).toNat (was (s.vl p).toNat + 1) := by unfold more; rw [if_pos ⟨ef, by omega⟩, eg]
      rw [es, em, eg]
      refine ⟨hi, fun _ => by omega, fun o => ?_, ?_, by simp [put, rest, e0]⟩
      · have := h11.2 c.symm
        rw [if_neg (by have := o.1; omega)] at hL
        have := o.2; omega
      · have el : lim { rest s p with tp := s.ht p + 1 } = lim s := by simp [lim, put, rest, e0]
        have ec : coef { rest s p with tp := s.ht p + 1 } = coef s := by simp [coef, put, rest, e0]
        simp only [mu, el, ec]; omega
    · have es : stepN s p = put s p 0 0 0 0 := by simp [stepN, e, c, rest]
      have eg : got s p = -2 := by simp [got, e, c]
      have em : more s p was = was := by simp [more, eg]
      obtain ⟨q1, q2, q3⟩ := hput 0 0 0 0
      rw [es, em]
      exact ⟨h.thief hp (by omega) (by omega) (by omega) (by omega), fun _ => by omega, fun o => ⟨q3 o, rfl⟩, by rw [q2]; exact Int.le_refl _, q1⟩

theorem Inv.over {m n : Nat} {s : St} {was : Nat → Int} (h : Inv m n s was) (o : Over s) : (∀ k, k < m → was k = 1) ∧ was 8 = 0 := by
  have hL : lim s = s.bt := by simp [lim, o.1]
  have := o.2
  have := o.1
  have := h.m8
  refine ⟨fun k hk => ?_, ?_⟩
  · rw [h.was k, if_pos]; simp only [hasIt]; omega
  · rw [h.was 8, if_neg]; simp only [hasIt]; omega

/-- The deque when so many pieces were pushed. -/
def laid (k : Nat) : St := { first with bt := k, pc := fun j => if j < k then j else 0 }
theorem laid_inv {m n : Nat} (h : m ≤ 8) : Inv m n (laid m) (fun _ => 0) := by
  refine ⟨h, fun k hk => by simp [laid, hk], by simp [laid, first, lim], fun k => ?_, .inl rfl, by simp [laid, first], by simp [laid, first], by simp [laid, first], by simp [laid, first], fun p _ _ => .inl rfl, ?_, ?_, ?_⟩
  · rw [if_neg]; simp [hasIt, laid, first, lim]
  · intro p _ _; simp [laid, first]
  · intro p _ _; simp [laid, first]
  · intro p _ _; simp [laid, first]

/-- How often hand 0 was on from round 300. -/
def hits (n i : Nat) : Int := cnt (fun j => decide (300 ≤ j) && decide (j % n = 0)) i
theorem hits_all {n : Nat} (h1 : 1 ≤ n) (h4 : n ≤ 4) : 100 ≤ hits n 700 := by
  obtain rfl | rfl | rfl | rfl : n = 1 ∨ n = 2 ∨ n = 3 ∨ n = 4 := by omega
  all_goals decide +kernel
theorem hits_low {n i : Nat} (h : i < 300) : hits n (i + 1) = hits n i := cnt_miss (by simp; omega)
theorem hits_zero {n i : Nat} (h : i ≤ 300) : hits n i = 0 := cnt_none (fun j hj => by simp; omega)
theorem hits_on {n i : Nat} (h : 300 ≤ i) (h0 : i % n = 0) : hits n (i + 1) = hits n i + 1 := cnt_hit (by simp [h0]; exact h)
theorem hits_off {n i : Nat} (h0 : i % n ≠ 0) : hits n (i + 1) = hits n i := cnt_miss (by simp [h0])
end Go.Proofs.Ytpdhnmkhobfnbaa.Work
