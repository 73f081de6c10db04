import Derived.Test.YtpnjmaoacnkjkaaSplitPlain
import Derived.Test.YtpnjmaoacnkjkaaBarPlain
import Derived.Test.YtpnjmaoacnkjkaaLive2
namespace Go.Proofs.Ytpnjmaoacnkjkaa.Split
set_option linter.unusedVariables false

theorem turns_did {n : Nat} {s : St} (h : ∀ q, q < n → 0 ≤ s.did q) (c : Nat) : ∀ j, j ≤ n → ∀ q, q < n → (c : Int) + (if q < j then 1 else 0) ≤ (turns n s (c * n + j)).did q := by
  induction c with
  | zero =>
    intro j
    induction j with
    | zero => intro _ q hq; have := h q hq; simpa [turns] using this
    | succ j ih =>
      intro hj q hq
      have hm : (0 * n + j) % n = j := by rw [Nat.zero_mul, Nat.zero_add]; exact Nat.mod_eq_of_lt (by omega)
      have e : turns n s (0 * n + (j + 1)) = stepN (turns n s (0 * n + j)) j := by
        show step n (turns n s (0 * n + j)) (((0 * n + j) % n : Nat) : Int) = _
        rw [hm, step_nat _ (by omega)]
      have := ih (by omega) q hq
      rw [e, did_step]
      by_cases c : q = j
      · subst c; rw [if_pos (by omega), if_pos rfl]; rw [if_neg (by omega)] at this; omega
      · rw [if_neg c]
        by_cases d : q < j
        · rw [if_pos (by omega)]; rw [if_pos d] at this; exact this
        · rw [if_neg (by omega)]; rw [if_neg d] at this; exact this
  | succ c ihc =>
    intro j
    induction j with
    | zero =>
      intro _ q hq
      have := ihc n (Nat.le_refl n) q hq
      rw [if_pos hq] at this
      have e0 : (c + 1) * n + 0 = c * n + n := by rw [Nat.add_zero, Nat.succ_mul]
      rw [e0, if_neg (by omega)]; omega
    | succ j ih =>
      intro hj q hq
      have hm : ((c + 1) * n + j) % n = j := by rw [Nat.add_comm, Nat.add_mul_mod_self_right]; exact Nat.mod_eq_of_lt (by omega)
      have e : turns n s ((c + 1) * n + (j + 1)) = stepN (turns n s ((c + 1) * n + j)) j := by
        show step n (turns n s ((c + 1) * n + j)) ((((c + 1) * n + j) % n : Nat) : Int) = _
        rw [hm, step_nat _ (by omega)]
      have := ih (by omega) q hq
      rw [e, did_step]
      by_cases c : q = j
      · subst c; rw [if_pos (by omega), if_pos rfl]; rw [if_neg (by omega)] at this; omega
      · rw [if_neg c]
        by_cases d : q < j
        · rw [if_pos (by omega)]; rw [if_pos d] at this; exact this
        · rw [if_neg (by omega)]; rw [if_neg d] at this; exact this
/-- Behind sixteen rounds all have names. -/
theorem Reach.named {n k : Nat} {s : St} (h : Reach n k s) {q : Nat} (hq : q < n) : (Split.turns n s (16 * n)).ln q = 5 := by
  apply Classical.byContradiction
  intro x
  have ht := h.turns (16 * n)
  have hd := turns_did (fun q hq => (h.2.2.pos q hq).2.2) 16 0 (by omega) q hq
  rw [Nat.add_zero, if_neg (by omega)] at hd
  have hm := many_bd n (Split.turns n s (16 * n))
  have h4 := h.2.1
  have h1 : 1 ≤ many n (Split.turns n s (16 * n)) := by
    have := cnt_pos (f := fun h => decide (1 ≤ (Split.turns n s (16 * n)).did h)) (n := n) hq (by rw [decide_eq_true_eq]; omega)
    unfold many; omega
  have := ht.soon hq h1 x
  omega
/-- Then names are below n (n + 1) / 2. -/
theorem Reach.lows {n k : Nat} {s : St} (h : Reach n k s) {q : Nat} (hq : q < n) (h5 : s.ln q = 5) : pl (s.row q) (s.col q) < n * (n + 1) / 2 := by
  obtain ⟨m, e1, e2, e3⟩ := h.few hq h5
  have hm := many_bd n s
  have h4 := h.2.1
  have hmn : m ≤ n := by omega
  have : m * (m + 1) / 2 ≤ n * (n + 1) / 2 := Nat.div_le_div_right (Nat.mul_le_mul hmn (by omega))
  omega
end Go.Proofs.Ytpnjmaoacnkjkaa.Split
namespace Go.Proofs.Ytpnjmaoacnkjkaa.Bar
set_option linter.unusedVariables false

/-- A line of a hand that did not go through yet; else nothing. -/
def gstep (n : Nat) (s : St) (p : Nat) : St := if s.phase p = 0 then stepN n s p else s
/-- Nobody went through twice. -/
def Once (n k : Nat) (s : St) : Prop := Inv n k s ∧ ((s.g = 0 ∧ ∀ h, h < n → s.cd h ≠ 2) ∨ (s.g = 1 ∧ ∀ h, h < n → s.cd h = 0 ∨ s.cd h = 2))
theorem Once.first {n : Nat} (h1 : 1 ≤ n) (h4 : n ≤ 4) : Once n 0 (first n) := ⟨(Reach.first n h1 h4).2.2, .inl ⟨rfl, fun h _ => by simp [Bar.first]⟩⟩
theorem Once.phase {n k : Nat} {s : St} (h : Once n k s) {p : Nat} (hp : p < n) : s.phase p = 0 ∨ s.phase p = 1 := by
  have := h.1.phase p hp
  rcases h.2 with ⟨g, c⟩ | ⟨g, c⟩
  · have := c p hp; rw [if_neg this] at *; omega
  · split at this <;> omega
/-- What a line does to the codes. -/
theorem codes_of {n k : Nat} {s : St} (h : Inv n k s) {p : Nat} (hp : p < n) :
    (s.cd p = 0 ∧ (stepN n s p).g = s.g ∧ ((stepN n s p).cd = upd s.cd p 1 ∨ ((stepN n s p).cd = upd s.cd p 3 ∧ ∀ j, j < n → j ≠ p → s.cd j = 1))) ∨
    (s.cd p = 1 ∧ stepN n s p = s) ∨
    (s.cd p = 2 ∧ (stepN n s p).g = s.g ∧ (stepN n s p).cd = upd s.cd p 0 ∧ (stepN n s p).phase = upd s.phase p (s.phase p + 1)) ∨
    (s.cd p = 3 ∧ (stepN n s p).g = s.g ∧ (stepN n s p).cd = upd s.cd p 4) ∨
    (s.cd p = 4 ∧ (stepN n s p).g = s.g + 1 ∧ (stepN n s p).cd = loosed s.cd p ∧ (stepN n s p).phase = upd s.phase p (s.phase p + 1)) := by
  have hc := h.cd p hp
  have hl := h.ln p hp
  have hm := h.mine p hp
  have hs := h.sense
  obtain e | e | e | e | e : s.cd p = 0 ∨ s.cd p = 1 ∨ s.cd p = 2 ∨ s.cd p = 3 ∨ s.cd p = 4 := by omega
  · left
    have hln : s.ln p = 1 := by rw [hl, e]; rfl
    by_cases h0 : s.count - 1 = 0
    · refine ⟨e, by simp [stepN, hln, h0], .inr ⟨by simp [stepN, hln, h0], ?_⟩⟩
      have hcount := h.count (h.plain hp (.inl e))
      have h1 := cnt_upd (f := s.cd) (n := n) (p := p) (fun x => decide (x = 1)) 1 hp
      simp [e] at h1
      have hf : cnt (fun h => decide (upd s.cd p 1 h = 1)) n = n := by omega
      intro j hj hjp
      have := cnt_all hf j hj
      rw [upd_other hjp] at this
      simpa using this
    · exact ⟨e, by simp [stepN, hln, h0], .inl (by simp [stepN, hln, h0])⟩
  · right; left
    have hln : s.ln p = 4 := by rw [hl, e]; rfl
    have hne : ¬ s.sense = s.mine p := by rw [hs, hm, e]; simp [senseOf]; omega
    exact ⟨e, by simp [stepN, hln, hne]⟩
  · right; right; left
    have hln : s.ln p = 4 := by rw [hl, e]; rfl
    have hne : s.sense = s.mine p := by rw [hs, hm, e]; simp [senseOf]
    exact ⟨e, by simp [stepN, hln, hne], by simp [stepN, hln, hne], by simp [stepN, hln, hne]⟩
  · right; right; right; left
    have hln : s.ln p = 2 := by rw [hl, e]; rfl
    exact ⟨e, by simp [stepN, hln], by simp [stepN, hln]⟩
  · right; right; right; right
    have hln : s.ln p = 3 := by rw [hl, e]; rfl
    exact ⟨e, by simp [stepN, hln], by simp [stepN, hln], by simp [stepN, hln]⟩
theorem Once.gstep {n k : Nat} {s : St} (h : Once n k s) {p : Nat} (hp : p < n) : Once n (k + 1) (gstep n s p) := by
  unfold Bar.gstep
  by_cases h0 : s.phase p = 0
  · rw [if_pos h0]
    refine ⟨h.1.step hp, ?_⟩
    have hph := h.1.phase p hp
    rcases h.2 with ⟨g, c⟩ | ⟨g, c⟩
    · rcases codes_of h.1 hp with ⟨e, a, b | ⟨b, -⟩⟩ | ⟨e, a⟩ | ⟨e, -⟩ | ⟨e, a, b⟩ | ⟨e, a, b, -⟩
      · refine .inl ⟨by omega, fun j hj => ?_⟩
        rw [b]; by_cases x : j = p
        · subst x; rw [upd_same]; omega
        · rw [upd_other x]; exact c j hj
      · refine .inl ⟨by omega, fun j hj => ?_⟩
        rw [b]; by_cases x : j = p
        · subst x; rw [upd_same]; omega
        · rw [upd_other x]; exact c j hj
      · rw [a]; exact .inl ⟨g, c⟩
      · exact absurd e (c p hp)
      · refine .inl ⟨by omega, fun j hj => ?_⟩
        rw [b]; by_cases x : j = p
        · subst x; rw [upd_same]; omega
        · rw [upd_other x]; exact c j hj
      · refine .inr ⟨by omega, fun j hj => ?_⟩
        have hf := (h.1.four p hp e).2
        rw [b]; unfold loosed
        by_cases x : j = p
        · rw [if_pos x]; omega
        · rw [if_neg x, if_pos (hf j hj x)]; omega
    · have e2 : s.cd p = 2 := by
        rcases c p hp with x | x
        · rw [if_neg (by omega)] at hph; omega
        · exact x
      rcases codes_of h.1 hp with ⟨e, -⟩ | ⟨e, -⟩ | ⟨e, a, b, -⟩ | ⟨e, -⟩ | ⟨e, -⟩
      · omega
      · omega
      · refine .inr ⟨by omega, fun j hj => ?_⟩
        rw [b]; by_cases x : j = p
        · subst x; rw [upd_same]; omega
        · rw [upd_other x]; exact c j hj
      · omega
      · omega
  · rw [if_neg h0]; exact ⟨h.1.more, h.2⟩
/-- All that did not go through do a line in turn. -/
def gturns (n : Nat) (s : St) : Nat → St
  | 0 => s
  | t + 1 => gstep n (gturns n s t) (t % n)
theorem Once.gturns {n k : Nat} {s : St} (h : Once n k s) (h1 : 1 ≤ n) (t : Nat) : Once n (k + t) (gturns n s t) := by
  induction t with
  | zero => exact h
  | succ t ih => exact ih.gstep (Nat.mod_lt _ (by omega))
/-- Who is through stays so. -/
theorem gstep_phase {n k : Nat} {s : St} (h : Inv n k s) {p q : Nat} (hp : p < n) (hq : q < n) (h1 : s.phase q = 1) : (gstep n s p).phase q = 1 := by
  unfold Bar.gstep
  by_cases h0 : s.phase p = 0
  · rw [if_pos h0]
    have c : q ≠ p := fun e => by subst e; omega
    have : (stepN n s p).phase q = s.phase q := by
      unfold stepN
      repeat' split
      all_goals first | rfl | exact upd_other c
    omega
  · rw [if_neg h0]; exact h1
def none4 (n : Nat) (s : St) : Bool := decide (cnt (fun h => decide (s.cd h = 4)) n = 0)
def vee (n : Nat) (s : St) : Int := if s.g = 1 then 1 else if none4 n s = true then 3 + cnt (fun h => decide (s.cd h = 0)) n else 2
def busy (s : St) : Nat → Bool := fun h => decide (s.cd h = 0 ∨ s.cd h = 3 ∨ s.cd h = 4)
def who (n q : Nat) (s : St) : Nat := if s.g = 1 then q else pick (busy s) q n
theorem none4_iff {n : Nat} {s : St} : none4 n s = true ↔ ∀ h, h < n → s.cd h ≠ 4 := by
  unfold none4
  rw [decide_eq_true_eq]
  refine ⟨fun h i hi e => ?_, fun h => cnt_none (fun i hi => by simpa using h i hi)⟩
  have := cnt_pos (f := fun h => decide (s.cd h = 4)) (n := n) hi (by simp [e])
  omega
theorem busy_some {n k : Nat} {s : St} (h : Once n k s) (h1 : 1 ≤ n) (h4 : n ≤ 4) (hg : s.g = 0) : ∃ i, i < n ∧ busy s i = true := by
  apply Classical.byContradiction
  intro hx
  rcases h.2 with ⟨-, c⟩ | ⟨g, -⟩
  · have hall : ∀ i, i < n → s.cd i = 1 := fun i hi => by
      have a := h.1.cd i hi
      have b := c i hi
      have d : ¬ (s.cd i = 0 ∨ s.cd i = 3 ∨ s.cd i = 4) := fun e => hx ⟨i, hi, by simp only [busy, decide_eq_true_eq]; exact e⟩
      omega
    have h2 := h.1.count (fun i hi => by have := hall i hi; omega)
    have h3 := h.1.some (fun i hi => by have := hall i hi; omega)
    rw [cnt_full (fun i hi => by simpa using hall i hi)] at h2
    omega
  · omega
theorem vee_bd {n k : Nat} {s : St} (h : Once n k s) (h4 : n ≤ 4) : 0 ≤ vee n s ∧ vee n s < 8 := by
  have := cnt_bd (fun h => decide (s.cd h = 0)) n
  unfold vee
  repeat' split
  all_goals omega
theorem vee_move {n k : Nat} {s : St} (h : Once n k s) (h1 : 1 ≤ n) (h4 : n ≤ 4) {p q : Nat} (hp : p < n) (hq : q < n) (h0 : s.phase q = 0) :
    (gstep n s p).phase q = 1 ∨ ((gstep n s p).phase q = 0 ∧ (vee n (gstep n s p) < vee n s ∨ (vee n (gstep n s p) = vee n s ∧ p ≠ who n q s ∧ who n q (gstep n s p) = who n q s))) := by
  have hg' := (h.gstep hp).phase hq
  by_cases hq1 : (gstep n s p).phase q = 1
  · exact .inl hq1
  right
  refine ⟨by omega, ?_⟩
  by_cases hp0 : s.phase p = 0
  · have hgs : gstep n s p = stepN n s p := by unfold Bar.gstep; rw [if_pos hp0]
    rw [hgs] at hq1 hg' ⊢
    have hph := h.1.phase p hp
    rcases h.2 with ⟨g, c⟩ | ⟨g, c⟩
    · have hb := cnt_bd (fun h => decide (s.cd h = 0)) n
      have hpk := pick_ok (p := q) (busy_some h h1 h4 g)
      rcases codes_of h.1 hp with ⟨e, a, b⟩ | ⟨e, a⟩ | ⟨e, -⟩ | ⟨e, a, b⟩ | ⟨e, a, b, -⟩
      · left
        have hn4 : none4 n s = true := none4_iff.2 (fun j hj => by have := h.1.plain hp (.inl e) j hj; omega)
        have hlow : ∀ v, (v = 1 ∨ v = 3) → (stepN n s p).cd = upd s.cd p v → vee n (stepN n s p) < vee n s := by
          intro v hv hcd
          have hn4' : none4 n (stepN n s p) = true := none4_iff.2 (fun j hj => by
            rw [hcd]; by_cases x : j = p
            · subst x; rw [upd_same]; omega
            · rw [upd_other x]; exact none4_iff.1 hn4 j hj)
          have ht := cnt_upd (f := s.cd) (n := n) (p := p) (fun x => decide (x = 0)) v hp
          simp only [e] at ht
          have hv0 : ¬ (decide (v = 0) = true) := by simp; omega
          rw [if_neg hv0] at ht
          simp at ht
          unfold vee
          rw [a, if_neg (by omega), if_pos hn4', if_neg (by omega), if_pos hn4, hcd]
          omega
        rcases b with b | ⟨b, -⟩
        · exact hlow 1 (.inl rfl) b
        · exact hlow 3 (.inr rfl) b
      · right
        rw [a]
        refine ⟨rfl, fun x => ?_, rfl⟩
        unfold who at x
        rw [if_neg (by omega)] at x
        rw [← x] at hpk
        have := hpk.2
        simp only [busy, decide_eq_true_eq] at this
        omega
      · exact absurd e (c p hp)
      · left
        have hn4 : none4 n s = true := none4_iff.2 (fun j hj => by
          by_cases x : j = p
          · subst x; omega
          · have := (h.1.three p hp e).2 j hj x; omega)
        have hn4' : ¬ none4 n (stepN n s p) = true := fun x => none4_iff.1 x p hp (by rw [b, upd_same])
        unfold vee
        rw [a, if_neg (by omega), if_neg hn4', if_neg (by omega), if_pos hn4]
        omega
      · left
        have hn4 : ¬ none4 n s = true := fun x => none4_iff.1 x p hp e
        unfold vee
        rw [if_pos (by omega), if_neg (by omega), if_neg hn4]; omega
    · have e2 : s.cd p = 2 := by
        rcases c p hp with x | x
        · rw [if_neg (by omega)] at hph; omega
        · exact x
      rcases codes_of h.1 hp with ⟨e, -⟩ | ⟨e, -⟩ | ⟨e, a, b, d⟩ | ⟨e, -⟩ | ⟨e, -⟩
      · omega
      · omega
      · right
        have hpq : p ≠ q := fun x => by subst x; rw [d, upd_same] at hq1; omega
        unfold vee who
        rw [a, if_pos g, if_pos g, if_pos g, if_pos g]
        exact ⟨rfl, hpq, rfl⟩
      · omega
      · omega
  · have hgs : gstep n s p = s := by unfold Bar.gstep; rw [if_neg hp0]
    rw [hgs]
    right
    refine ⟨rfl, fun x => ?_, rfl⟩
    have hph := h.1.phase p hp
    rcases h.2 with ⟨g, c⟩ | ⟨g, c⟩
    · have := c p hp; rw [if_neg this] at hph; omega
    · unfold who at x; rw [if_pos g] at x; subst x; exact hp0 h0
/-- Behind eight rounds all are through. -/
theorem Once.through {n k : Nat} {s : St} (h : Once n k s) (h1 : 1 ≤ n) (h4 : n ≤ 4) {q : Nat} (hq : q < n) : (Bar.gturns n s (8 * n)).phase q = 1 := by
  have stay : ∀ t u, t ≤ u → (Bar.gturns n s t).phase q = 1 → (Bar.gturns n s u).phase q = 1 := by
    intro t u htu h
    induction u with
    | zero => obtain rfl : t = 0 := by omega
              exact h
    | succ u ih =>
      by_cases c : t = u + 1
      · subst c; exact h
      · exact gstep_phase ((‹Once n k s›).gturns h1 u).1 (Nat.mod_lt _ (by omega)) hq (ih (by omega))
  rcases h.phase hq with h0 | h0
  · obtain ⟨t, g1, g2⟩ := live2 (n := n) (fun s h => Bar.gstep n s h) (fun s t => Bar.gturns n s t) (fun _ => rfl) (fun _ _ => rfl)
      (fun s => (∃ k, Once n k s) ∧ s.phase q = 0) (fun s p => (Bar.gstep n s p).phase q = 1) (fun s => (vee n s).toNat) (who n q)
      (fun s p ⟨⟨k, hs⟩, hz⟩ hp => by
        rcases vee_move hs h1 h4 hp hq hz with x | ⟨x, -⟩
        · exact .inl x
        · exact .inr ⟨⟨k + 1, hs.gstep hp⟩, x⟩)
      (fun s ⟨⟨k, hs⟩, hz⟩ => by
        unfold who
        split
        · exact hq
        · rename_i hg
          exact (pick_ok (p := q) (busy_some hs h1 h4 (by rcases hs.2 with ⟨g, -⟩ | ⟨g, -⟩ <;> omega))).1)
      (fun s p ⟨⟨k, hs⟩, hz⟩ hp => by
        have b1 := vee_bd hs h4
        have b2 := vee_bd (hs.gstep hp) h4
        rcases vee_move hs h1 h4 hp hq hz with x | ⟨x, y | ⟨y, z, u⟩⟩
        · exact .inl x
        · exact .inr (.inl (by omega))
        · exact .inr (.inr ⟨by rw [y], z, u⟩))
      8 s ⟨⟨k, h⟩, h0⟩ (by have := vee_bd h h4; omega)
    exact stay (t + 1) (8 * n) g1 g2
  · exact stay 0 (8 * n) (by omega) h0
end Go.Proofs.Ytpnjmaoacnkjkaa.Bar
