import Derived.Test.YtpdhnmkhobfnbaaWorkPlain
namespace Go.Proofs.Ytpdhnmkhobfnbaa.Work
set_option linter.unusedVariables false

theorem Inv.stepP {m n p : Nat} {s : St} {was : Nat → Int} (h : Inv m n s was) (hp : p < n) (hl : s.ln p ≠ 0) :
    Inv m n (stepN s p) (more s p was) ∧ (fin s p = true → -2 ≤ got s p ∧ got s p < 8) ∧ (p = 0 → fin s p = true ∧ got s p = -1 → Over (stepN s p)) ∧
      (p = 0 → ¬ (fin s p = true ∧ got s p = -1) → mu (stepN s p) < mu s) ∧ (p ≠ 0 → mu (stepN s p) ≤ mu s) := by
  by_cases h0 : p = 0
  · subst h0
    obtain ⟨a, b, c, d⟩ := h.step0 hl
    exact ⟨a, b, fun _ => c, fun _ => d, fun x => absurd rfl x⟩
  · obtain ⟨a, b, -, d, -⟩ := h.step1 (by omega) hp hl
    exact ⟨a, b, fun x => absurd x h0, fun x => absurd x h0, fun _ => d⟩
theorem mu_begin0 {s : St} (h : s.ln 0 = 0) : mu (put s 0 4 0 0 0) = mu s := by
  simp [mu, lim, coef, put, upd, h]
theorem mu_begin1 {s : St} {p : Nat} (h : p ≠ 0) : mu (put s p 9 0 0 0) = mu s := by
  have e0 : ∀ f v, upd f p v 0 = f 0 := fun f v => upd_other (show 0 ≠ p by omega)
  simp [mu, lim, coef, put, e0]
theorem round_ok {n k p : Nat} {a b : Int} (hk : k < 700) (h70 : hits n k + a ≤ 70) (hmid0 : p = 0 → b < a) (hmid1 : p ≠ 0 → b ≤ a) (hpk : 300 ≤ k → p = k % n) : hits n (k + 1) + b ≤ 70 := by
  by_cases h3 : 300 ≤ k
  · have e := hpk h3
    by_cases h0 : p = 0
    · have := hmid0 h0
      rw [hits_on h3 (by omega)]; omega
    · have := hmid1 h0
      rw [hits_off (by omega)]; omega
  · rw [hits_low (by omega)]
    by_cases h0 : p = 0
    · have := hmid0 h0; omega
    · have := hmid1 h0; omega
theorem more_no {s : St} {p : Nat} {was : Nat → Int} (h : more s p was = was) : ¬ (fin s p = true ∧ 0 ≤ got s p) := by
  intro x
  have := congrFun h (got s p).toNat
  unfold more at this
  rw [if_pos x, upd_same] at this
  omega
theorem more_yes {s : St} {p g : Nat} {was : Nat → Int} (h : fin s p = true) (hg : got s p = (g : Int)) : more s p was = upd was g (was g + 1) := by
  unfold more
  rw [if_pos ⟨h, by omega⟩, hg]; simp
theorem more_not {s : St} {p : Nat} {was : Nat → Int} (h : ¬ (fin s p = true ∧ 0 ≤ got s p)) : more s p was = was := by
  unfold more; rw [if_neg h]
theorem Inv.wasb {m n : Nat} {s : St} {was : Nat → Int} (h : Inv m n s was) (k : Nat) : 0 ≤ was k ∧ was k ≤ 1 := by
  rw [h.was k]; split <;> omega
/-- The deque amid a push. -/
def mid (k j : Nat) : St := if j = 0 then put (laid k) 0 1 k 0 0 else if j = 1 then put (laid k) 0 2 k 0 0 else if j = 2 then { put (laid k) 0 3 k 0 0 with pc := upd (laid k).pc k k } else laid (k + 1)
theorem mid_step0 (k : Nat) : stepN (mid k 0) 0 = mid k 1 := by
  simp [mid, stepN, put, laid, first, upd_same, upd_upd]
theorem mid_step1 (k : Nat) : stepN (mid k 1) 0 = mid k 2 := by
  simp [mid, stepN, put, laid, first, upd_same, upd_upd]
theorem mid_step2 (k : Nat) : stepN (mid k 2) 0 = mid k 3 := by
  simp [mid, stepN, put, laid, first, rest, upd_same, upd_upd]
  repeat' apply And.intro
  all_goals funext j
  all_goals simp only [upd]
  all_goals (repeat' split) <;> first | rfl | omega
end Go.Proofs.Ytpdhnmkhobfnbaa.Work
