import Derived.Test.YtgkfgijmccojjaaDoorKit
namespace Go.Proofs.YtgkfgijmccojjaaDoor

/-- SOMETHING COMES ABOUT. A number V that no line of anybody raises; a hand r whose next line lowers it (or brings it about), and that stays the one till it does that line. -/
theorem live2 {St : Type} {n : Nat} (step : St → Nat → St) (tr : St → Nat → St) (tr0 : ∀ s, tr s 0 = s) (tr1 : ∀ s t, tr s (t + 1) = step (tr s t) (t % n))
    (Inv : St → Prop) (goal : St → Nat → Prop) (V : St → Nat) (r : St → Nat)
    (hstep : ∀ s h, Inv s → h < n → goal s h ∨ Inv (step s h)) (hr : ∀ s, Inv s → r s < n)
    (hmove : ∀ s h, Inv s → h < n → goal s h ∨ V (step s h) < V s ∨ (V (step s h) = V s ∧ h ≠ r s ∧ r (step s h) = r s)) :
    ∀ R s, Inv s → V s < R → ∃ t, t < R * n ∧ goal (tr s t) (t % n) := by
  have hround : ∀ s, Inv s → 0 < n → ∀ j, j ≤ n → (∃ t, t < j ∧ goal (tr s t) (t % n)) ∨ (Inv (tr s j) ∧ (V (tr s j) < V s ∨ (V (tr s j) = V s ∧ r (tr s j) = r s ∧ j ≤ r s))) := by
    intro s hs hn j
    induction j with
    | zero => intro _; exact .inr ⟨by rw [tr0]; exact hs, .inr ⟨by rw [tr0], by rw [tr0], by omega⟩⟩
    | succ j ih =>
      intro hj
      have e : j % n = j := Nat.mod_eq_of_lt (by omega)
      rcases ih (by omega) with ⟨t, h1, h2⟩ | ⟨hi, h⟩
      · exact .inl ⟨t, by omega, h2⟩
      · rcases hstep (tr s j) j hi (by omega) with g | hi'
        · exact .inl ⟨j, by omega, by rw [e]; exact g⟩
        · rcases hmove (tr s j) j hi (by omega) with g | g | ⟨g1, g2, g3⟩
          · exact .inl ⟨j, by omega, by rw [e]; exact g⟩
          · refine .inr ⟨by rw [tr1, e]; exact hi', .inl ?_⟩
            rw [tr1, e]; rcases h with h | ⟨h, -⟩ <;> omega
          · refine .inr ⟨by rw [tr1, e]; exact hi', ?_⟩
            rcases h with h | ⟨h1, h2, h3⟩
            · left; rw [tr1, e]; omega
            · right
              refine ⟨by rw [tr1, e]; omega, by rw [tr1, e, g3, h2], ?_⟩
              rw [h2] at g2; omega
  have htr : ∀ s t, tr s (n + t) = tr (tr s n) t := by
    intro s t
    induction t with
    | zero => rw [tr0]; rfl
    | succ t ih => rw [← Nat.add_assoc, tr1, tr1, ih, Nat.add_mod_left]
  intro R
  induction R with
  | zero => intro s _ h; omega
  | succ R ih =>
    intro s hs hV
    have hn : 0 < n := by have := hr s hs; omega
    rcases hround s hs hn n (Nat.le_refl n) with ⟨t, h1, h2⟩ | ⟨hi, h | ⟨-, -, h⟩⟩
    · exact ⟨t, by rw [Nat.succ_mul]; omega, h2⟩
    · obtain ⟨t, h1, h2⟩ := ih (tr s n) hi (by omega)
      exact ⟨n + t, by rw [Nat.succ_mul]; omega, by rw [Nat.add_mod_left, htr]; exact h2⟩
    · have := hr s hs; omega
end Go.Proofs.YtgkfgijmccojjaaDoor
