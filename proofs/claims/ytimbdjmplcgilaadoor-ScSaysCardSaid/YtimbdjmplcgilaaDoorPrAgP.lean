import Derived.Test.YtimbdjmplcgilaaDoorPrPlain2
namespace Go.Proofs.YtimbdjmplcgilaaDoor.Pr
set_option linter.unusedVariables false
set_option linter.unusedSimpArgs false

/-- So many rounds as lines are left are enough. -/
theorem out_len {p : List (List Ln)} {h : Nat} {words : Int} (hf : Fine words p) (h4 : h < 4) : ∀ (m : Nat) {f : St}, Ok f → ((lines p h).length : Int) ≤ f h + m → more p (out p h m f) h = false ∧ ∀ m', m ≤ m' → out p h m' f = out p h m f
  | 0, f, ho, hm => by
    have e : more p f h = false := by simp [more]; omega
    refine ⟨e, fun m' _ => ?_⟩
    cases m' with
    | zero => rfl
    | succ m' => simp [out, e]
  | m + 1, f, ho, hm => by
    cases e : more p f h with
    | false =>
      refine ⟨by simp [out, e], fun m' h' => ?_⟩
      cases m' with
      | zero => omega
      | succ m' => simp [out, e]
    | true =>
      have hu := turn_up hf ho h4 e
      obtain ⟨a, b⟩ := out_len hf h4 m (f := turn p f h) (ho.turn hf h4) (by omega)
      refine ⟨by simpa [out, e] using a, fun m' h' => ?_⟩
      cases m' with
      | zero => omega
      | succ m' => simp only [out, e, if_true]; exact b m' (by omega)
theorem script_rep {p : List (List Ln)} {h : Nat} (hh : h < p.length) : ∀ (m : Nat) (f : St), script p (List.replicate m (h : Int)) f = some (out p h m f)
  | 0, f => rfl
  | m + 1, f => by
    rw [List.replicate_succ, script, if_pos (by omega), show ((h : Int)).toNat = h by omega, script_rep hh m]
    show _ = some (if more p f h then out p h m (turn p f h) else f)
    cases e : more p f h with
    | true => simp
    | false =>
      have et : turn p f h = f := by unfold turn; rw [e]; simp
      have eo : ∀ m, out p h m f = f := by intro m; cases m <;> simp [out, e]
      rw [et, eo]; simp
theorem script_append {p : List (List Ln)} : ∀ (a b : List Int) (f : St), script p (a ++ b) f = (script p a f).bind (script p b)
  | [], b, f => rfl
  | x :: a, b, f => by
    rw [List.cons_append, script, script]
    split
    · exact script_append a b _
    · rfl
/-- The script that says just that. -/
def says (p : List (List Ln)) (k : Nat) : List Int := (List.range k).flatMap fun h => List.replicate (lines p h).length (h : Int)
theorem says_succ (p : List (List Ln)) (k : Nat) : says p (k + 1) = says p k ++ List.replicate (lines p k).length (k : Int) := by simp [says, List.range_succ]
theorem says_len {p : List (List Ln)} {words : Int} (hf : Fine words p) : ∀ k, (says p k).length ≤ 5 * k
  | 0 => by simp [says]
  | k + 1 => by
    rw [says_succ]
    have := says_len hf k
    have := (hf.lines k).1
    simp; omega
theorem script_says {p : List (List Ln)} {words : Int} (hf : Fine words p) : ∀ k, k ≤ p.length → script p (says p k) St.zero = some (ends p k St.zero)
  | 0, _ => rfl
  | k + 1, h => by
    rw [says_succ, script_append, script_says hf k (by omega), ends_succ]
    simp only [Option.bind_some]
    rw [script_rep (by omega)]
    have hn := hf.n
    have ho := Ok.ends hf ok_zero k (by omega)
    have h0 := (ho.at0 k (by omega)).1
    have h5 := (hf.lines k).1
    have a := (out_len hf (h := k) (by omega) (lines p k).length ho (by omega)).2 6 (by omega)
    rw [a]
theorem out_other {p : List (List Ln)} {h i : Nat} (h4 : h < 4) (hi : i < 4) (hne : i ≠ h) : ∀ (m : Nat) (f : St), out p h m f i = f i
  | 0, f => rfl
  | m + 1, f => by
    show (if more p f h then out p h m (turn p f h) else f) i = f i
    cases e : more p f h with
    | true =>
      simp only [if_true]
      rw [out_other h4 hi hne m, show turn p f h = done f h (line p f h) by unfold turn; rw [if_pos e], done_at hi h4, if_neg hne]
    | false => simp
theorem ends_done {p : List (List Ln)} {words : Int} (hf : Fine words p) {f : St} (ho : Ok f) : ∀ k, k ≤ p.length → ∀ h, h < k → more p (ends p k f) h = false
  | 0, _, h, hk => by omega
  | k + 1, hl, h, hk => by
    have hn := hf.n
    rw [ends_succ]
    have hoe := Ok.ends hf ho k (by omega)
    by_cases e : h = k
    · subst e
      exact (out_more hf (by omega) 6 hoe (by have := (hoe.at0 h (by omega)).1; omega)).1
    · have := ends_done hf ho k (by omega) h (by omega)
      unfold more at this ⊢
      rw [out_other (by omega) (by omega) e]; exact this
theorem ends_same {p : List (List Ln)} {f : St} (h : ∀ h, h < p.length → more p f h = false) : ∀ k, k ≤ p.length → ends p k f = f
  | 0, _ => rfl
  | k + 1, hl => by
    rw [ends_succ, ends_same h k (by omega)]
    simp [out, h k (by omega)]
theorem run_says {words : Int} {p : List (List Ln)} (h : check words p = 0) : run words p (says p p.length) = run words p [] := by
  have hf := fine_of h
  have hn := hf.n
  have hl := says_len hf p.length
  rw [run_some h (by omega) (script_says hf p.length (Nat.le_refl _)), run_some h (by simp) (show script p [] St.zero = some St.zero from rfl)]
  rw [ends_same (ends_done hf ok_zero p.length (Nat.le_refl _)) p.length (Nat.le_refl _)]
theorem result_len {words : Int} {p : List (List Ln)} {f : St} (hw : 0 ≤ words) : ((result words p f).length : Int) = 2 * p.length + words := by
  simp [result]; omega
end Go.Proofs.YtimbdjmplcgilaaDoor.Pr
