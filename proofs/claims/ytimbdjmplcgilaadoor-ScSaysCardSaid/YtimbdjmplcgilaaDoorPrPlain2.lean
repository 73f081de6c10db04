import Derived.Test.YtimbdjmplcgilaaDoorPrPlain
namespace Go.Proofs.YtimbdjmplcgilaaDoor.Pr
set_option linter.unusedVariables false
set_option linter.unusedSimpArgs false

/-- A script is played: no state where it names a hand that is not there. -/
def script (p : List (List Ln)) : List Int → St → Option St
  | [], f => some f
  | x :: r, f => if 0 ≤ x ∧ x ≤ (p.length : Int) - 1 then script p r (turn p f x.toNat) else none
/-- What is left is done hand by hand. -/
def ends (p : List (List Ln)) (k : Nat) (f : St) : St := (List.range k).foldl (fun f h => out p h 6 f) f
/-- What a run tells: what is wrong, or registers and words. -/
def run (words : Int) (p : List (List Ln)) (z : List Int) : Int ⊕ List Int :=
  if check words p ≠ 0 then .inl (check words p) else if 40 < z.length then .inl 4 else
    match script p z St.zero with
    | none => .inl 1
    | some f => .inr (result words p (ends p p.length f))
theorem run_some {words : Int} {p : List (List Ln)} {z : List Int} {f : St} (h : check words p = 0) (h4 : ¬ 40 < z.length) (hs : script p z St.zero = some f) : run words p z = .inr (result words p (ends p p.length f)) := by
  unfold run; rw [if_neg (by simpa using h), if_neg h4, hs]
theorem run_none {words : Int} {p : List (List Ln)} {z : List Int} (h : check words p = 0) (h4 : ¬ 40 < z.length) (hs : script p z St.zero = none) : run words p z = .inl 1 := by
  unfold run; rw [if_neg (by simpa using h), if_neg h4, hs]
theorem ends_succ (p : List (List Ln)) (k : Nat) (f : St) : ends p (k + 1) f = out p k 6 (ends p k f) := by
  simp [ends, List.range_succ]
theorem script_drop {p : List (List Ln)} {z : List Int} {k : Nat} {f : St} (h : k < z.length) : script p (z.drop k) f = if 0 ≤ z.getD k 0 ∧ z.getD k 0 ≤ (p.length : Int) - 1 then script p (z.drop (k + 1)) (turn p f (z.getD k 0).toNat) else none := by
  rw [List.drop_eq_getElem_cons h, script]
  simp [List.getD_eq_getElem?_getD, h]
theorem turn_up {p : List (List Ln)} {f : St} {h : Nat} {words : Int} (hf : Fine words p) (ho : Ok f) (h4 : h < 4) (hm : more p f h = true) : f h + 1 ≤ turn p f h h := by
  unfold turn; rw [if_pos hm, done_at h4 h4, if_pos rfl]
  have := (hf.line (ho.at0 h h4).1 hm).v5
  split
  · rename_i q; have := this q.1; omega
  · omega
/-- Enough rounds are enough. -/
theorem out_more {p : List (List Ln)} {h : Nat} {words : Int} (hf : Fine words p) (h4 : h < 4) : ∀ (m : Nat) {f : St}, Ok f → 5 ≤ f h + m → more p (out p h m f) h = false ∧ ∀ m', m ≤ m' → out p h m' f = out p h m f
  | 0, f, ho, hm => by
    have hl := (hf.lines h).1
    have e : more p f h = false := by simp [more]; omega
    refine ⟨e, fun m' _ => ?_⟩
    cases m' with
    | zero => rfl
    | succ m' => simp [out, e]
  | m + 1, f, ho, hm => by
    cases e : more p f h with
    | false =>
      refine ⟨by simp [out, e], fun m' h' => ?_⟩
      cases m' with
      | zero => omega
      | succ m' => simp [out, e]
    | true =>
      have hu := turn_up hf ho h4 e
      obtain ⟨a, b⟩ := out_more hf h4 m (f := turn p f h) (ho.turn hf h4) (by omega)
      refine ⟨by simpa [out, e] using a, fun m' h' => ?_⟩
      cases m' with
      | zero => omega
      | succ m' => simp only [out, e, if_true]; exact b m' (by omega)
theorem Ok.out {p : List (List Ln)} {h : Nat} {words : Int} (hf : Fine words p) (h4 : h < 4) : ∀ (m : Nat) {f : St}, Ok f → Ok (out p h m f)
  | 0, f, ho => ho
  | m + 1, f, ho => by
    unfold Pr.out
    split
    · exact Ok.out hf h4 m (ho.turn hf h4)
    · exact ho
theorem Ok.ends {p : List (List Ln)} {words : Int} (hf : Fine words p) {f : St} (ho : Ok f) : ∀ k, k ≤ 4 → Ok (ends p k f)
  | 0, _ => by simpa [Pr.ends] using ho
  | k + 1, h => by rw [ends_succ]; exact Ok.out hf (by omega) 6 (Ok.ends hf ho k (by omega))
theorem Ok.script {p : List (List Ln)} {words : Int} (hf : Fine words p) : ∀ {z : List Int} {f g : St}, Ok f → script p z f = some g → Ok g
  | [], f, g, ho, h => by simp [Pr.script] at h; exact h ▸ ho
  | x :: r, f, g, ho, h => by
    unfold Pr.script at h
    split at h
    · rename_i hx
      have := hf.n
      exact Ok.script hf (ho.turn hf (by omega)) h
    · simp at h
end Go.Proofs.YtimbdjmplcgilaaDoor.Pr
