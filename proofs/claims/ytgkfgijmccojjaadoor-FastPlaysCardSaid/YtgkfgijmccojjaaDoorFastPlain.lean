import Derived.Test.YtgkfgijmccojjaaDoorKit
import Derived.Test.YtgkfgijmccojjaaDoorLive2
namespace Go.Proofs.YtgkfgijmccojjaaDoor.Fast
set_option linter.unusedVariables false

/-- The lock of n hands. wd: X, Y, B of each hand; ln, kk: of each hand its line, whom it looks at. -/
structure St where
  wd : Nat → Int
  ln : Nat → Int
  kk : Nat → Int

def first (_ : Nat) : St := { wd := fun _ => 0, ln := fun _ => 1, kk := fun _ => 0 }

def stepN (n : Nat) (s : St) (p : Nat) : St :=
  if s.ln p = 1 then { s with wd := upd s.wd (2 + p) 1, ln := upd s.ln p 2 }
  else if s.ln p = 2 then { s with wd := upd s.wd 0 (p + 1), ln := upd s.ln p 3 }
  else if s.ln p = 3 then { s with ln := upd s.ln p (if s.wd 1 = 0 then 6 else 4) }
  else if s.ln p = 4 then { s with wd := upd s.wd (2 + p) 0, ln := upd s.ln p 5 }
  else if s.ln p = 5 then { s with ln := upd s.ln p (if s.wd 1 = 0 then 1 else 5) }
  else if s.ln p = 6 then { s with wd := upd s.wd 1 (p + 1), ln := upd s.ln p 7 }
  else if s.ln p = 7 then { s with ln := upd s.ln p (if s.wd 0 = p + 1 then 12 else 8) }
  else if s.ln p = 8 then { wd := upd s.wd (2 + p) 0, kk := upd s.kk p 0, ln := upd s.ln p 9 }
  else if s.ln p = 9 then
    (if s.wd (2 + (s.kk p).toNat) = 0 then { s with kk := upd s.kk p (s.kk p + 1), ln := upd s.ln p (if s.kk p + 1 = n then 10 else 9) } else { s with ln := upd s.ln p 9 })
  else if s.ln p = 10 then { s with ln := upd s.ln p (if s.wd 1 = p + 1 then 12 else 11) }
  else if s.ln p = 11 then { s with ln := upd s.ln p (if s.wd 1 = 0 then 1 else 11) }
  else if s.ln p = 12 then { s with ln := upd s.ln p 13 }
  else if s.ln p = 13 then { s with wd := upd s.wd 1 0, ln := upd s.ln p 14 }
  else { s with wd := upd s.wd (2 + p) 0, ln := upd s.ln p 1 }

def step (n : Nat) (s : St) (p : Int) : St := if 0 ≤ p ∧ p < n then stepN n s p.toNat else s
def line (n : Nat) (s : St) (p : Int) : Int := if 0 ≤ p ∧ p < n then s.ln p.toNat else 0
def isIn (n : Nat) (s : St) (j : Nat) : Bool := line n s j == 12

/-- What a line of a hand does. -/
inductive Move (n : Nat) (s t : St) (p : Nat) : Prop
  | m1 (a : s.ln p = 1) (b : t.ln p = 2) (k : t.kk p = s.kk p) (c : t.wd (2 + p) = 1) (x : t.wd 0 = s.wd 0) (y : t.wd 1 = s.wd 1)
  | m2 (a : s.ln p = 2) (b : t.ln p = 3) (k : t.kk p = s.kk p) (c : t.wd (2 + p) = s.wd (2 + p)) (x : t.wd 0 = p + 1) (y : t.wd 1 = s.wd 1)
  | m3a (a : s.ln p = 3) (b : t.ln p = 4) (k : t.kk p = s.kk p) (c : t.wd (2 + p) = s.wd (2 + p)) (x : t.wd 0 = s.wd 0) (y : t.wd 1 = s.wd 1) (v : s.wd 1 ≠ 0)
  | m3b (a : s.ln p = 3) (b : t.ln p = 6) (k : t.kk p = s.kk p) (c : t.wd (2 + p) = s.wd (2 + p)) (x : t.wd 0 = s.wd 0) (y : t.wd 1 = s.wd 1) (v : s.wd 1 = 0)
  | m4 (a : s.ln p = 4) (b : t.ln p = 5) (k : t.kk p = s.kk p) (c : t.wd (2 + p) = 0) (x : t.wd 0 = s.wd 0) (y : t.wd 1 = s.wd 1)
  | m5a (a : s.ln p = 5) (b : t.ln p = 1) (k : t.kk p = s.kk p) (c : t.wd (2 + p) = s.wd (2 + p)) (x : t.wd 0 = s.wd 0) (y : t.wd 1 = s.wd 1) (v : s.wd 1 = 0)
  | m5b (a : s.ln p = 5) (b : t.ln p = 5) (k : t.kk p = s.kk p) (c : t.wd (2 + p) = s.wd (2 + p)) (x : t.wd 0 = s.wd 0) (y : t.wd 1 = s.wd 1) (v : s.wd 1 ≠ 0)
  | m6 (a : s.ln p = 6) (b : t.ln p = 7) (k : t.kk p = s.kk p) (c : t.wd (2 + p) = s.wd (2 + p)) (x : t.wd 0 = s.wd 0) (y : t.wd 1 = p + 1)
  | m7a (a : s.ln p = 7) (b : t.ln p = 12) (k : t.kk p = s.kk p) (c : t.wd (2 + p) = s.wd (2 + p)) (x : t.wd 0 = s.wd 0) (y : t.wd 1 = s.wd 1) (v : s.wd 0 = p + 1)
  | m7b (a : s.ln p = 7) (b : t.ln p = 8) (k : t.kk p = s.kk p) (c : t.wd (2 + p) = s.wd (2 + p)) (x : t.wd 0 = s.wd 0) (y : t.wd 1 = s.wd 1) (v : s.wd 0 ≠ p + 1)
  | m8 (a : s.ln p = 8) (b : t.ln p = 9) (k : t.kk p = 0) (c : t.wd (2 + p) = 0) (x : t.wd 0 = s.wd 0) (y : t.wd 1 = s.wd 1)
  | m9a (a : s.ln p = 9) (b : t.ln p = 10) (k : t.kk p = s.kk p + 1) (c : t.wd (2 + p) = s.wd (2 + p)) (x : t.wd 0 = s.wd 0) (y : t.wd 1 = s.wd 1) (v : s.wd (2 + (s.kk p).toNat) = 0) (u : s.kk p + 1 = n)
  | m9b (a : s.ln p = 9) (b : t.ln p = 9) (k : t.kk p = s.kk p + 1) (c : t.wd (2 + p) = s.wd (2 + p)) (x : t.wd 0 = s.wd 0) (y : t.wd 1 = s.wd 1) (v : s.wd (2 + (s.kk p).toNat) = 0) (u : s.kk p + 1 ≠ n)
  | m9c (a : s.ln p = 9) (b : t.ln p = 9) (k : t.kk p = s.kk p) (c : t.wd (2 + p) = s.wd (2 + p)) (x : t.wd 0 = s.wd 0) (y : t.wd 1 = s.wd 1) (v : s.wd (2 + (s.kk p).toNat) ≠ 0)
  | m10a (a : s.ln p = 10) (b : t.ln p = 12) (k : t.kk p = s.kk p) (c : t.wd (2 + p) = s.wd (2 + p)) (x : t.wd 0 = s.wd 0) (y : t.wd 1 = s.wd 1) (v : s.wd 1 = p + 1)
  | m10b (a : s.ln p = 10) (b : t.ln p = 11) (k : t.kk p = s.kk p) (c : t.wd (2 + p) = s.wd (2 + p)) (x : t.wd 0 = s.wd 0) (y : t.wd 1 = s.wd 1) (v : s.wd 1 ≠ p + 1)
  | m11a (a : s.ln p = 11) (b : t.ln p = 1) (k : t.kk p = s.kk p) (c : t.wd (2 + p) = s.wd (2 + p)) (x : t.wd 0 = s.wd 0) (y : t.wd 1 = s.wd 1) (v : s.wd 1 = 0)
  | m11b (a : s.ln p = 11) (b : t.ln p = 11) (k : t.kk p = s.kk p) (c : t.wd (2 + p) = s.wd (2 + p)) (x : t.wd 0 = s.wd 0) (y : t.wd 1 = s.wd 1) (v : s.wd 1 ≠ 0)
  | m12 (a : s.ln p = 12) (b : t.ln p = 13) (k : t.kk p = s.kk p) (c : t.wd (2 + p) = s.wd (2 + p)) (x : t.wd 0 = s.wd 0) (y : t.wd 1 = s.wd 1)
  | m13 (a : s.ln p = 13) (b : t.ln p = 14) (k : t.kk p = s.kk p) (c : t.wd (2 + p) = s.wd (2 + p)) (x : t.wd 0 = s.wd 0) (y : t.wd 1 = 0)
  | m14 (a : s.ln p = 14) (b : t.ln p = 1) (k : t.kk p = s.kk p) (c : t.wd (2 + p) = 0) (x : t.wd 0 = s.wd 0) (y : t.wd 1 = s.wd 1)
/-- What it leaves as it was. -/
structure Rest (s t : St) (p : Nat) : Prop where
  ln : ∀ g, g ≠ p → t.ln g = s.ln g
  kk : ∀ g, g ≠ p → t.kk g = s.kk g
  b : ∀ g, g ≠ p → t.wd (2 + g) = s.wd (2 + g)

theorem moves {n : Nat} {s : St} {p : Nat} (hl : 1 ≤ s.ln p ∧ s.ln p ≤ 14) : Rest s (stepN n s p) p ∧ Move n s (stepN n s p) p := by
  have hcase : s.ln p = 1 ∨ s.ln p = 2 ∨ s.ln p = 3 ∨ s.ln p = 4 ∨ s.ln p = 5 ∨ s.ln p = 6 ∨ s.ln p = 7 ∨ s.ln p = 8 ∨ s.ln p = 9 ∨ s.ln p = 10 ∨ s.ln p = 11 ∨ s.ln p = 12 ∨ s.ln p = 13 ∨ s.ln p = 14 := by omega
  rcases hcase with e | e | e | e | e | e | e | e | e | e | e | e | e | e
  · have hst : stepN n s p = { s with wd := upd s.wd (2 + p) 1, ln := upd s.ln p 2 } := by simp [stepN, e]
    rw [hst]
    exact ⟨⟨fun g c => upd_other c, fun g c => rfl, fun g c => upd_other (by omega)⟩, .m1 e (upd_same _ _ _) rfl (upd_same _ _ _) (upd_other (by omega)) (upd_other (by omega))⟩
  · have hst : stepN n s p = { s with wd := upd s.wd 0 (p + 1), ln := upd s.ln p 3 } := by simp [stepN, e]
    rw [hst]
    exact ⟨⟨fun g c => upd_other c, fun g c => rfl, fun g c => upd_other (by omega)⟩, .m2 e (upd_same _ _ _) rfl (upd_other (by omega)) rfl rfl⟩
  · have hst : stepN n s p = { s with ln := upd s.ln p (if s.wd 1 = 0 then 6 else 4) } := by simp [stepN, e]
    rw [hst]
    refine ⟨⟨fun g c => upd_other c, fun g c => rfl, fun g c => rfl⟩, ?_⟩
    by_cases v : s.wd 1 = 0
    · exact .m3b e (by simp only [upd_same]; rw [if_pos v]) rfl rfl rfl rfl v
    · exact .m3a e (by simp only [upd_same]; rw [if_neg v]) rfl rfl rfl rfl v
  · have hst : stepN n s p = { s with wd := upd s.wd (2 + p) 0, ln := upd s.ln p 5 } := by simp [stepN, e]
    rw [hst]
    exact ⟨⟨fun g c => upd_other c, fun g c => rfl, fun g c => upd_other (by omega)⟩, .m4 e (upd_same _ _ _) rfl (upd_same _ _ _) (upd_other (by omega)) (upd_other (by omega))⟩
  · have hst : stepN n s p = { s with ln := upd s.ln p (if s.wd 1 = 0 then 1 else 5) } := by simp [stepN, e]
    rw [hst]
    refine ⟨⟨fun g c => upd_other c, fun g c => rfl, fun g c => rfl⟩, ?_⟩
    by_cases v : s.wd 1 = 0
    · exact .m5a e (by simp only [upd_same]; rw [if_pos v]) rfl rfl rfl rfl v
    · exact .m5b e (by simp only [upd_same]; rw [if_neg v]) rfl rfl rfl rfl v
  · have hst : stepN n s p = { s with wd := upd s.wd 1 (p + 1), ln := upd s.ln p 7 } := by simp [stepN, e]
    rw [hst]
    exact ⟨⟨fun g c => upd_other c, fun g c => rfl, fun g c => upd_other (by omega)⟩, .m6 e (upd_same _ _ _) rfl (upd_other (by omega)) rfl rfl⟩
  · have hst : stepN n s p = { s with ln := upd s.ln p (if s.wd 0 = p + 1 then 12 else 8) } := by simp [stepN, e]
    rw [hst]
    refine ⟨⟨fun g c => upd_other c, fun g c => rfl, fun g c => rfl⟩, ?_⟩
    by_cases v : s.wd 0 = p + 1
    · exact .m7a e (by simp only [upd_same]; rw [if_pos v]) rfl rfl rfl rfl v
    · exact .m7b e (by simp only [upd_same]; rw [if_neg v]) rfl rfl rfl rfl v
  · have hst : stepN n s p = { wd := upd s.wd (2 + p) 0, kk := upd s.kk p 0, ln := upd s.ln p 9 } := by simp [stepN, e]
    rw [hst]
    exact ⟨⟨fun g c => upd_other c, fun g c => upd_other c, fun g c => upd_other (by omega)⟩, .m8 e (upd_same _ _ _) (upd_same _ _ _) (upd_same _ _ _) (upd_other (by omega)) (upd_other (by omega))⟩
  · by_cases v : s.wd (2 + (s.kk p).toNat) = 0
    · have hst : stepN n s p = { s with kk := upd s.kk p (s.kk p + 1), ln := upd s.ln p (if s.kk p + 1 = n then 10 else 9) } := by simp [stepN, e, v]
      rw [hst]
      refine ⟨⟨fun g c => upd_other c, fun g c => upd_other c, fun g c => rfl⟩, ?_⟩
      by_cases u : s.kk p + 1 = n
      · exact .m9a e (by simp only [upd_same]; rw [if_pos u]) (upd_same _ _ _) rfl rfl rfl v u
      · exact .m9b e (by simp only [upd_same]; rw [if_neg u]) (upd_same _ _ _) rfl rfl rfl v u
    · have hst : stepN n s p = { s with ln := upd s.ln p 9 } := by simp [stepN, e, v]
      rw [hst]
      exact ⟨⟨fun g c => upd_other c, fun g c => rfl, fun g c => rfl⟩, .m9c e (upd_same _ _ _) rfl rfl rfl rfl v⟩
  · have hst : stepN n s p = { s with ln := upd s.ln p (if s.wd 1 = p + 1 then 12 else 11) } := by simp [stepN, e]
    rw [hst]
    refine ⟨⟨fun g c => upd_other c, fun g c => rfl, fun g c => rfl⟩, ?_⟩
    by_cases v : s.wd 1 = p + 1
    · exact .m10a e (by simp only [upd_same]; rw [if_pos v]) rfl rfl rfl rfl v
    · exact .m10b e (by simp only [upd_same]; rw [if_neg v]) rfl rfl rfl rfl v
  · have hst : stepN n s p = { s with ln := upd s.ln p (if s.wd 1 = 0 then 1 else 11) } := by simp [stepN, e]
    rw [hst]
    refine ⟨⟨fun g c => upd_other c, fun g c => rfl, fun g c => rfl⟩, ?_⟩
    by_cases v : s.wd 1 = 0
    · exact .m11a e (by simp only [upd_same]; rw [if_pos v]) rfl rfl rfl rfl v
    · exact .m11b e (by simp only [upd_same]; rw [if_neg v]) rfl rfl rfl rfl v
  · have hst : stepN n s p = { s with ln := upd s.ln p 13 } := by simp [stepN, e]
    rw [hst]
    exact ⟨⟨fun g c => upd_other c, fun g c => rfl, fun g c => rfl⟩, .m12 e (upd_same _ _ _) rfl rfl rfl rfl⟩
  · have hst : stepN n s p = { s with wd := upd s.wd 1 0, ln := upd s.ln p 14 } := by simp [stepN, e]
    rw [hst]
    exact ⟨⟨fun g c => upd_other c, fun g c => rfl, fun g c => upd_other (by omega)⟩, .m13 e (upd_same _ _ _) rfl (upd_other (by omega)) rfl rfl⟩
  · have hst : stepN n s p = { s with wd := upd s.wd (2 + p) 0, ln := upd s.ln p 1 } := by simp [stepN, e]
    rw [hst]
    exact ⟨⟨fun g c => upd_other c, fun g c => rfl, fun g c => upd_other (by omega)⟩, .m14 e (upd_same _ _ _) rfl (upd_same _ _ _) (upd_other (by omega)) (upd_other (by omega))⟩

/-- Has the lock, up to the line that gives it back. -/
def Has (s : St) (p : Nat) : Prop := s.ln p = 12 ∨ s.ln p = 13

structure Inv (n : Nat) (s : St) : Prop where
  ln : ∀ h, h < n → 1 ≤ s.ln h ∧ s.ln h ≤ 14
  b : ∀ h, h < n → (s.ln h = 1 ∨ s.ln h = 5 ∨ s.ln h = 9 ∨ s.ln h = 10 ∨ s.ln h = 11 → s.wd (2 + h) = 0) ∧ (s.ln h = 2 ∨ s.ln h = 3 ∨ s.ln h = 4 ∨ s.ln h = 6 ∨ s.ln h = 7 ∨ s.ln h = 8 → s.wd (2 + h) = 1) ∧ (s.wd (2 + h) = 0 ∨ s.wd (2 + h) = 1)
  kk : ∀ h, h < n → 0 ≤ s.kk h ∧ s.kk h ≤ n ∧ (s.ln h = 9 → s.kk h < n)
  y : s.wd 1 = 0 ∨ ∃ q : Nat, q < n ∧ s.wd 1 = q + 1 ∧ 7 ≤ s.ln q ∧ s.ln q ≤ 13 ∧ s.ln q ≠ 11
  g : ∀ p q : Nat, p < n → q < n → p ≠ q → (s.ln p = 6 ∨ s.ln p = 7 ∨ (Has s p ∧ s.wd (2 + p) = 1)) → ((s.ln q = 9 ∧ (p : Int) < s.kk q) ∨ s.ln q = 10) → s.wd 1 ≠ q + 1
  f1 : ∀ p q : Nat, p < n → q < n → p ≠ q → Has s q → s.wd (2 + q) = 1 → (s.ln p = 6 ∨ s.ln p = 7) → s.wd 0 ≠ p + 1
  f2 : ∀ p q : Nat, p < n → q < n → p ≠ q → Has s q → s.wd (2 + q) = 0 → s.ln p ≠ 6 ∧ s.ln p ≠ 7
  f3 : ∀ q : Nat, q < n → Has s q → s.wd (2 + q) = 0 → s.wd 1 = q + 1
  one : ∀ p q : Nat, p < n → q < n → p ≠ q → Has s p → Has s q → False
  yn : ∀ q, q < n → Has s q → s.wd 1 ≠ 0
  p7 : ∀ p : Nat, p < n → s.ln p = 7 → s.wd 0 = p + 1 → s.wd 1 ≠ 0
  l0 : s.wd 1 = 0 → ∃ q, q < n ∧ (s.ln q = 14 ∨ s.ln q = 1 ∨ s.ln q = 2 ∨ s.ln q = 3 ∨ s.ln q = 6)

/-- What every state that a script reaches is. -/
def Reach (n _k : Nat) (s : St) : Prop := 1 ≤ n ∧ n ≤ 4 ∧ Inv n s

theorem Reach.first (n : Nat) (h1 : 1 ≤ n) (h4 : n ≤ 4) : Reach n 0 (Fast.first n) := by
  refine ⟨h1, h4, ?_⟩
  exact { ln := fun h _ => by simp [Fast.first], b := fun h _ => by simp [Fast.first], kk := fun h _ => by simp [Fast.first], y := .inl rfl, g := fun p q _ _ _ x => by simp [Fast.first, Has] at x, f1 := fun p q _ _ _ x => by simp [Fast.first, Has] at x, f2 := fun p q _ _ _ x => by simp [Fast.first, Has] at x, f3 := fun q _ x => by simp [Fast.first, Has] at x, one := fun p q _ _ _ x => by simp [Fast.first, Has] at x, yn := fun q _ x => by simp [Fast.first, Has] at x, p7 := fun p _ x => by simp [Fast.first] at x, l0 := fun _ => ⟨0, by omega, by simp [Fast.first]⟩ }

set_option maxHeartbeats 4000000 in
theorem Inv.move {n : Nat} {s t : St} (h : Inv n s) {p : Nat} (hp : p < n) (R : Rest s t p) (M : Move n s t p) : Inv n t := by
  have hl := h.ln p hp
  have hb := h.b p hp
  have hk := h.kk p hp
  have hyn := h.yn p hp
  have hp7 := h.p7 p hp
  have hf3 := h.f3 p hp
  unfold Has at hyn hf3
  have hsc : ∀ a : Nat, s.kk p = a → s.wd (2 + (s.kk p).toNat) = s.wd (2 + a) := fun a e => by rw [e]; rfl
  exact {
    ln := fun g hg => by
      by_cases c : g = p
      · subst c; cases M <;> omega
      · rw [R.ln g c]; exact h.ln g hg
    b := fun g hg => by
      by_cases c : g = p
      · subst c; clear hyn hp7 hf3; cases M <;> omega
      · rw [R.ln g c, R.b g c]; exact h.b g hg
    kk := fun g hg => by
      by_cases c : g = p
      · subst c; clear hyn hp7 hf3 hb; cases M <;> omega
      · rw [R.ln g c, R.kk g c]; exact h.kk g hg
    y := by
      have keep : t.wd 1 = s.wd 1 → (s.wd 1 = (p : Int) + 1 → 7 ≤ s.ln p → s.ln p ≤ 13 → s.ln p ≠ 11 → 7 ≤ t.ln p ∧ t.ln p ≤ 13 ∧ t.ln p ≠ 11) → (t.wd 1 = 0 ∨ ∃ q : Nat, q < n ∧ t.wd 1 = q + 1 ∧ 7 ≤ t.ln q ∧ t.ln q ≤ 13 ∧ t.ln q ≠ 11) := by
        intro e1 e2
        rw [e1]
        rcases h.y with y | ⟨q, q1, q2, q3, q4, q5⟩
        · exact .inl y
        · right
          by_cases c : q = p
          · subst c; exact ⟨q, q1, q2, e2 q2 q3 q4 q5⟩
          · exact ⟨q, q1, q2, by rw [R.ln q c]; exact ⟨q3, q4, q5⟩⟩
      clear hb hk hyn hp7 hf3
      cases M with
      | m6 a b k c x y => exact .inr ⟨p, hp, y, by omega, by omega, by omega⟩
      | m13 a b k c x y => exact .inl y
      | m10b a b k c x y v => exact keep y (fun z => absurd z v)
      | m1 a b k c x y => exact keep y (by omega)
      | m2 a b k c x y => exact keep y (by omega)
      | m3a a b k c x y v => exact keep y (by omega)
      | m3b a b k c x y v => exact keep y (by omega)
      | m4 a b k c x y => exact keep y (by omega)
      | m5a a b k c x y v => exact keep y (by omega)
      | m5b a b k c x y v => exact keep y (by omega)
      | m7a a b k c x y v => exact keep y (by omega)
      | m7b a b k c x y v => exact keep y (by omega)
      | m8 a b k c x y => exact keep y (by omega)
      | m9a a b k c x y v u => exact keep y (by omega)
      | m9b a b k c x y v u => exact keep y (by omega)
      | m9c a b k c x y v => exact keep y (by omega)
      | m10a a b k c x y v => exact keep y (by omega)
      | m11a a b k c x y v => exact keep y (by omega)
      | m11b a b k c x y v => exact keep y (by omega)
      | m12 a b k c x y => exact keep y (by omega)
      | m14 a b k c x y => exact keep y (by omega)
    g := fun a q ha hq haq => by
      have old := h.g a q ha hq haq
      unfold Has at old ⊢
      by_cases ca : a = p
      · subst ca
        have cq : q ≠ a := fun e => haq e.symm
        rw [R.ln q cq, R.kk q cq]
        clear hp7 hf3 hyn hk
        cases M <;> omega
      · by_cases cq : q = p
        · subst cq
          rw [R.ln a ca, R.b a ca]
          have hba := h.b a ha
          have hla := h.ln a ha
          have hs := hsc a
          clear hp7 hf3 hyn hsc hb
          cases M <;> (intro x z; omega)
        · rw [R.ln a ca, R.b a ca, R.ln q cq, R.kk q cq]
          clear hp7 hf3 hyn hsc hb hk
          cases M <;> omega
    f1 := fun a q ha hq haq => by
      have old := h.f1 a q ha hq haq
      unfold Has at old ⊢
      by_cases ca : a = p
      · subst ca
        have cq : q ≠ a := fun e => haq e.symm
        rw [R.ln q cq, R.b q cq]
        have hy2 := h.yn q hq
        unfold Has at hy2
        clear hp7 hf3 hyn hk hsc hb
        cases M <;> omega
      · by_cases cq : q = p
        · subst cq
          rw [R.ln a ca]
          clear hp7 hf3 hyn hsc hk
          cases M <;> omega
        · rw [R.ln a ca, R.ln q cq, R.b q cq]
          clear hp7 hf3 hyn hsc hb hk
          cases M <;> omega
    f2 := fun a q ha hq haq => by
      have old := h.f2 a q ha hq haq
      unfold Has at old ⊢
      by_cases ca : a = p
      · subst ca
        have cq : q ≠ a := fun e => haq e.symm
        rw [R.ln q cq, R.b q cq]
        have hy2 := h.yn q hq
        unfold Has at hy2
        clear hp7 hf3 hyn hk hsc hb
        cases M <;> omega
      · by_cases cq : q = p
        · subst cq
          rw [R.ln a ca]
          have hg := h.g a q ha hq haq
          unfold Has at hg
          clear hp7 hf3 hyn hsc hk
          cases M <;> omega
        · rw [R.ln a ca, R.ln q cq, R.b q cq]; exact old
    f3 := fun q hq => by
      have old := h.f3 q hq
      unfold Has at old ⊢
      by_cases cq : q = p
      · subst cq
        clear hp7 hyn hsc hk
        cases M <;> omega
      · rw [R.ln q cq, R.b q cq]
        have hf2 := h.f2 p q hp hq (fun e => cq e.symm)
        have h1 := h.one p q hp hq (fun e => cq e.symm)
        unfold Has at hf2 h1
        clear hp7 hyn hsc hk hb hf3
        cases M with
        | m6 a b k c x y => intro z1 z2; have := hf2 z1 z2; omega
        | m13 a b k c x y => intro z1; exact absurd z1 (fun z => h1 (.inr a) z)
        | _ => omega
    one := fun a q ha hq haq => by
      have key : ∀ q, q < n → q ≠ p → Has t p → Has s q → False := by
        intro q hq hqp x y
        have o1 := h.one p q hp hq (fun e => hqp e.symm)
        have a1 := h.f1 p q hp hq (fun e => hqp e.symm) y
        have a2 := h.f2 p q hp hq (fun e => hqp e.symm) y
        have a3 := h.f3 q hq y
        have a4 := h.g q p hq hp hqp
        have a5 := (h.b q hq).2.2
        unfold Has at x o1 a4 y
        clear hp7 hyn hsc hk hb hf3
        cases M with
        | m7a a b k c x y v =>
          rcases a5 with z | z
          · have := a2 z; omega
          · exact a1 z (.inr a) v
        | m10a a b k c x y' v =>
          rcases a5 with z | z
          · have := a3 z; omega
          · exact a4 (.inr (.inr ⟨y, z⟩)) (.inr a) v
        | m12 a b k c x y' => exact o1 (.inl a) y
        | _ => omega
      intro x y
      by_cases ca : a = p
      · subst ca
        have cq : q ≠ a := fun e => haq e.symm
        exact key q hq cq x (by unfold Has at y ⊢; rw [R.ln q cq] at y; exact y)
      · by_cases cq : q = p
        · subst cq
          exact key a ha ca y (by unfold Has at x ⊢; rw [R.ln a ca] at x; exact x)
        · exact h.one a q ha hq haq (by unfold Has at x ⊢; rw [R.ln a ca] at x; exact x) (by unfold Has at y ⊢; rw [R.ln q cq] at y; exact y)
    yn := fun q hq => by
      have old := h.yn q hq
      unfold Has at old ⊢
      by_cases cq : q = p
      · subst cq
        clear hf3 hsc hk hb
        cases M <;> omega
      · rw [R.ln q cq]
        have h1 := h.one p q hp hq (fun e => cq e.symm)
        unfold Has at h1
        clear hf3 hsc hk hb hyn hp7
        cases M with
        | m13 a b k c x y => intro z; exact absurd z (fun z => h1 (.inr a) z)
        | _ => omega
    p7 := fun q hq => by
      have old := h.p7 q hq
      by_cases cq : q = p
      · subst cq
        clear hf3 hsc hk hb
        cases M <;> omega
      · rw [R.ln q cq]
        have a1 := h.f1 q p hq hp cq
        have a2 := h.f2 q p hq hp cq
        unfold Has at a1 a2
        clear hf3 hsc hk hyn hp7
        cases M with
        | m13 a b k c x y =>
          intro z1 z2
          rcases hb.2.2 with z | z
          · have := a2 (.inr a) z; omega
          · exact absurd (x ▸ z2) (a1 (.inr a) z (.inr z1))
        | _ => omega
    l0 := by
      have keep : (s.wd 1 = 0 ∧ (s.ln p = 14 ∨ s.ln p = 1 ∨ s.ln p = 2 ∨ s.ln p = 3 ∨ s.ln p = 6 → t.ln p = 14 ∨ t.ln p = 1 ∨ t.ln p = 2 ∨ t.ln p = 3 ∨ t.ln p = 6)) → ∃ q, q < n ∧ (t.ln q = 14 ∨ t.ln q = 1 ∨ t.ln q = 2 ∨ t.ln q = 3 ∨ t.ln q = 6) := by
        intro ⟨e1, e2⟩
        obtain ⟨q, q1, q2⟩ := h.l0 e1
        by_cases c : q = p
        · subst c; exact ⟨q, q1, e2 q2⟩
        · exact ⟨q, q1, by rw [R.ln q c]; exact q2⟩
      intro z
      clear hf3 hsc hk hyn hp7 hb
      cases M with
      | m13 a b k c x y => exact ⟨p, hp, .inl b⟩
      | m6 a b k c x y => omega
      | m1 a b k c x y => exact keep ⟨by omega, by omega⟩
      | m2 a b k c x y => exact keep ⟨by omega, by omega⟩
      | m3a a b k c x y v => omega
      | m3b a b k c x y v => exact keep ⟨by omega, by omega⟩
      | m4 a b k c x y => exact keep ⟨by omega, by omega⟩
      | m5a a b k c x y v => exact keep ⟨by omega, by omega⟩
      | m5b a b k c x y v => exact keep ⟨by omega, by omega⟩
      | m7a a b k c x y v => exact keep ⟨by omega, by omega⟩
      | m7b a b k c x y v => exact keep ⟨by omega, by omega⟩
      | m8 a b k c x y => exact keep ⟨by omega, by omega⟩
      | m9a a b k c x y v u => exact keep ⟨by omega, by omega⟩
      | m9b a b k c x y v u => exact keep ⟨by omega, by omega⟩
      | m9c a b k c x y v => exact keep ⟨by omega, by omega⟩
      | m10a a b k c x y v => exact keep ⟨by omega, by omega⟩
      | m10b a b k c x y v => exact keep ⟨by omega, by omega⟩
      | m11a a b k c x y v => exact keep ⟨by omega, by omega⟩
      | m11b a b k c x y v => exact keep ⟨by omega, by omega⟩
      | m12 a b k c x y => exact keep ⟨by omega, by omega⟩
      | m14 a b k c x y => exact keep ⟨by omega, by omega⟩ }

theorem Inv.step {n : Nat} {s : St} (h : Inv n s) {p : Nat} (hp : p < n) : Inv n (stepN n s p) := by
  obtain ⟨R, M⟩ := moves (n := n) (h.ln p hp)
  exact h.move hp R M
theorem step_nat {n : Nat} (s : St) {p : Nat} (h : p < n) : step n s (p : Int) = stepN n s p := by
  unfold step; rw [if_pos (by omega)]; rfl
theorem line_nat {n : Nat} (s : St) {p : Nat} (h : p < n) : line n s (p : Int) = s.ln p := by
  unfold line; rw [if_pos (by omega)]; rfl
theorem Reach.step {n k : Nat} {s : St} (h : Reach n k s) (p : Int) : Reach n (k + 1) (step n s p) := by
  obtain ⟨h1, h4, hi⟩ := h
  by_cases hp : 0 ≤ p ∧ p < n
  · obtain ⟨m, rfl⟩ := Int.eq_ofNat_of_zero_le hp.1
    rw [step_nat s (by omega)]
    exact ⟨h1, h4, hi.step (by omega)⟩
  · unfold Fast.step
    rw [if_neg hp]
    exact ⟨h1, h4, hi⟩
theorem Reach.fine {n k : Nat} {s : St} (h : Reach n k s) {p : Nat} (hp : p < n) : 1 ≤ s.ln p ∧ s.ln p ≤ 14 := h.2.2.ln p hp
theorem Reach.one {n k : Nat} {s : St} (h : Reach n k s) (i j : Nat) (hi : i < n) (hj : j < n) (h1 : isIn n s i = true) (h2 : isIn n s j = true) : i = j := by
  simp only [isIn, line_nat s hi, line_nat s hj, beq_iff_eq] at h1 h2
  by_cases e : i = j
  · exact e
  · exact (h.2.2.one i j hi hj e (.inl h1) (.inl h2)).elim

/-- k lines of hand p. -/
def self (n : Nat) (s : St) (p : Nat) : Nat → St
  | 0 => s
  | k + 1 => step n (self n s p k) p
theorem self_reach {n k : Nat} {s : St} (h : Reach n k s) (p i : Nat) : Reach n (k + i) (self n s p i) := by
  induction i with
  | zero => exact h
  | succ i ih => exact ih.step p
/-- Who is alone is in soon. -/
theorem Reach.soon {n k : Nat} {s : St} (h : Reach n k s) (hall : ∀ g, g < n → s.ln g = 1) {p : Nat} (hp : p < n) : (self n s p 5).ln p = 12 := by
  have hy : s.wd 1 = 0 := by
    rcases h.2.2.y with y | ⟨q, q1, q2, q3, -⟩
    · exact y
    · have := hall q q1; omega
  have e : self n s p 5 = stepN n (stepN n (stepN n (stepN n (stepN n s p) p) p) p) p := by
    simp only [self, step_nat _ hp]
  have h1 := hall p hp
  have e1 : stepN n s p = { s with wd := upd s.wd (2 + p) 1, ln := upd s.ln p 2 } := by simp [stepN, h1]
  have e2 : stepN n { s with wd := upd s.wd (2 + p) 1, ln := upd s.ln p 2 } p = { s with wd := upd (upd s.wd (2 + p) 1) 0 (p + 1), ln := upd (upd s.ln p 2) p 3 } := by simp [stepN, upd_same]
  have e3 : stepN n { s with wd := upd (upd s.wd (2 + p) 1) 0 (p + 1), ln := upd (upd s.ln p 2) p 3 } p = { s with wd := upd (upd s.wd (2 + p) 1) 0 (p + 1), ln := upd (upd (upd s.ln p 2) p 3) p 6 } := by
    have : upd (upd s.wd (2 + p) 1) 0 (p + 1) 1 = 0 := by rw [upd_other (by omega), upd_other (by omega)]; exact hy
    simp [stepN, upd_same, this]
  have e4 : stepN n { s with wd := upd (upd s.wd (2 + p) 1) 0 (p + 1), ln := upd (upd (upd s.ln p 2) p 3) p 6 } p = { s with wd := upd (upd (upd s.wd (2 + p) 1) 0 (p + 1)) 1 (p + 1), ln := upd (upd (upd (upd s.ln p 2) p 3) p 6) p 7 } := by simp [stepN, upd_same]
  rw [e, e1, e2, e3, e4]
  have : upd (upd (upd s.wd (2 + p) 1) 0 (p + 1)) 1 (p + 1) 0 = p + 1 := by rw [upd_other (by omega), upd_same]
  simp [stepN, upd_same, this]

/-- Hand 1 alone, line by line. -/
def alone : Nat → St
  | 0 => first 2
  | k + 1 => step 2 (alone k) 1
theorem alone_reach (k : Nat) : Reach 2 k (alone k) := by
  induction k with
  | zero => exact Reach.first 2 (by omega) (by omega)
  | succ k ih => exact ih.step 1
theorem alone_out (k : Nat) (h : k < 4) : (line 2 (alone (k + 1)) 1 == 12) = false := by
  obtain rfl | rfl | rfl | rfl := (by omega : k = 0 ∨ k = 1 ∨ k = 2 ∨ k = 3)
  all_goals decide
theorem alone_in : (line 2 (alone 5) 1 == 12) = true := by decide
theorem alone_zero : line 2 (alone 5) 0 = 1 := by decide

/-- All do a line in turn: behind t lines. -/
def turns (n : Nat) (s : St) : Nat → St
  | 0 => s
  | t + 1 => step n (turns n s t) ((t % n : Nat) : Int)
/-- Was hand q in, at one of t lines? -/
def was (n : Nat) (s : St) (q : Nat) : Nat → Bool
  | 0 => false
  | t + 1 => was n s q t || (t % n == q && isIn n (turns n s (t + 1)) q)
theorem was_of {n : Nat} {s : St} {q T t : Nat} (ht : t < T) (h1 : t % n = q) (h2 : isIn n (turns n s (t + 1)) q = true) : was n s q T = true := by
  induction T with
  | zero => omega
  | succ T ih =>
    unfold was
    by_cases e : t = T
    · subst e; simp [h1, h2]
    · rw [ih (by omega)]; rfl
theorem Reach.turns {n k : Nat} {s : St} (h : Reach n k s) (t : Nat) : Reach n (k + t) (turns n s t) := by
  induction t with
  | zero => exact h
  | succ t ih => exact ih.step _

/-- How often somebody came in, at t lines. -/
def ins (n : Nat) (s : St) : Nat → Int
  | 0 => 0
  | t + 1 => ins n s t + (if isIn n (turns n s (t + 1)) (t % n) = true then 1 else 0)
theorem ins_mono {n : Nat} {s : St} {a b : Nat} (h : a ≤ b) : ins n s a ≤ ins n s b := by
  induction b with
  | zero => obtain rfl : a = 0 := by omega
            exact Int.le_refl _
  | succ b ih =>
    by_cases c : a = b + 1
    · subst c; exact Int.le_refl _
    · have := ih (by omega); simp only [ins]; split <;> omega
theorem ins_hit {n : Nat} {s : St} {a t b : Nat} (h1 : a ≤ t) (h2 : t < b) (h : isIn n (turns n s (t + 1)) (t % n) = true) : ins n s a + 1 ≤ ins n s b := by
  have x := ins_mono (n := n) (s := s) h1
  have y := ins_mono (n := n) (s := s) (show t + 1 ≤ b from h2)
  have z : ins n s (t + 1) = ins n s t + 1 := by simp [ins, h]
  omega
theorem ins_bd (n : Nat) (s : St) (t : Nat) : 0 ≤ ins n s t ∧ ins n s t ≤ t := by
  induction t with
  | zero => simp [ins]
  | succ t ih => simp only [ins]; split <;> omega

/-- On the way to line 6. -/
def Way (s : St) (r : Nat) : Prop := s.ln r = 14 ∨ s.ln r = 1 ∨ s.ln r = 2 ∨ s.ln r = 3 ∨ s.ln r = 6
/-- How far from line 7, when Y is 0. -/
def ew (s : St) (r : Nat) : Int := if s.ln r = 14 then 5 else if s.ln r = 1 then 4 else if s.ln r = 2 then 3 else if s.ln r = 3 then 2 else 1
/-- How far from where it stays, or comes in, when Y is not 0. -/
def cw (n : Nat) (s : St) (q : Nat) : Int :=
  if s.ln q = 14 then 5 else if s.ln q = 1 then 4 else if s.ln q = 2 then 3 else if s.ln q = 3 then 2 else if s.ln q = 4 then 1
  else if s.ln q = 6 then n + 4 else if s.ln q = 7 then n + 3 else if s.ln q = 8 then n + 2 else if s.ln q = 9 then n - s.kk q + 1 else if s.ln q = 10 then 1 else 0
def Hold (s : St) (r : Nat) : Bool := decide (s.ln r = 12) || decide (s.ln r = 13)
def vee (n r : Nat) (s : St) : Int :=
  if Hold s r = true then 39 + (14 - s.ln r) else if s.wd 1 = 0 then 33 + ew s r else sumTo (cw n s) n
def free (s : St) : Nat → Bool := fun q => !(decide (s.ln q = 5) || decide (s.ln q = 11) || (decide (s.ln q = 9) && decide (s.wd (2 + (s.kk q).toNat) ≠ 0)))
def who (n r : Nat) (s : St) : Nat := if Hold s r = true then r else if s.wd 1 = 0 then r else pick (free s) r n
/-- Nobody but r has the lock; while Y is 0 r is on the way. -/
def Inr (n r : Nat) (s : St) : Prop := Inv n s ∧ (∀ q, q < n → Has s q → q = r) ∧ (s.wd 1 = 0 → Way s r)

theorem hold_iff {s : St} {r : Nat} : Hold s r = true ↔ Has s r := by simp [Hold, Has]
theorem cw_bd {n : Nat} {s : St} (h : Inv n s) {q : Nat} (hq : q < n) : 0 ≤ cw n s q ∧ cw n s q ≤ n + 4 := by
  have := h.kk q hq
  unfold cw
  repeat' split
  all_goals omega
theorem cw_sum {n : Nat} {s : St} (h : Inv n s) (h4 : n ≤ 4) : 0 ≤ sumTo (cw n s) n ∧ sumTo (cw n s) n ≤ 32 := by
  have key : ∀ m, m ≤ n → 0 ≤ sumTo (cw n s) m ∧ sumTo (cw n s) m ≤ 8 * m := by
    intro m
    induction m with
    | zero => intro _; simp [sumTo]
    | succ m ih =>
      intro hm
      have := ih (by omega)
      have := cw_bd h (q := m) (by omega)
      simp only [sumTo]; omega
  have := key n (Nat.le_refl n); omega
theorem free_some {n : Nat} {s : St} (h : Inv n s) (h1 : 1 ≤ n) (hy : s.wd 1 ≠ 0) (hno : ∀ q, q < n → ¬ Has s q) : ∃ q, q < n ∧ free s q = true := by
  apply Classical.byContradiction
  intro hx
  have hall : ∀ q, q < n → s.ln q = 5 ∨ s.ln q = 11 ∨ (s.ln q = 9 ∧ s.wd (2 + (s.kk q).toNat) ≠ 0) := by
    intro q hq
    cases c : free s q with
    | true => exact absurd ⟨q, hq, c⟩ hx
    | false =>
      simp only [free, Bool.not_eq_false', Bool.or_eq_true, Bool.and_eq_true, decide_eq_true_eq] at c
      rcases c with (c | c) | c
      · exact .inl c
      · exact .inr (.inl c)
      · exact .inr (.inr c)
  rcases h.y with y | ⟨q, q1, q2, q3, q4, q5⟩
  · exact hy y
  · rcases hall q q1 with z | z | ⟨z, z2⟩
    · omega
    · omega
    · have hk := h.kk q q1
      have hb := h.b (s.kk q).toNat (by omega)
      have := hall (s.kk q).toNat (by omega)
      have : s.wd (2 + (s.kk q).toNat) = 0 := hb.1 (by omega)
      exact z2 this
theorem who_lt {n r : Nat} {s : St} (h : Inr n r s) (h1 : 1 ≤ n) (hr : r < n) : who n r s < n := by
  unfold who
  by_cases c : Hold s r = true
  · rw [if_pos c]; exact hr
  · rw [if_neg c]
    by_cases y : s.wd 1 = 0
    · rw [if_pos y]; exact hr
    · rw [if_neg y]
      exact (pick_ok (p := r) (free_some h.1 h1 y (fun q hq x => c (hold_iff.2 (h.2.1 q hq x ▸ x))))).1

/-- Each line: somebody comes in, or the measure falls, or nothing turns. -/
theorem vee_move {n r : Nat} {s : St} (h : Inr n r s) (h1 : 1 ≤ n) (h4 : n ≤ 4) (hr : r < n) {p : Nat} (hp : p < n) :
    (s.ln p ≠ 12 ∧ (stepN n s p).ln p = 12) ∨ (Inr n r (stepN n s p) ∧ (vee n r (stepN n s p) < vee n r s ∨ (vee n r (stepN n s p) = vee n r s ∧ p ≠ who n r s ∧ who n r (stepN n s p) = who n r s))) := by
  obtain ⟨hi, hu, hw⟩ := h
  obtain ⟨R, M⟩ := moves (n := n) (hi.ln p hp)
  have hi' := hi.step hp
  generalize stepN n s p = t at R M hi'
  have hl := hi.ln p hp
  have hk := hi.kk p hp
  by_cases hin : s.ln p ≠ 12 ∧ t.ln p = 12
  · exact .inl hin
  · right
    have hu' : ∀ q, q < n → Has t q → q = r := by
      intro q hq x
      by_cases c : q = p
      · subst c
        refine hu q hq ?_
        unfold Has at x ⊢
        cases M <;> omega
      · exact hu q hq (by unfold Has at x ⊢; rw [R.ln q c] at x; exact x)
    by_cases hh : Has s r
    · -- r has the lock
      have hhold := hold_iff.2 hh
      by_cases c : p = r
      · subst c
        have hp7 := hi.yn p hp hh
        unfold Has at hh
        rcases hh with e | e
        · have ht : t.ln p = 13 ∧ t.wd 1 = s.wd 1 := by cases M <;> omega
          have hhold' : Hold t p = true := hold_iff.2 (.inr ht.1)
          refine ⟨⟨hi', hu', fun z => by omega⟩, .inl ?_⟩
          unfold vee; rw [if_pos hhold, if_pos hhold']; omega
        · have ht : t.ln p = 14 ∧ t.wd 1 = 0 := by cases M <;> omega
          have hhold' : ¬ Hold t p = true := fun x => by have := hold_iff.1 x; unfold Has at this; omega
          refine ⟨⟨hi', hu', fun z => .inl ht.1⟩, .inl ?_⟩
          unfold vee ew; rw [if_pos hhold, if_neg hhold', if_pos ht.2, if_pos ht.1]; omega
      · have c' : r ≠ p := fun e => c e.symm
        have hh' : Has t r := by unfold Has at hh ⊢; rw [R.ln r c']; exact hh
        have hhold' := hold_iff.2 hh'
        have hy' := hi'.yn r hr hh'
        refine ⟨⟨hi', hu', fun z => absurd z hy'⟩, .inr ?_⟩
        unfold vee who
        simp only [if_pos hhold, if_pos hhold', R.ln r c']
        exact ⟨trivial, c, trivial⟩
    · have hno : ∀ q, q < n → ¬ Has s q := fun q hq x => hh (hu q hq x ▸ x)
      have hhold : ¬ Hold s r = true := fun x => hh (hold_iff.1 x)
      have hno' : ¬ Has t p := by
        have := hno p hp
        unfold Has at this ⊢
        cases M <;> omega
      have hh' : ¬ Has t r := by
        by_cases c : r = p
        · subst c; exact hno'
        · unfold Has at hh ⊢; rw [R.ln r c]; exact hh
      have hhold' : ¬ Hold t r = true := fun x => hh' (hold_iff.1 x)
      have hnp := hno p hp
      unfold Has at hnp
      by_cases hy : s.wd 1 = 0
      · -- Y is 0
        have hway := hw hy
        by_cases h6 : s.ln p = 6
        · have ht : t.wd 1 = p + 1 := by cases M <;> omega
          refine ⟨⟨hi', hu', fun z => by omega⟩, .inl ?_⟩
          have hs := cw_sum hi' h4
          unfold vee; rw [if_neg hhold, if_neg hhold', if_pos hy, if_neg (by omega)]
          unfold ew
          repeat' split
          all_goals omega
        · have ht : t.wd 1 = 0 := by cases M <;> omega
          by_cases c : p = r
          · subst c
            unfold Way at hway
            have hb : Way t p ∧ ew t p < ew s p := by
              unfold Way ew
              cases M with
              | m1 a b => exact ⟨by omega, by rw [if_neg (by omega), if_neg (by omega), if_pos b, if_neg (by omega), if_pos a]; omega⟩
              | m2 a b => exact ⟨by omega, by rw [if_neg (by omega), if_neg (by omega), if_neg (by omega), if_pos b, if_neg (by omega), if_neg (by omega), if_pos a]; omega⟩
              | m3b a b => exact ⟨by omega, by rw [if_neg (by omega), if_neg (by omega), if_neg (by omega), if_neg (by omega), if_neg (by omega), if_neg (by omega), if_neg (by omega), if_pos a]; omega⟩
              | m14 a b => exact ⟨by omega, by rw [if_neg (by omega), if_pos b, if_pos a]; omega⟩
              | m3a a b k c x y v => omega
              | m4 a b => omega
              | m5a a b => omega
              | m5b a b => omega
              | m6 a b => omega
              | m7a a b => omega
              | m7b a b => omega
              | m8 a b => omega
              | m9a a b => omega
              | m9b a b => omega
              | m9c a b => omega
              | m10a a b => omega
              | m10b a b => omega
              | m11a a b => omega
              | m11b a b => omega
              | m12 a b => omega
              | m13 a b => omega
            refine ⟨⟨hi', hu', fun _ => hb.1⟩, .inl ?_⟩
            unfold vee; rw [if_neg hhold, if_neg hhold', if_pos hy, if_pos ht]; omega
          · have c' : r ≠ p := fun e => c e.symm
            refine ⟨⟨hi', hu', fun _ => by unfold Way at hway ⊢; rw [R.ln r c']; exact hway⟩, .inr ?_⟩
            unfold vee who ew
            simp only [if_neg hhold, if_neg hhold', if_pos hy, if_pos ht, R.ln r c']
            exact ⟨trivial, c, trivial⟩
      · have hy' : t.wd 1 ≠ 0 := by cases M <;> omega
        have hfr := pick_ok (p := r) (free_some hi h1 hy hno)
        refine ⟨⟨hi', hu', fun z => absurd z hy'⟩, ?_⟩
        have cwo : ∀ i, i < n → i ≠ p → cw n t i ≤ cw n s i := fun i _ c => by
          unfold cw; rw [R.ln i c, R.kk i c]; exact Int.le_refl _
        have low : cw n t p < cw n s p → vee n r t < vee n r s := fun z => by
          have := sumTo_lt hp cwo z
          unfold vee; rw [if_neg hhold, if_neg hhold', if_neg hy, if_neg hy']; exact this
        -- a line that turns nothing
        have idle : t.ln p = s.ln p → t.kk p = s.kk p → t.wd 1 = s.wd 1 → t.wd (2 + p) = s.wd (2 + p) → free s p = false → vee n r t = vee n r s ∧ p ≠ who n r s ∧ who n r t = who n r s := by
          intro e1 e2 e3 e4 e5
          have hln : ∀ q, t.ln q = s.ln q := fun q => by
            by_cases c : q = p
            · subst c; exact e1
            · exact R.ln q c
          have hkk : ∀ q, t.kk q = s.kk q := fun q => by
            by_cases c : q = p
            · subst c; exact e2
            · exact R.kk q c
          have hbb : ∀ q, t.wd (2 + q) = s.wd (2 + q) := fun q => by
            by_cases c : q = p
            · subst c; exact e4
            · exact R.b q c
          have hcw : sumTo (cw n t) n = sumTo (cw n s) n := sumTo_congr (fun i _ => by unfold cw; rw [hln i, hkk i])
          have hfe : ∀ q, q < n → free t q = free s q := fun q _ => by unfold free; rw [hln q, hkk q, hbb]
          unfold vee who
          simp only [if_neg hhold, if_neg hhold', if_neg hy, if_neg hy', hcw, pick_congr hfe]
          refine ⟨trivial, fun e => ?_, trivial⟩
          rw [← e] at hfr
          rw [e5] at hfr
          exact absurd hfr.2 (by simp)
        cases M with
        | m5b a b k c x y v => exact .inr (idle (by omega) k y c (by simp [free, a]))
        | m11b a b k c x y v => exact .inr (idle (by omega) k y c (by simp [free, a]))
        | m9c a b k c x y v => exact .inr (idle (by omega) k y c (by simp [free, a, v]))
        | m12 a b => omega
        | m13 a b => omega
        | m3b a b k c x y v => exact absurd v hy
        | m5a a b k c x y v => exact absurd v hy
        | m11a a b k c x y v => exact absurd v hy
        | m7a a b => exact absurd ⟨by omega, b⟩ hin
        | m10a a b => exact absurd ⟨by omega, b⟩ hin
        | m1 a b => exact .inl (low (by unfold cw; simp [a, b]))
        | m2 a b => exact .inl (low (by unfold cw; simp [a, b]))
        | m3a a b => exact .inl (low (by unfold cw; simp [a, b]))
        | m4 a b => exact .inl (low (by unfold cw; simp [a, b]))
        | m6 a b => exact .inl (low (by unfold cw; simp [a, b]))
        | m7b a b => exact .inl (low (by unfold cw; simp [a, b]))
        | m8 a b k => exact .inl (low (by unfold cw; simp [a, b, k]))
        | m9a a b k c x y v u => exact .inl (low (by unfold cw; simp [a, b]; omega))
        | m9b a b k c x y v u => exact .inl (low (by unfold cw; simp [a, b, k]; omega))
        | m10b a b => exact .inl (low (by unfold cw; simp [a, b]))
        | m14 a b => exact .inl (low (by unfold cw; simp [a, b]))

theorem vee_bd {n r : Nat} {s : St} (h : Inv n s) (h4 : n ≤ 4) (hr : r < n) : 0 ≤ vee n r s ∧ vee n r s < 42 := by
  have := cw_sum h h4
  have := h.ln r hr
  unfold vee ew
  by_cases c : Hold s r = true
  · rw [if_pos c]; have := hold_iff.1 c; unfold Has at this; omega
  · rw [if_neg c]
    repeat' split
    all_goals omega
/-- Somebody comes in. -/
theorem Reach.comes {n k : Nat} {s : St} (h : Reach n k s) : ∃ t, t < 42 * n ∧ isIn n (Fast.turns n s (t + 1)) (t % n) = true := by
  obtain ⟨h1, h4, hi⟩ := h
  have hr : ∃ r, r < n ∧ Inr n r s := by
    by_cases c : ∃ q, q < n ∧ Has s q
    · obtain ⟨q, q1, q2⟩ := c
      refine ⟨q, q1, hi, fun g hg x => ?_, fun z => absurd z (hi.yn q q1 q2)⟩
      apply Classical.byContradiction
      intro z; exact hi.one g q hg q1 z x q2
    · have hno : ∀ q, q < n → ¬ Has s q := fun q hq x => c ⟨q, hq, x⟩
      by_cases y : s.wd 1 = 0
      · obtain ⟨q, q1, q2⟩ := hi.l0 y
        exact ⟨q, q1, hi, fun g hg x => absurd x (hno g hg), fun _ => q2⟩
      · exact ⟨0, by omega, hi, fun g hg x => absurd x (hno g hg), fun z => absurd z y⟩
  obtain ⟨r, hr, hir⟩ := hr
  obtain ⟨t, t1, t2⟩ := live2 (n := n) (fun s h => stepN n s h) (fun s t => Fast.turns n s t) (fun _ => rfl) (fun s t => by
      show Fast.step n (Fast.turns n s t) ((t % n : Nat) : Int) = _
      rw [step_nat _ (Nat.mod_lt _ (by omega))])
    (Inr n r) (fun s h => (stepN n s h).ln h = 12) (fun s => (vee n r s).toNat) (who n r)
    (fun s g hs hg => by
      rcases vee_move hs h1 h4 hr hg with x | ⟨x, -⟩
      · exact .inl x.2
      · exact .inr x)
    (fun s hs => who_lt hs h1 hr)
    (fun s g hs hg => by
      rcases vee_move hs h1 h4 hr hg with x | ⟨x, y | ⟨y, z, u⟩⟩
      · exact .inl x.2
      · have b1 := vee_bd hs.1 h4 hr
        have b2 := vee_bd x.1 h4 hr
        exact .inr (.inl (by omega))
      · exact .inr (.inr ⟨by rw [y], z, u⟩))
    42 s hir (by have := vee_bd hi h4 hr; omega)
  refine ⟨t, t1, ?_⟩
  have hm : t % n < n := Nat.mod_lt _ (by omega)
  have e : Fast.turns n s (t + 1) = stepN n (Fast.turns n s t) (t % n) := by
    show Fast.step n (Fast.turns n s t) ((t % n : Nat) : Int) = _
    rw [step_nat _ hm]
  rw [e]
  show (line n (stepN n (Fast.turns n s t) (t % n)) ((t % n : Nat) : Int) == 12) = true
  rw [line_nat _ hm, t2]; rfl
theorem turns_add {n : Nat} {s : St} (a c : Nat) : turns n s (c * n + a) = turns n (turns n s (c * n)) a := by
  induction a with
  | zero => rfl
  | succ a ih =>
    show Fast.step n (turns n s (c * n + a)) (((c * n + a) % n : Nat) : Int) = Fast.step n (turns n (turns n s (c * n)) a) ((a % n : Nat) : Int)
    rw [ih, Nat.add_comm (c * n) a, Nat.add_mul_mod_self_right]
/-- Again and again one is in. -/
theorem Reach.some {n k : Nat} {s : St} (h : Reach n k s) : 3 ≤ ins n s (200 * n) := by
  have h1 := h.1
  have next : ∀ c : Nat, ins n s (c * n) + 1 ≤ ins n s ((c + 42) * n) := by
    intro c
    obtain ⟨t, t1, t2⟩ := (h.turns (c * n)).comes
    refine ins_hit (t := c * n + t) (by omega) (by rw [Nat.add_mul]; omega) ?_
    have e : (c * n + t) % n = t % n := by rw [Nat.add_comm, Nat.add_mul_mod_self_right]
    rw [e, Nat.add_assoc, turns_add]; exact t2
  have a := next 0
  have b : ins n s (42 * n) + 1 ≤ ins n s (84 * n) := next 42
  have c : ins n s (84 * n) + 1 ≤ ins n s (126 * n) := next 84
  have d := ins_mono (n := n) (s := s) (Nat.mul_le_mul_right n (show 126 ≤ 200 by omega))
  have z := (ins_bd n s (0 * n)).1
  simp only [Nat.zero_add] at a
  omega
end Go.Proofs.YtgkfgijmccojjaaDoor.Fast
