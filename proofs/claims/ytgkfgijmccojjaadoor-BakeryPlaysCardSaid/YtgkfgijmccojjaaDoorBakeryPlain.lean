import Derived.Test.YtgkfgijmccojjaaDoorKit
namespace Go.Proofs.YtgkfgijmccojjaaDoor.Bakery
set_option linter.unusedVariables false

/-- The lock of n hands. wd: the words: C of each hand, N of each hand; ln, kk, ms: of each hand its line, whom it looks at, the most that it saw. -/
structure St where
  wd : Nat → Int
  ln : Nat → Int
  kk : Nat → Int
  ms : Nat → Int

def first (_ : Nat) : St := { wd := fun _ => 0, ln := fun _ => 1, kk := fun _ => 0, ms := fun _ => 0 }

def stepN (n : Nat) (s : St) (p : Nat) : St :=
  if s.ln p = 1 then { wd := upd s.wd p 1, ln := upd s.ln p 2, kk := upd s.kk p 0, ms := upd s.ms p 0 }
  else if s.ln p = 2 then { wd := s.wd, ln := if s.kk p + 1 = n then upd s.ln p 3 else s.ln, kk := upd s.kk p (s.kk p + 1), ms := upd s.ms p (max (s.ms p) (s.wd (n + (s.kk p).toNat))) }
  else if s.ln p = 3 then { s with wd := upd s.wd (n + p) (s.ms p + 1), ln := upd s.ln p 4 }
  else if s.ln p = 4 then { wd := upd s.wd p 0, ln := upd s.ln p 5, kk := upd s.kk p 0, ms := upd s.ms p 0 }
  else if s.ln p = 5 then (if s.wd (s.kk p).toNat = 0 then { s with ln := upd s.ln p 6 } else s)
  else if s.ln p = 6 then
    (if s.wd (n + (s.kk p).toNat) = 0 ∨ s.wd (n + p) < s.wd (n + (s.kk p).toNat) ∨ (s.wd (n + (s.kk p).toNat) = s.wd (n + p) ∧ (p : Int) ≤ s.kk p)
     then { s with ln := upd s.ln p (if s.kk p + 1 = n then 7 else 5), kk := upd s.kk p (s.kk p + 1) } else s)
  else if s.ln p = 7 then { s with ln := upd s.ln p 8 }
  else { wd := upd s.wd (n + p) 0, ln := upd s.ln p 1, kk := upd s.kk p 0, ms := upd s.ms p 0 }

def step (n : Nat) (s : St) (p : Int) : St := if 0 ≤ p ∧ p < n then stepN n s p.toNat else s
def line (n : Nat) (s : St) (p : Int) : Int := if 0 ≤ p ∧ p < n then s.ln p.toNat else 0
def isIn (n : Nat) (s : St) (j : Nat) : Bool := line n s j == 7

/-- What a line of a hand does to that hand. -/
inductive Move (n : Nat) (s t : St) (p : Nat) : Prop
  | one (a : s.ln p = 1) (b : t.ln p = 2) (c : t.wd p = 1) (d : t.wd (n + p) = s.wd (n + p)) (e : t.kk p = 0) (f : t.ms p = 0)
  | two (a : s.ln p = 2) (b : t.ln p = if s.kk p + 1 = n then 3 else 2) (c : t.wd p = s.wd p) (d : t.wd (n + p) = s.wd (n + p)) (e : t.kk p = s.kk p + 1) (f : t.ms p = max (s.ms p) (s.wd (n + (s.kk p).toNat)))
  | three (a : s.ln p = 3) (b : t.ln p = 4) (c : t.wd p = s.wd p) (d : t.wd (n + p) = s.ms p + 1) (e : t.kk p = s.kk p) (f : t.ms p = s.ms p)
  | four (a : s.ln p = 4) (b : t.ln p = 5) (c : t.wd p = 0) (d : t.wd (n + p) = s.wd (n + p)) (e : t.kk p = 0) (f : t.ms p = 0)
  | look (a : s.ln p = 5) (b : t.ln p = 6) (c : t.wd p = s.wd p) (d : t.wd (n + p) = s.wd (n + p)) (e : t.kk p = s.kk p) (f : t.ms p = s.ms p) (v : s.wd (s.kk p).toNat = 0)
  | over (a : s.ln p = 6) (b : t.ln p = if s.kk p + 1 = n then 7 else 5) (c : t.wd p = s.wd p) (d : t.wd (n + p) = s.wd (n + p)) (e : t.kk p = s.kk p + 1) (f : t.ms p = s.ms p)
      (v : s.wd (n + (s.kk p).toNat) = 0 ∨ s.wd (n + p) < s.wd (n + (s.kk p).toNat) ∨ (s.wd (n + (s.kk p).toNat) = s.wd (n + p) ∧ (p : Int) ≤ s.kk p))
  | stay (a : (s.ln p = 5 ∧ s.wd (s.kk p).toNat ≠ 0) ∨ (s.ln p = 6 ∧ ¬ (s.wd (n + (s.kk p).toNat) = 0 ∨ s.wd (n + p) < s.wd (n + (s.kk p).toNat) ∨ (s.wd (n + (s.kk p).toNat) = s.wd (n + p) ∧ (p : Int) ≤ s.kk p)))) (b : t = s)
  | sev (a : s.ln p = 7) (b : t.ln p = 8) (c : t.wd p = s.wd p) (d : t.wd (n + p) = s.wd (n + p)) (e : t.kk p = s.kk p) (f : t.ms p = s.ms p)
  | eight (a : s.ln p = 8) (b : t.ln p = 1) (c : t.wd p = s.wd p) (d : t.wd (n + p) = 0) (e : t.kk p = 0) (f : t.ms p = 0)
/-- What it leaves as it was. -/
structure Rest (n : Nat) (s t : St) (p : Nat) : Prop where
  ln : ∀ g, g ≠ p → t.ln g = s.ln g
  kk : ∀ g, g ≠ p → t.kk g = s.kk g
  ms : ∀ g, g ≠ p → t.ms g = s.ms g
  c : ∀ g, g < n → g ≠ p → t.wd g = s.wd g
  nn : ∀ g, g < n → g ≠ p → t.wd (n + g) = s.wd (n + g)

theorem moves {n : Nat} {s : St} {p : Nat} (hp : p < n) (hl : 1 ≤ s.ln p ∧ s.ln p ≤ 8) : Rest n s (stepN n s p) p ∧ Move n s (stepN n s p) p := by
  have hcase : s.ln p = 1 ∨ s.ln p = 2 ∨ s.ln p = 3 ∨ s.ln p = 4 ∨ (s.ln p = 5 ∧ s.wd (s.kk p).toNat = 0) ∨ (s.ln p = 5 ∧ s.wd (s.kk p).toNat ≠ 0) ∨
      (s.ln p = 6 ∧ (s.wd (n + (s.kk p).toNat) = 0 ∨ s.wd (n + p) < s.wd (n + (s.kk p).toNat) ∨ (s.wd (n + (s.kk p).toNat) = s.wd (n + p) ∧ (p : Int) ≤ s.kk p))) ∨
      (s.ln p = 6 ∧ ¬ (s.wd (n + (s.kk p).toNat) = 0 ∨ s.wd (n + p) < s.wd (n + (s.kk p).toNat) ∨ (s.wd (n + (s.kk p).toNat) = s.wd (n + p) ∧ (p : Int) ≤ s.kk p))) ∨ s.ln p = 7 ∨ s.ln p = 8 := by
    rcases (by omega : s.ln p = 1 ∨ s.ln p = 2 ∨ s.ln p = 3 ∨ s.ln p = 4 ∨ s.ln p = 5 ∨ s.ln p = 6 ∨ s.ln p = 7 ∨ s.ln p = 8) with e | e | e | e | e | e | e | e
    · exact (.inl e)
    · exact (.inr (.inl e))
    · exact (.inr (.inr (.inl e)))
    · exact (.inr (.inr (.inr (.inl e))))
    · by_cases c1 : s.wd (s.kk p).toNat = 0
      · exact (.inr (.inr (.inr (.inr (.inl ⟨e, c1⟩)))))
      · exact (.inr (.inr (.inr (.inr (.inr (.inl ⟨e, c1⟩))))))
    · by_cases c2 : (s.wd (n + (s.kk p).toNat) = 0 ∨ s.wd (n + p) < s.wd (n + (s.kk p).toNat) ∨ (s.wd (n + (s.kk p).toNat) = s.wd (n + p) ∧ (p : Int) ≤ s.kk p))
      · exact (.inr (.inr (.inr (.inr (.inr (.inr (.inl ⟨e, c2⟩)))))))
      · exact (.inr (.inr (.inr (.inr (.inr (.inr (.inr (.inl ⟨e, c2⟩))))))))
    · exact (.inr (.inr (.inr (.inr (.inr (.inr (.inr (.inr (.inl e)))))))))
    · exact (.inr (.inr (.inr (.inr (.inr (.inr (.inr (.inr (.inr e)))))))))
  rcases hcase with e | e | e | e | ⟨e, v⟩ | ⟨e, v⟩ | ⟨e, v⟩ | ⟨e, v⟩ | e | e
  · have hst : stepN n s p = { wd := upd s.wd p 1, ln := upd s.ln p 2, kk := upd s.kk p 0, ms := upd s.ms p 0 } := by simp [stepN, e]
    rw [hst]
    exact ⟨⟨fun g c => upd_other c, fun g c => upd_other c, fun g c => upd_other c, fun g _ c => upd_other c, fun g hg c => upd_other (by omega)⟩, .one e (upd_same _ _ _) (upd_same _ _ _) (upd_other (by omega)) (upd_same _ _ _) (upd_same _ _ _)⟩
  · have hst : stepN n s p = { wd := s.wd, ln := if s.kk p + 1 = n then upd s.ln p 3 else s.ln, kk := upd s.kk p (s.kk p + 1), ms := upd s.ms p (max (s.ms p) (s.wd (n + (s.kk p).toNat))) } := by simp [stepN, e]
    rw [hst]
    refine ⟨⟨fun g c => ?_, fun g c => upd_other c, fun g c => upd_other c, fun g _ c => rfl, fun g hg c => rfl⟩, .two e ?_ rfl rfl (upd_same _ _ _) (upd_same _ _ _)⟩
    · show (if s.kk p + 1 = n then upd s.ln p 3 else s.ln) g = s.ln g
      split
      · exact upd_other c
      · rfl
    · show (if s.kk p + 1 = n then upd s.ln p 3 else s.ln) p = _
      split
      · exact upd_same _ _ _
      · exact e
  · have hst : stepN n s p = { s with wd := upd s.wd (n + p) (s.ms p + 1), ln := upd s.ln p 4 } := by simp [stepN, e]
    rw [hst]
    exact ⟨⟨fun g c => upd_other c, fun g c => rfl, fun g c => rfl, fun g hg c => upd_other (by omega), fun g hg c => upd_other (by omega)⟩, .three e (upd_same _ _ _) (upd_other (by omega)) (upd_same _ _ _) rfl rfl⟩
  · have hst : stepN n s p = { wd := upd s.wd p 0, ln := upd s.ln p 5, kk := upd s.kk p 0, ms := upd s.ms p 0 } := by simp [stepN, e]
    rw [hst]
    exact ⟨⟨fun g c => upd_other c, fun g c => upd_other c, fun g c => upd_other c, fun g _ c => upd_other c, fun g hg c => upd_other (by omega)⟩, .four e (upd_same _ _ _) (upd_same _ _ _) (upd_other (by omega)) (upd_same _ _ _) (upd_same _ _ _)⟩
  · have hst : stepN n s p = { s with ln := upd s.ln p 6 } := by simp [stepN, e, v]
    rw [hst]
    exact ⟨⟨fun g c => upd_other c, fun g c => rfl, fun g c => rfl, fun g hg c => rfl, fun g hg c => rfl⟩, .look e (upd_same _ _ _) rfl rfl rfl rfl v⟩
  · have hst : stepN n s p = s := by simp [stepN, e, v]
    rw [hst]
    exact ⟨⟨fun g c => rfl, fun g c => rfl, fun g c => rfl, fun g hg c => rfl, fun g hg c => rfl⟩, .stay (.inl ⟨e, v⟩) rfl⟩
  · have hst : stepN n s p = { s with ln := upd s.ln p (if s.kk p + 1 = n then 7 else 5), kk := upd s.kk p (s.kk p + 1) } := by
      unfold stepN; rw [if_neg (by omega), if_neg (by omega), if_neg (by omega), if_neg (by omega), if_neg (by omega), if_pos e, if_pos v]
    rw [hst]
    exact ⟨⟨fun g c => upd_other c, fun g c => upd_other c, fun g c => rfl, fun g hg c => rfl, fun g hg c => rfl⟩, .over e (upd_same _ _ _) rfl rfl (upd_same _ _ _) rfl v⟩
  · have hst : stepN n s p = s := by
      unfold stepN; rw [if_neg (by omega), if_neg (by omega), if_neg (by omega), if_neg (by omega), if_neg (by omega), if_pos e, if_neg v]
    rw [hst]
    exact ⟨⟨fun g c => rfl, fun g c => rfl, fun g c => rfl, fun g hg c => rfl, fun g hg c => rfl⟩, .stay (.inr ⟨e, v⟩) rfl⟩
  · have hst : stepN n s p = { s with ln := upd s.ln p 8 } := by simp [stepN, e]
    rw [hst]
    exact ⟨⟨fun g c => upd_other c, fun g c => rfl, fun g c => rfl, fun g hg c => rfl, fun g hg c => rfl⟩, .sev e (upd_same _ _ _) rfl rfl rfl rfl⟩
  · have hst : stepN n s p = { wd := upd s.wd (n + p) 0, ln := upd s.ln p 1, kk := upd s.kk p 0, ms := upd s.ms p 0 } := by simp [stepN, e]
    rw [hst]
    exact ⟨⟨fun g c => upd_other c, fun g c => upd_other c, fun g c => upd_other c, fun g hg c => upd_other (by omega), fun g hg c => upd_other (by omega)⟩, .eight e (upd_same _ _ _) (upd_other (by omega)) (upd_same _ _ _) (upd_same _ _ _) (upd_same _ _ _)⟩

/-- a is past b, in its second row of looks. -/
def Past (s : St) (a b : Nat) : Prop := ((s.ln a = 5 ∨ s.ln a = 6) ∧ (b : Int) < s.kk a) ∨ s.ln a = 7 ∨ s.ln a = 8
/-- a saw that b does not choose. -/
def Sees (s : St) (a b : Nat) : Prop := s.ln a = 6 ∧ s.kk a = b
/-- If b chooses it will see a's number, or did. -/
def Late (n : Nat) (s : St) (a b : Nat) : Prop := (s.ln b = 2 → (a : Int) < s.kk b → s.wd (n + a) ≤ s.ms b) ∧ (s.ln b = 3 → s.wd (n + a) ≤ s.ms b)
/-- a's turn is ahead of b's. -/
def Less (n : Nat) (s : St) (a b : Nat) : Prop := s.wd (n + a) < s.wd (n + b) ∨ (s.wd (n + a) = s.wd (n + b) ∧ a < b)

structure Inv (n k : Nat) (s : St) : Prop where
  ln : ∀ h, h < n → 1 ≤ s.ln h ∧ s.ln h ≤ 8
  c : ∀ h, h < n → s.wd h = if 2 ≤ s.ln h ∧ s.ln h ≤ 4 then 1 else 0
  nz : ∀ h, h < n → (s.ln h ≤ 3 → s.wd (n + h) = 0) ∧ (4 ≤ s.ln h → 1 ≤ s.wd (n + h)) ∧ s.wd (n + h) ≤ k
  kk : ∀ h, h < n → 0 ≤ s.kk h ∧ s.kk h ≤ n ∧ (s.ln h = 2 ∨ s.ln h = 5 ∨ s.ln h = 6 → s.kk h < n)
  ms : ∀ h, h < n → 0 ≤ s.ms h ∧ s.ms h ≤ k
  late : ∀ a b, a < n → b < n → a ≠ b → (Past s a b ∨ Sees s a b) → Late n s a b
  less : ∀ a b, a < n → b < n → a ≠ b → Past s a b → 4 ≤ s.ln b → Less n s a b

/-- What every state that a script reaches is. -/
def Reach (n k : Nat) (s : St) : Prop := 1 ≤ n ∧ n ≤ 4 ∧ Inv n k s

theorem Reach.first (n : Nat) (h1 : 1 ≤ n) (h4 : n ≤ 4) : Reach n 0 (Bakery.first n) := by
  refine ⟨h1, h4, ?_⟩
  refine { ln := fun h _ => by simp [Bakery.first], c := fun h _ => by simp [Bakery.first], nz := fun h _ => by simp [Bakery.first], kk := fun h _ => by simp [Bakery.first], ms := fun h _ => by simp [Bakery.first], late := fun a b _ _ _ x => ?_, less := fun a b _ _ _ x => ?_ }
  · simp [Bakery.first, Past, Sees] at x
  · simp [Bakery.first, Past] at x

theorem Inv.more {n k : Nat} {s : St} (h : Inv n k s) : Inv n (k + 1) s :=
  { h with nz := fun g hg => ⟨(h.nz g hg).1, (h.nz g hg).2.1, by have := (h.nz g hg).2.2; omega⟩, ms := fun g hg => ⟨(h.ms g hg).1, by have := (h.ms g hg).2; omega⟩ }

theorem Inv.move {n k : Nat} {s t : St} (h : Inv n k s) {p : Nat} (hp : p < n) (R : Rest n s t p) (M : Move n s t p) : Inv n (k + 1) t := by
  have hl := h.ln p hp
  have hc := h.c p hp
  have hz := h.nz p hp
  have hk := h.kk p hp
  have hm := h.ms p hp
  -- pairs that have nothing to do with p
  have late0 : ∀ a b, a < n → b < n → a ≠ b → a ≠ p → b ≠ p → (Past t a b ∨ Sees t a b) → Late n t a b := by
    intro a b ha hb hab hap hbp x
    unfold Past Sees at x
    unfold Late
    rw [R.ln a hap, R.kk a hap] at x
    rw [R.ln b hbp, R.kk b hbp, R.ms b hbp, R.nn a ha hap]
    exact h.late a b ha hb hab x
  have less0 : ∀ a b, a < n → b < n → a ≠ b → a ≠ p → b ≠ p → Past t a b → 4 ≤ t.ln b → Less n t a b := by
    intro a b ha hb hab hap hbp x y
    unfold Past at x
    unfold Less
    rw [R.ln a hap, R.kk a hap] at x
    rw [R.ln b hbp] at y
    rw [R.nn a ha hap, R.nn b hb hbp]
    exact h.less a b ha hb hab x y
  -- what a, who is another one, is past, it was past
  have past1 : ∀ a, a ≠ p → (Past t a p ↔ Past s a p) ∧ (Sees t a p ↔ Sees s a p) := by
    intro a hap
    unfold Past Sees
    rw [R.ln a hap, R.kk a hap]
    exact ⟨Iff.rfl, Iff.rfl⟩
  have fin : ∀ (hln : 1 ≤ t.ln p ∧ t.ln p ≤ 8) (hcc : t.wd p = if 2 ≤ t.ln p ∧ t.ln p ≤ 4 then 1 else 0) (hnz : (t.ln p ≤ 3 → t.wd (n + p) = 0) ∧ (4 ≤ t.ln p → 1 ≤ t.wd (n + p)) ∧ t.wd (n + p) ≤ k + 1)
      (hkk : 0 ≤ t.kk p ∧ t.kk p ≤ n ∧ (t.ln p = 2 ∨ t.ln p = 5 ∨ t.ln p = 6 → t.kk p < n)) (hms : 0 ≤ t.ms p ∧ t.ms p ≤ k + 1)
      (hlate1 : ∀ b, b < n → b ≠ p → (Past t p b ∨ Sees t p b) → Late n t p b) (hlate2 : ∀ a, a < n → a ≠ p → (Past s a p ∨ Sees s a p) → Late n t a p)
      (hless1 : ∀ b, b < n → b ≠ p → Past t p b → 4 ≤ s.ln b → Less n t p b) (hless2 : ∀ a, a < n → a ≠ p → Past s a p → 4 ≤ t.ln p → Less n t a p), Inv n (k + 1) t := by
    intro hln hcc hnz hkk hms hlate1 hlate2 hless1 hless2
    exact {
      ln := fun g hg => by
        by_cases c : g = p
        · subst c; exact hln
        · rw [R.ln g c]; exact h.ln g hg
      c := fun g hg => by
        by_cases c : g = p
        · subst c; exact hcc
        · rw [R.ln g c, R.c g hg c]; exact h.c g hg
      nz := fun g hg => by
        by_cases c : g = p
        · subst c; exact hnz
        · rw [R.ln g c, R.nn g hg c]; have := h.nz g hg; exact ⟨this.1, this.2.1, by omega⟩
      kk := fun g hg => by
        by_cases c : g = p
        · subst c; exact hkk
        · rw [R.ln g c, R.kk g c]; exact h.kk g hg
      ms := fun g hg => by
        by_cases c : g = p
        · subst c; exact hms
        · rw [R.ms g c]; have := h.ms g hg; omega
      late := fun a b ha hb hab x => by
        by_cases ca : a = p
        · subst ca; exact hlate1 b hb (fun e => hab e.symm) x
        · by_cases cb : b = p
          · subst cb; exact hlate2 a ha ca (x.imp (past1 a ca).1.1 (past1 a ca).2.1)
          · exact late0 a b ha hb hab ca cb x
      less := fun a b ha hb hab x y => by
        by_cases ca : a = p
        · subst ca; rw [R.ln b (fun e => hab e.symm)] at y; exact hless1 b hb (fun e => hab e.symm) x y
        · by_cases cb : b = p
          · subst cb; exact hless2 a ha ca ((past1 a ca).1.1 x) y
          · exact less0 a b ha hb hab ca cb x y }
  cases M with
  | stay a b => subst b; exact h.more
  | one a b c d e f =>
    rw [if_neg (by omega)] at hc
    refine fin (by omega) (by rw [if_pos (by omega)]; exact c) ⟨fun _ => by rw [d]; exact hz.1 (by omega), fun x => by omega, by rw [d]; omega⟩ (by omega) (by omega) (fun g hg hgp x => ?_) (fun g hg hgp x => ?_) (fun g hg hgp x => ?_) (fun g hg hgp x y => by omega)
    · unfold Past Sees at x; omega
    · unfold Late; rw [b, e]; exact ⟨fun _ x => by omega, fun x => by omega⟩
    · unfold Past at x; omega
  | two a b c d e f =>
    rw [if_pos (by omega)] at hc
    have hb : t.ln p = 2 ∨ t.ln p = 3 := by rw [b]; split <;> simp
    have hkn := hk.2.2 (.inl a)
    have hN := h.nz (s.kk p).toNat (by omega)
    refine fin (by omega) (by rw [if_pos (by omega), c]; exact hc) ⟨fun _ => by rw [d]; exact hz.1 (by omega), fun x => by omega, by rw [d]; omega⟩ ⟨by omega, by omega, fun x => ?_⟩ (by rw [f]; omega) (fun g hg hgp x => ?_) (fun g hg hgp x => ?_) (fun g hg hgp x => ?_) (fun g hg hgp x y => by omega)
    · have : ¬ (s.kk p + 1 = n) := fun y => by rw [if_pos y] at b; omega
      omega
    · unfold Past Sees at x; omega
    · have hlt := h.late g p hg hp hgp x
      have key : (g : Int) < s.kk p + 1 → s.wd (n + g) ≤ max (s.ms p) (s.wd (n + (s.kk p).toNat)) := by
        intro hlt2
        by_cases e1 : (g : Int) < s.kk p
        · have := hlt.1 a e1; omega
        · have : (s.kk p).toNat = g := by omega
          rw [this]; omega
      unfold Late
      rw [R.nn g hg hgp, e, f]
      refine ⟨fun _ y => key y, fun y => key ?_⟩
      have : s.kk p + 1 = n := by
        apply Classical.byContradiction
        intro z; rw [if_neg z] at b; omega
      omega
    · unfold Past at x; omega
  | three a b c d e f =>
    rw [if_pos (by omega)] at hc
    refine fin (by omega) (by rw [if_pos (by omega), c]; exact hc) ⟨fun x => by omega, fun _ => by omega, by omega⟩ ⟨by omega, by omega, fun x => by omega⟩ (by omega) (fun g hg hgp x => ?_) (fun g hg hgp x => ?_) (fun g hg hgp x => ?_) (fun g hg hgp x y => ?_)
    · unfold Past Sees at x; omega
    · unfold Late; rw [b]; exact ⟨fun x => by omega, fun x => by omega⟩
    · unfold Past at x; omega
    · have := (h.late g p hg hp hgp (.inl x)).2 a
      left; rw [R.nn g hg hgp, d]; omega
  | four a b c d e f =>
    refine fin (by omega) (by rw [if_neg (by omega), c]) ⟨fun x => by omega, fun _ => by rw [d]; exact hz.2.1 (by omega), by rw [d]; omega⟩ ⟨by omega, by omega, fun x => by omega⟩ (by omega) (fun g hg hgp x => ?_) (fun g hg hgp x => ?_) (fun g hg hgp x => ?_) (fun g hg hgp x y => ?_)
    · unfold Past Sees at x; omega
    · unfold Late; rw [b]; exact ⟨fun x => by omega, fun x => by omega⟩
    · unfold Past at x; omega
    · have := h.less g p hg hp hgp x (by omega)
      unfold Less at this ⊢; rw [R.nn g hg hgp, d]; exact this
  | look a b c d e f v =>
    rw [if_neg (by omega)] at hc
    refine fin (by omega) (by rw [if_neg (by omega), c]; exact hc) ⟨fun x => by omega, fun _ => by rw [d]; exact hz.2.1 (by omega), by rw [d]; omega⟩ ⟨by omega, by omega, fun x => by rw [e]; exact hk.2.2 (by omega)⟩ (by omega) (fun g hg hgp x => ?_) (fun g hg hgp x => ?_) (fun g hg hgp x y => ?_) (fun g hg hgp x y => ?_)
    · by_cases e1 : (g : Int) < s.kk p
      · have := h.late p g hp hg (fun x => hgp x.symm) (.inl (.inl ⟨.inl a, e1⟩))
        unfold Late at this ⊢; rw [R.ln g hgp, R.kk g hgp, R.ms g hgp, d]; exact this
      · have e2 : s.kk p = g := by unfold Past Sees at x; omega
        have hcg := h.c g hg
        have : (s.kk p).toNat = g := by omega
        rw [this] at v
        rw [v] at hcg
        unfold Late; rw [R.ln g hgp]
        have hno : ¬ (2 ≤ s.ln g ∧ s.ln g ≤ 4) := fun x => by rw [if_pos x] at hcg; omega
        exact ⟨fun x => by omega, fun x => by omega⟩
    · unfold Late; rw [b]; exact ⟨fun x => by omega, fun x => by omega⟩
    · have := h.less p g hp hg (fun x => hgp x.symm) (.inl ⟨.inl a, by unfold Past at x; omega⟩) y
      unfold Less at this ⊢; rw [R.nn g hg hgp, d]; exact this
    · have := h.less g p hg hp hgp x (by omega)
      unfold Less at this ⊢; rw [R.nn g hg hgp, d]; exact this
  | over a b c d e f v =>
    rw [if_neg (by omega)] at hc
    have hb : t.ln p = 5 ∨ t.ln p = 7 := by rw [b]; split <;> simp
    have hkn := hk.2.2 (.inr (.inr a))
    have old : ∀ g, g < n → (Past t p g ∨ Sees t p g) → (g : Int) ≤ s.kk p := by
      intro g hg x
      by_cases e1 : s.kk p + 1 = n
      · omega
      · rw [if_neg e1] at b
        unfold Past Sees at x; omega
    refine fin (by omega) (by rw [if_neg (by omega), c]; exact hc) ⟨fun x => by omega, fun _ => by rw [d]; exact hz.2.1 (by omega), by rw [d]; omega⟩ ⟨by omega, by omega, fun x => ?_⟩ (by omega) (fun g hg hgp x => ?_) (fun g hg hgp x => ?_) (fun g hg hgp x y => ?_) (fun g hg hgp x y => ?_)
    · have : ¬ (s.kk p + 1 = n) := fun y => by rw [if_pos y] at b; omega
      omega
    · have hle := old g hg x
      have := h.late p g hp hg (fun x => hgp x.symm) (by
        by_cases e1 : (g : Int) < s.kk p
        · exact .inl (.inl ⟨.inr a, e1⟩)
        · exact .inr ⟨a, by omega⟩)
      unfold Late at this ⊢; rw [R.ln g hgp, R.kk g hgp, R.ms g hgp, d]; exact this
    · unfold Late; exact ⟨fun x => by omega, fun x => by omega⟩
    · have hle := old g hg (.inl x)
      have hzg := (h.nz g hg).2.1 y
      by_cases e1 : (g : Int) < s.kk p
      · have := h.less p g hp hg (fun x => hgp x.symm) (.inl ⟨.inr a, e1⟩) y
        unfold Less at this ⊢; rw [R.nn g hg hgp, d]; exact this
      · have e2 : (s.kk p).toNat = g := by omega
        rw [e2] at v
        unfold Less; rw [R.nn g hg hgp, d]; omega
    · have := h.less g p hg hp hgp x (by omega)
      unfold Less at this ⊢; rw [R.nn g hg hgp, d]; exact this
  | sev a b c d e f =>
    rw [if_neg (by omega)] at hc
    refine fin (by omega) (by rw [if_neg (by omega), c]; exact hc) ⟨fun x => by omega, fun _ => by rw [d]; exact hz.2.1 (by omega), by rw [d]; omega⟩ ⟨by omega, by omega, fun x => by omega⟩ (by omega) (fun g hg hgp x => ?_) (fun g hg hgp x => ?_) (fun g hg hgp x y => ?_) (fun g hg hgp x y => ?_)
    · have := h.late p g hp hg (fun x => hgp x.symm) (.inl (.inr (.inl a)))
      unfold Late at this ⊢; rw [R.ln g hgp, R.kk g hgp, R.ms g hgp, d]; exact this
    · unfold Late; rw [b]; exact ⟨fun x => by omega, fun x => by omega⟩
    · have := h.less p g hp hg (fun x => hgp x.symm) (.inr (.inl a)) y
      unfold Less at this ⊢; rw [R.nn g hg hgp, d]; exact this
    · have := h.less g p hg hp hgp x (by omega)
      unfold Less at this ⊢; rw [R.nn g hg hgp, d]; exact this
  | eight a b c d e f =>
    rw [if_neg (by omega)] at hc
    refine fin (by omega) (by rw [if_neg (by omega), c]; exact hc) ⟨fun _ => d, fun x => by omega, by omega⟩ ⟨by omega, by omega, fun x => by omega⟩ (by omega) (fun g hg hgp x => ?_) (fun g hg hgp x => ?_) (fun g hg hgp x => ?_) (fun g hg hgp x y => by omega)
    · unfold Past Sees at x; omega
    · unfold Late; rw [b]; exact ⟨fun x => by omega, fun x => by omega⟩
    · unfold Past at x; omega

theorem Inv.step {n k : Nat} {s : St} (h : Inv n k s) {p : Nat} (hp : p < n) : Inv n (k + 1) (stepN n s p) := by
  obtain ⟨R, M⟩ := moves (n := n) hp (h.ln p hp)
  exact h.move hp R M

theorem step_nat {n : Nat} (s : St) {p : Nat} (h : p < n) : step n s (p : Int) = stepN n s p := by
  unfold step; rw [if_pos (by omega)]; rfl
theorem line_nat {n : Nat} (s : St) {p : Nat} (h : p < n) : line n s (p : Int) = s.ln p := by
  unfold line; rw [if_pos (by omega)]; rfl
theorem Reach.step {n k : Nat} {s : St} (h : Reach n k s) (p : Int) : Reach n (k + 1) (step n s p) := by
  obtain ⟨h1, h4, hi⟩ := h
  by_cases hp : 0 ≤ p ∧ p < n
  · obtain ⟨m, rfl⟩ := Int.eq_ofNat_of_zero_le hp.1
    rw [step_nat s (by omega)]
    exact ⟨h1, h4, hi.step (by omega)⟩
  · unfold Bakery.step
    rw [if_neg hp]
    exact ⟨h1, h4, hi.more⟩
theorem Reach.fine {n k : Nat} {s : St} (h : Reach n k s) {p : Nat} (hp : p < n) : 1 ≤ s.ln p ∧ s.ln p ≤ 8 := h.2.2.ln p hp
theorem Reach.one {n k : Nat} {s : St} (h : Reach n k s) (i j : Nat) (hi : i < n) (hj : j < n) (h1 : isIn n s i = true) (h2 : isIn n s j = true) : i = j := by
  simp only [isIn, line_nat s hi, line_nat s hj, beq_iff_eq] at h1 h2
  by_cases e : i = j
  · exact e
  · exfalso
    have a := h.2.2.less i j hi hj e (.inr (.inl h1)) (by omega)
    have b := h.2.2.less j i hj hi (fun x => e x.symm) (.inr (.inl h2)) (by omega)
    unfold Less at a b; omega
/-- Who is in has the least number. -/
theorem Reach.least {n k : Nat} {s : St} (h : Reach n k s) {p q : Nat} (hp : p < n) (hq : q < n) (hqp : q ≠ p) (h7 : s.ln p = 7) (hN : s.wd (n + q) ≠ 0) :
    ¬ (s.wd (n + q) < s.wd (n + p) ∨ (s.wd (n + q) = s.wd (n + p) ∧ q < p)) := by
  have hz := h.2.2.nz q hq
  have h4 : 4 ≤ s.ln q := by
    apply Classical.byContradiction
    intro x; exact hN (hz.1 (by omega))
  have := h.2.2.less p q hp hq (fun x => hqp x.symm) (.inr (.inl h7)) h4
  unfold Less at this; omega
theorem Reach.none {n k : Nat} {s : St} (h : Reach n k s) {p : Nat} (hp : p < n) (h1 : s.ln p = 1) : s.wd p = 0 ∧ s.wd (n + p) = 0 := by
  have hc := h.2.2.c p hp
  rw [if_neg (by omega)] at hc
  exact ⟨hc, (h.2.2.nz p hp).1 (by omega)⟩

/-- Who had its number already when another one began. -/
def FI (n : Nat) (s : St) (ah : Nat → Nat → Bool) : Prop :=
  ∀ a b, a < n → b < n → ah a b = true → a ≠ b ∧ 4 ≤ s.ln b ∧ s.ln b ≤ 6 ∧ 2 ≤ s.ln a ∧ s.ln a ≤ 6 ∧ Late n s b a ∧ (4 ≤ s.ln a → s.wd (n + b) < s.wd (n + a))
def begins (s : St) (p : Nat) (ah : Nat → Nat → Bool) : Nat → Nat → Bool := fun a b => if a = p then decide (b ≠ p) && decide (4 ≤ s.ln b) && decide (s.ln b ≤ 6) else ah a b
def comes (p : Nat) (ah : Nat → Nat → Bool) : Nat → Nat → Bool := fun a b => if b = p then false else ah a b
def ahead (n : Nat) (s : St) (p : Nat) (ah : Nat → Nat → Bool) : Nat → Nat → Bool :=
  if s.ln p = 1 then begins s p ah else if s.ln p = 6 ∧ (stepN n s p).ln p = 7 then comes p ah else ah
theorem FI.first (n : Nat) : FI n (first n) (fun _ _ => false) := fun a b _ _ x => by simp at x
theorem FI.step {n k : Nat} {s : St} (h : Reach n k s) {ah : Nat → Nat → Bool} (hf : FI n s ah) {p : Nat} (hp : p < n) : FI n (stepN n s p) (ahead n s p ah) := by
  have hi := h.2.2
  have hi' := hi.step hp
  obtain ⟨R, M⟩ := moves (n := n) hp (hi.ln p hp)
  unfold ahead
  generalize stepN n s p = t at R M hi'
  have hl := hi.ln p hp
  -- pairs without p
  have far : ∀ a b, a < n → b < n → a ≠ p → b ≠ p → ah a b = true → a ≠ b ∧ 4 ≤ t.ln b ∧ t.ln b ≤ 6 ∧ 2 ≤ t.ln a ∧ t.ln a ≤ 6 ∧ Late n t b a ∧ (4 ≤ t.ln a → t.wd (n + b) < t.wd (n + a)) := by
    intro a b ha hb hap hbp x
    unfold Late
    rw [R.ln a hap, R.ln b hbp, R.kk a hap, R.ms a hap, R.nn a ha hap, R.nn b hb hbp]
    exact hf a b ha hb x
  by_cases e1 : s.ln p = 1
  · rw [if_pos e1]
    have ht : t.ln p = 2 ∧ t.kk p = 0 := by
      cases M <;> first | exact ⟨by assumption, by assumption⟩ | omega
    intro a b ha hb x
    unfold begins at x
    by_cases ca : a = p
    · subst ca
      rw [if_pos rfl] at x
      simp only [Bool.and_eq_true, decide_eq_true_eq] at x
      obtain ⟨⟨x1, x2⟩, x3⟩ := x
      rw [R.ln b x1]
      refine ⟨fun e => x1 e.symm, x2, x3, by omega, by omega, ⟨fun _ y => by omega, fun y => by omega⟩, fun y => by omega⟩
    · rw [if_neg ca] at x
      by_cases cb : b = p
      · subst cb; have := hf a b ha hb x; omega
      · exact far a b ha hb ca cb x
  · rw [if_neg e1]
    by_cases e6 : s.ln p = 6 ∧ t.ln p = 7
    · rw [if_pos e6]
      intro a b ha hb x
      unfold comes at x
      by_cases cb : b = p
      · rw [if_pos cb] at x; simp at x
      · rw [if_neg cb] at x
        by_cases ca : a = p
        · subst ca
          obtain ⟨y1, y2, y3, y4, y5, y6, y7⟩ := hf a b ha hb x
          have := hi'.less a b ha hb y1 (.inr (.inl e6.2)) (by rw [R.ln b cb]; exact y2)
          have y8 := y7 (by omega)
          have hN : t.wd (n + a) = s.wd (n + a) := by
            cases M <;> first | assumption | omega | (subst_vars; rfl)
          unfold Less at this
          rw [hN, R.nn b hb cb] at this; omega
        · exact far a b ha hb ca cb x
    · rw [if_neg e6]
      intro a b ha hb x
      have y := hf a b ha hb x
      obtain ⟨y1, y2, y3, y4, y5, y6, y7⟩ := y
      by_cases ca : a = p
      · subst ca
        have cb : b ≠ a := fun e => y1 e.symm
        have hlb := R.ln b cb
        have hNb := R.nn b hb cb
        cases M with
        | one a1 b1 c d e f => omega
        | two a1 b1 c d e f =>
          have hb2 : t.ln a = 2 ∨ t.ln a = 3 := by rw [b1]; split <;> simp
          have hkk := hi.kk a ha
          refine ⟨y1, by omega, by omega, by omega, by omega, ?_, fun z => by omega⟩
          have key : (b : Int) < s.kk a + 1 → s.wd (n + b) ≤ max (s.ms a) (s.wd (n + (s.kk a).toNat)) := by
            intro hlt2
            by_cases e1 : (b : Int) < s.kk a
            · have := y6.1 a1 e1; omega
            · have : (s.kk a).toNat = b := by omega
              rw [this]; omega
          unfold Late
          rw [hNb, e, f]
          refine ⟨fun _ y => key y, fun y => key ?_⟩
          have : s.kk a + 1 = n := by
            apply Classical.byContradiction
            intro z; rw [if_neg z] at b1; omega
          omega
        | three a1 b1 c d e f =>
          have := y6.2 a1
          exact ⟨y1, by omega, by omega, by omega, by omega, ⟨fun z => by omega, fun z => by omega⟩, fun _ => by rw [d, hNb]; omega⟩
        | four a1 b1 c d e f =>
          exact ⟨y1, by omega, by omega, by omega, by omega, ⟨fun z => by omega, fun z => by omega⟩, fun _ => by rw [d, hNb]; exact y7 (by omega)⟩
        | look a1 b1 c d e f v =>
          exact ⟨y1, by omega, by omega, by omega, by omega, ⟨fun z => by omega, fun z => by omega⟩, fun _ => by rw [d, hNb]; exact y7 (by omega)⟩
        | over a1 b1 c d e f v =>
          have hb2 : t.ln a = 5 ∨ t.ln a = 7 := by rw [b1]; split <;> simp
          exact ⟨y1, by omega, by omega, by omega, by omega, ⟨fun z => by omega, fun z => by omega⟩, fun _ => by rw [d, hNb]; exact y7 (by omega)⟩
        | stay a1 b1 => subst b1; exact ⟨y1, y2, y3, y4, y5, y6, y7⟩
        | sev a1 b1 c d e f => omega
        | eight a1 b1 c d e f => omega
      · by_cases cb : b = p
        · subst cb
          have hla := R.ln a ca
          have hka := R.kk a ca
          have hma := R.ms a ca
          have hNa := R.nn a ha ca
          have main : t.wd (n + b) = s.wd (n + b) → 4 ≤ t.ln b → t.ln b ≤ 6 → a ≠ b ∧ 4 ≤ t.ln b ∧ t.ln b ≤ 6 ∧ 2 ≤ t.ln a ∧ t.ln a ≤ 6 ∧ Late n t b a ∧ (4 ≤ t.ln a → t.wd (n + b) < t.wd (n + a)) := by
            intro z1 z2 z3
            unfold Late
            rw [hla, hka, hma, hNa, z1]
            exact ⟨y1, z2, z3, y4, y5, y6, y7⟩
          cases M with
          | one a1 b1 c d e f => omega
          | two a1 b1 c d e f => omega
          | three a1 b1 c d e f => omega
          | four a1 b1 c d e f => exact main d (by omega) (by omega)
          | look a1 b1 c d e f v => exact main d (by omega) (by omega)
          | over a1 b1 c d e f v =>
            have hb2 : t.ln b = 5 ∨ t.ln b = 7 := by rw [b1]; split <;> simp
            exact main d (by omega) (by omega)
          | stay a1 b1 => subst b1; exact ⟨y1, y2, y3, y4, y5, y6, y7⟩
          | sev a1 b1 c d e f => omega
          | eight a1 b1 c d e f => omega
        · exact far a b ha hb ca cb x
/-- Who comes in: nobody was ahead of it. -/
theorem FI.comes {n k : Nat} {s : St} (h : Reach n k s) {ah : Nat → Nat → Bool} (hf : FI n s ah) {p q : Nat} (hp : p < n) (hq : q < n) (h6 : s.ln p = 6) (h7 : (stepN n s p).ln p = 7) : ah p q = false := by
  cases c : ah p q with
  | false => rfl
  | true =>
    exfalso
    have hi := h.2.2
    have hi' := hi.step hp
    obtain ⟨R, M⟩ := moves (n := n) hp (hi.ln p hp)
    generalize stepN n s p = t at R M hi' h7
    obtain ⟨y1, y2, y3, y4, y5, y6, y7⟩ := hf p q hp hq c
    have cq : q ≠ p := fun e => y1 e.symm
    have := hi'.less p q hp hq y1 (.inr (.inl h7)) (by rw [R.ln q cq]; exact y2)
    have y8 := y7 (by omega)
    have hN : t.wd (n + p) = s.wd (n + p) := by
      cases M <;> first | assumption | omega | (subst_vars; rfl)
    unfold Less at this
    rw [hN, R.nn q hq cq] at this; omega

/-- Hand 1 alone, line by line. -/
def alone : Nat → St
  | 0 => first 2
  | k + 1 => step 2 (alone k) 1
theorem alone_reach (k : Nat) : Reach 2 k (alone k) := by
  induction k with
  | zero => exact Reach.first 2 (by omega) (by omega)
  | succ k ih => exact ih.step 1
theorem alone_out (k : Nat) (h : k < 8) : (line 2 (alone (k + 1)) 1 == 7) = false := by
  obtain rfl | rfl | rfl | rfl | rfl | rfl | rfl | rfl := (by omega : k = 0 ∨ k = 1 ∨ k = 2 ∨ k = 3 ∨ k = 4 ∨ k = 5 ∨ k = 6 ∨ k = 7)
  all_goals decide
theorem alone_in : (line 2 (alone 9) 1 == 7) = true := by decide
theorem alone_zero : line 2 (alone 9) 0 = 1 := by decide

/-- All do a line in turn: behind t lines. -/
def turns (n : Nat) (s : St) : Nat → St
  | 0 => s
  | t + 1 => step n (turns n s t) ((t % n : Nat) : Int)
/-- Was hand q in, at one of t lines? -/
def was (n : Nat) (s : St) (q : Nat) : Nat → Bool
  | 0 => false
  | t + 1 => was n s q t || (t % n == q && isIn n (turns n s (t + 1)) q)
theorem was_of {n : Nat} {s : St} {q T t : Nat} (ht : t < T) (h1 : t % n = q) (h2 : isIn n (turns n s (t + 1)) q = true) : was n s q T = true := by
  induction T with
  | zero => omega
  | succ T ih =>
    unfold was
    by_cases e : t = T
    · subst e; simp [h1, h2]
    · rw [ih (by omega)]; rfl
theorem Reach.turns {n k : Nat} {s : St} (h : Reach n k s) (t : Nat) : Reach n (k + t) (turns n s t) := by
  induction t with
  | zero => exact h
  | succ t ih => exact ih.step _
end Go.Proofs.YtgkfgijmccojjaaDoor.Bakery
