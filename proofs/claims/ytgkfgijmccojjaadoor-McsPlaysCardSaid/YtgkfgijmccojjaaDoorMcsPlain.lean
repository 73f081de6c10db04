import Derived.Test.YtgkfgijmccojjaaDoorKit
namespace Go.Proofs.YtgkfgijmccojjaaDoor.Mcs
set_option linter.unusedVariables false

/-- The lock of n hands. wd: Tail, W of each hand, S of each hand; ln, sn: of each hand its line, what it saw; q: who stood in line, in order (of the proof alone). -/
structure St where
  wd : Nat → Int
  ln : Nat → Int
  sn : Nat → Int
  q : List Nat

def first (_ : Nat) : St := { wd := fun _ => 0, ln := fun _ => 1, sn := fun _ => 0, q := [] }

def stepN (n : Nat) (s : St) (p : Nat) : St :=
  if s.ln p = 1 then { s with wd := upd s.wd (1 + n + p) 0, ln := upd s.ln p 2 }
  else if s.ln p = 2 then { wd := upd s.wd 0 (p + 1), ln := upd s.ln p (if s.wd 0 = 0 then 6 else 3), sn := upd s.sn p (s.wd 0), q := s.q ++ [p] }
  else if s.ln p = 3 then { s with wd := upd s.wd (1 + p) 1, ln := upd s.ln p 4 }
  else if s.ln p = 4 then { s with wd := upd s.wd (1 + n + (s.sn p - 1).toNat) (p + 1), ln := upd s.ln p 5 }
  else if s.ln p = 5 then { s with ln := upd s.ln p (if s.wd (1 + p) = 0 then 6 else 5) }
  else if s.ln p = 6 then { s with ln := upd s.ln p 7 }
  else if s.ln p = 7 then { s with ln := upd s.ln p (if s.wd (1 + n + p) = 0 then 8 else 10), sn := upd s.sn p (s.wd (1 + n + p)) }
  else if s.ln p = 8 then (if s.wd 0 = p + 1 then { s with wd := upd s.wd 0 0, ln := upd s.ln p 1, q := s.q.tail } else { s with ln := upd s.ln p 9 })
  else if s.ln p = 9 then { s with ln := upd s.ln p (if s.wd (1 + n + p) = 0 then 9 else 10), sn := upd s.sn p (s.wd (1 + n + p)) }
  else { s with wd := upd s.wd (1 + (s.sn p - 1).toNat) 0, ln := upd s.ln p 1, q := s.q.tail }

def step (n : Nat) (s : St) (p : Int) : St := if 0 ≤ p ∧ p < n then stepN n s p.toNat else s
def line (n : Nat) (s : St) (p : Int) : Int := if 0 ≤ p ∧ p < n then s.ln p.toNat else 0
def isIn (n : Nat) (s : St) (j : Nat) : Bool := line n s j == 6

structure Inv (n : Nat) (s : St) : Prop where
  ln : ∀ h, h < n → 1 ≤ s.ln h ∧ s.ln h ≤ 10
  nodup : s.q.Nodup
  mem : ∀ h, h ∈ s.q ↔ h < n ∧ 3 ≤ s.ln h
  tail : (s.q = [] ∧ s.wd 0 = 0) ∨ ∃ i a, s.q[i]? = some a ∧ i + 1 = s.q.length ∧ s.wd 0 = (a : Nat) + 1
  head : ∀ h, s.q[0]? = some h → (s.ln h = 5 ∧ s.wd (1 + h) = 0) ∨ 6 ≤ s.ln h
  rest : ∀ i g, s.q[i + 1]? = some g → 3 ≤ s.ln g ∧ s.ln g ≤ 5 ∧ (4 ≤ s.ln g → s.wd (1 + g) = 1)
  adj : ∀ i a b, s.q[i]? = some a → s.q[i + 1]? = some b → (s.ln b ≤ 4 → s.sn b = (a : Nat) + 1 ∧ s.wd (1 + n + a) = 0) ∧ (s.ln b = 5 → s.wd (1 + n + a) = (b : Nat) + 1)
  last : ∀ i a, s.q[i]? = some a → i + 1 = s.q.length → s.wd (1 + n + a) = 0
  ten : ∀ h, h < n → s.ln h = 10 → ∃ b, s.q[0]? = some h ∧ s.q[1]? = some b ∧ s.sn h = (b : Nat) + 1 ∧ s.ln b = 5
  nine : ∀ h, h < n → s.ln h = 9 → ∃ b, s.q[0]? = some h ∧ s.q[1]? = some b
  two : ∀ h, h < n → s.ln h = 2 → s.wd (1 + n + h) = 0

/-- What every state that a script reaches is. -/
def Reach (n _k : Nat) (s : St) : Prop := 1 ≤ n ∧ n ≤ 4 ∧ Inv n s

theorem Reach.first (n : Nat) (h1 : 1 ≤ n) (h4 : n ≤ 4) : Reach n 0 (Mcs.first n) := by
  refine ⟨h1, h4, ?_⟩
  exact { ln := fun h _ => by simp [Mcs.first], nodup := List.nodup_nil, mem := fun h => by simp [Mcs.first], tail := .inl ⟨rfl, rfl⟩, head := fun h x => by simp [Mcs.first] at x, rest := fun i h x => by simp [Mcs.first] at x, adj := fun i a b x => by simp [Mcs.first] at x, last := fun i a x => by simp [Mcs.first] at x, ten := fun h _ x => by simp [Mcs.first] at x, nine := fun h _ x => by simp [Mcs.first] at x, two := fun h _ x => by simp [Mcs.first] at x }

theorem Inv.bd {n : Nat} {s : St} (h : Inv n s) {i a : Nat} (ha : s.q[i]? = some a) : a < n ∧ 3 ≤ s.ln a := (h.mem a).1 (List.mem_of_getElem? ha)
theorem Inv.inj {n : Nat} {s : St} (h : Inv n s) {i j a : Nat} (ha : s.q[i]? = some a) (hb : s.q[j]? = some a) : i = j := by
  have hi : i < s.q.length := (List.getElem?_eq_some_iff.1 ha).1
  exact (List.getElem?_inj hi h.nodup).1 (ha.trans hb.symm)
/-- Who is behind line 5 is the first of the row. -/
theorem Inv.front {n : Nat} {s : St} (h : Inv n s) {p : Nat} (hp : p < n) (hl : 6 ≤ s.ln p ∨ (s.ln p = 5 ∧ s.wd (1 + p) = 0)) : s.q[0]? = some p := by
  have hm := (h.mem p).2 ⟨hp, by omega⟩
  obtain ⟨i, hi, e⟩ := List.mem_iff_getElem.1 hm
  have hg : s.q[i]? = some p := by rw [List.getElem?_eq_getElem hi, e]
  cases i with
  | zero => exact hg
  | succ i => have := h.rest i p hg; omega
theorem Inv.behind {n : Nat} {s : St} (h : Inv n s) {p : Nat} (hp : p < n) (hl : s.ln p = 3 ∨ s.ln p = 4) : ∃ i a, s.q[i]? = some a ∧ s.q[i + 1]? = some p := by
  have hm := (h.mem p).2 ⟨hp, by omega⟩
  obtain ⟨i, hi, e⟩ := List.mem_iff_getElem.1 hm
  have hg : s.q[i]? = some p := by rw [List.getElem?_eq_getElem hi, e]
  cases i with
  | zero => have := h.head p hg; omega
  | succ i => exact ⟨i, s.q[i]'(by omega), by rw [List.getElem?_eq_getElem (by omega)], hg⟩
theorem cons_of {q : List Nat} {p : Nat} (h : q[0]? = some p) : ∃ r, q = p :: r := by
  cases q with
  | nil => simp at h
  | cons a r => simp at h; subst h; exact ⟨r, rfl⟩

/-- A line by which p stays where it is in the row, or out of it, and writes no word that matters. -/
theorem Inv.calm {n : Nat} {s : St} (h : Inv n s) {p : Nat} (hp : p < n) {wd ln sn : Nat → Int} (hlo : ∀ g, g ≠ p → ln g = s.ln g) (hso : ∀ g, g ≠ p → sn g = s.sn g)
    (hl : 1 ≤ ln p ∧ ln p ≤ 10) (hin : 3 ≤ ln p ↔ 3 ≤ s.ln p) (h0 : wd 0 = s.wd 0)
    (hW : ∀ g, g < n → g ≠ p → wd (1 + g) = s.wd (1 + g)) (hS : ∀ g, g < n → wd (1 + n + g) = s.wd (1 + n + g) ∨ (g = p ∧ s.ln p ≤ 2 ∧ wd (1 + n + g) = 0) ∨ (s.ln p = 4 ∧ wd (1 + n + g) = p + 1 ∧ ln p = 5 ∧ ∃ i, s.q[i]? = some g ∧ s.q[i + 1]? = some p))
    (hhead : s.q[0]? = some p → (ln p = 5 ∧ wd (1 + p) = 0) ∨ 6 ≤ ln p) (hrest : ∀ i, s.q[i + 1]? = some p → ln p ≤ 5 ∧ (4 ≤ ln p → wd (1 + p) = 1) ∧ (s.ln p ≤ 4 → sn p = s.sn p) ∧ (ln p = 5 → s.ln p = 5 ∨ s.ln p = 4 ∧ ∀ g, s.q[i]? = some g → wd (1 + n + g) = p + 1) ∧ (ln p ≤ 4 → s.ln p ≤ 4))
    (hten : ln p = 10 → ∃ b, s.q[0]? = some p ∧ s.q[1]? = some b ∧ sn p = (b : Nat) + 1 ∧ s.ln b = 5) (hnine : ln p = 9 → ∃ b, s.q[0]? = some p ∧ s.q[1]? = some b) (htwo : ln p = 2 → wd (1 + n + p) = 0) :
    Inv n { wd := wd, ln := ln, sn := sn, q := s.q } := by
  have adjS : ∀ i a, s.q[i]? = some a → wd (1 + n + a) = s.wd (1 + n + a) ∨ (s.ln p = 4 ∧ wd (1 + n + a) = p + 1 ∧ ln p = 5 ∧ s.q[i + 1]? = some p) := by
    intro i a ha
    have hb := h.bd ha
    rcases hS a hb.1 with x | ⟨x, y, -⟩ | ⟨x, y, z, j, u, v⟩
    · exact .inl x
    · subst x; omega
    · have := h.inj ha u; subst this; exact .inr ⟨x, y, z, v⟩
  exact {
    ln := fun g hg => by
      by_cases c : g = p
      · subst c; exact hl
      · show 1 ≤ ln g ∧ ln g ≤ 10; rw [hlo g c]; exact h.ln g hg
    nodup := h.nodup
    mem := fun g => by
      show g ∈ s.q ↔ g < n ∧ 3 ≤ ln g
      by_cases c : g = p
      · subst c; rw [h.mem g, hin]
      · rw [hlo g c]; exact h.mem g
    tail := by show _ ∨ ∃ i a, _ ∧ _ ∧ wd 0 = _; rw [show ({ wd := wd, ln := ln, sn := sn, q := s.q } : St).wd 0 = s.wd 0 from h0, h0]; exact h.tail
    head := fun g hg => by
      show (ln g = 5 ∧ wd (1 + g) = 0) ∨ 6 ≤ ln g
      by_cases c : g = p
      · subst c; exact hhead hg
      · rw [hlo g c, hW g (h.bd hg).1 c]; exact h.head g hg
    rest := fun i g hg => by
      show 3 ≤ ln g ∧ ln g ≤ 5 ∧ (4 ≤ ln g → wd (1 + g) = 1)
      by_cases c : g = p
      · subst c
        have := hrest i hg
        exact ⟨hin.2 (h.bd hg).2, this.1, this.2.1⟩
      · rw [hlo g c, hW g (h.bd hg).1 c]; exact h.rest i g hg
    adj := fun i a b ha hb => by
      show (ln b ≤ 4 → sn b = (a : Nat) + 1 ∧ wd (1 + n + a) = 0) ∧ (ln b = 5 → wd (1 + n + a) = (b : Nat) + 1)
      have old := h.adj i a b ha hb
      by_cases c : b = p
      · subst c
        have hr := hrest i hb
        refine ⟨fun x => ?_, fun x => ?_⟩
        · have hx := hr.2.2.2.2 x
          have ho := old.1 hx
          rcases adjS i a ha with y | ⟨-, -, y, -⟩
          · exact ⟨by rw [hr.2.2.1 hx]; exact ho.1, by rw [y]; exact ho.2⟩
          · omega
        · rcases hr.2.2.2.1 x with y | ⟨y, z⟩
          · rcases adjS i a ha with u | ⟨u, -⟩
            · rw [u]; exact old.2 y
            · omega
          · exact z a ha
      · rw [hlo b c, hso b c]
        rcases adjS i a ha with y | ⟨-, -, -, y⟩
        · rw [y]; exact old
        · have y' : s.q[i + 1]? = some p := y
          rw [show s.q[i + 1]? = some b from hb] at y'
          exact absurd (Option.some.inj y') c
    last := fun i a ha hi => by
      show wd (1 + n + a) = 0
      rcases adjS i a ha with y | ⟨-, -, -, y⟩
      · rw [y]; exact h.last i a ha hi
      · have := (List.getElem?_eq_some_iff.1 y).1
        have : i + 1 = s.q.length := hi
        omega
    ten := fun g hg x => by
      have x' : ln g = 10 := x
      show ∃ b, s.q[0]? = some g ∧ s.q[1]? = some b ∧ sn g = (b : Nat) + 1 ∧ ln b = 5
      by_cases c : g = p
      · subst c
        obtain ⟨b, y1, y2, y3, y4⟩ := hten x'
        have : b ≠ g := fun e => by subst e; have := h.inj y1 y2; omega
        exact ⟨b, y1, y2, y3, by rw [hlo b this]; exact y4⟩
      · rw [hlo g c] at x'
        obtain ⟨b, y1, y2, y3, y4⟩ := h.ten g hg x'
        refine ⟨b, y1, y2, by rw [hso g c]; exact y3, ?_⟩
        by_cases cb : b = p
        · subst cb
          have := hrest 0 y2
          have := (hin.2 (by omega))
          have : ¬ ln b ≤ 4 := fun z => by have := (hrest 0 y2).2.2.2.2 z; omega
          omega
        · rw [hlo b cb]; exact y4
    nine := fun g hg x => by
      have x' : ln g = 9 := x
      show ∃ b, s.q[0]? = some g ∧ s.q[1]? = some b
      by_cases c : g = p
      · subst c; exact hnine x'
      · rw [hlo g c] at x'; exact h.nine g hg x'
    two := fun g hg x => by
      have x' : ln g = 2 := x
      show wd (1 + n + g) = 0
      by_cases c : g = p
      · subst c; exact htwo x'
      · rw [hlo g c] at x'
        rcases hS g hg with y | ⟨y, -⟩ | ⟨-, -, -, i, y, -⟩
        · rw [y]; exact h.two g hg x'
        · exact absurd y c
        · have := (h.bd y).2; omega }

theorem Inv.step {n : Nat} {s : St} (h : Inv n s) {p : Nat} (hp : p < n) : Inv n (stepN n s p) := by
  have hl := h.ln p hp
  have hcase : s.ln p = 1 ∨ s.ln p = 2 ∨ s.ln p = 3 ∨ s.ln p = 4 ∨ s.ln p = 5 ∨ s.ln p = 6 ∨ s.ln p = 7 ∨ s.ln p = 8 ∨ s.ln p = 9 ∨ s.ln p = 10 := by omega
  rcases hcase with e | e | e | e | e | e | e | e | e | e
  · have hst : stepN n s p = { s with wd := upd s.wd (1 + n + p) 0, ln := upd s.ln p 2 } := by simp [stepN, e]
    rw [hst]
    refine h.calm (wd := upd s.wd (1 + n + p) 0) (ln := upd s.ln p 2) (sn := s.sn) hp (fun g c => upd_other c) (fun g c => rfl) (by rw [upd_same]; omega) (by rw [upd_same, e]; omega) (upd_other (by omega)) (fun g hg c => upd_other (by omega)) (fun g hg => ?_) (fun x => ?_) (fun i x => ?_) (by rw [upd_same]; omega) (by rw [upd_same]; omega) (fun _ => upd_same _ _ _)
    · by_cases c : g = p
      · subst c; exact .inr (.inl ⟨rfl, by omega, upd_same _ _ _⟩)
      · exact .inl (upd_other (by omega))
    · have := (h.bd x).2; omega
    · have := (h.bd x).2; omega
  · -- into the row
    have hnot : p ∉ s.q := fun m => by have := (h.mem p).1 m; omega
    have hst : stepN n s p = { wd := upd s.wd 0 (p + 1), ln := upd s.ln p (if s.wd 0 = 0 then 6 else 3), sn := upd s.sn p (s.wd 0), q := s.q ++ [p] } := by simp [stepN, e]
    rw [hst]
    have h2 := h.two p hp e
    have hlp : upd s.ln p (if s.wd 0 = 0 then 6 else 3) p = if s.wd 0 = 0 then 6 else 3 := upd_same _ _ _
    have hlb : 3 ≤ upd s.ln p (if s.wd 0 = 0 then 6 else 3) p ∧ upd s.ln p (if s.wd 0 = 0 then 6 else 3) p ≤ 6 := by rw [hlp]; split <;> omega
    have hlo : ∀ g, g ≠ p → upd s.ln p (if s.wd 0 = 0 then 6 else 3) g = s.ln g := fun g c => upd_other c
    have hso : ∀ g, g ≠ p → upd s.sn p (s.wd 0) g = s.sn g := fun g c => upd_other c
    have hwo : ∀ g, 0 < g → upd s.wd 0 (p + 1) g = s.wd g := fun g c => upd_other (by omega)
    have hnp : ∀ i g, s.q[i]? = some g → g ≠ p := fun i g hg e => hnot (e ▸ List.mem_of_getElem? hg)
    have hget : ∀ i g, (s.q ++ [p])[i]? = some g → s.q[i]? = some g ∨ (i = s.q.length ∧ g = p) := by
      intro i g hg
      by_cases c : i < s.q.length
      · rw [List.getElem?_append_left c] at hg; exact .inl hg
      · rw [List.getElem?_append_right (by omega)] at hg
        have : i - s.q.length < 1 := (List.getElem?_eq_some_iff.1 hg).1
        have e0 : i - s.q.length = 0 := by omega
        rw [e0] at hg
        exact .inr ⟨by omega, by simpa using hg.symm⟩
    have hsome : ∀ i g, s.q[i]? = some g → (s.q ++ [p])[i]? = some g := fun i g hg => by
      rw [List.getElem?_append_left (List.getElem?_eq_some_iff.1 hg).1]; exact hg
    have htl := h.tail
    exact {
      ln := fun g hg => by
        by_cases c : g = p
        · subst c; simp only; omega
        · simp only [hlo g c]; exact h.ln g hg
      nodup := by
        show (s.q ++ [p]).Nodup
        rw [List.nodup_append]
        exact ⟨h.nodup, by simp, fun a ha b hb => by simp at hb; subst hb; exact fun e => hnot (e ▸ ha)⟩
      mem := fun g => by
        show g ∈ s.q ++ [p] ↔ g < n ∧ 3 ≤ upd s.ln p (if s.wd 0 = 0 then 6 else 3) g
        by_cases c : g = p
        · subst c; simp only [List.mem_append, List.mem_singleton, or_true, true_iff]; omega
        · rw [hlo g c, ← h.mem g]; simp [c]
      tail := .inr ⟨s.q.length, p, by simp, by simp, by show upd s.wd 0 ((p : Int) + 1) 0 = (p : Int) + 1; exact upd_same _ _ _⟩
      head := fun g hg => by
        simp only
        rcases hget 0 g hg with x | ⟨x, rfl⟩
        · rw [hlo g (hnp 0 g x), hwo _ (by omega)]; exact h.head g x
        · right
          have : s.q = [] := List.length_eq_zero_iff.1 x.symm
          rcases htl with ⟨-, z⟩ | ⟨i, a, z, -⟩
          · rw [hlp, if_pos z]; omega
          · rw [this] at z; simp at z
      rest := fun i g hg => by
        simp only
        rcases hget (i + 1) g hg with x | ⟨x, rfl⟩
        · rw [hlo g (hnp _ g x), hwo _ (by omega)]; exact h.rest i g x
        · rcases htl with ⟨z, -⟩ | ⟨j, a, z1, z2, z3⟩
          · rw [z] at x; simp at x
          · rw [hlp, if_neg (by omega)]; omega
      adj := fun i a b ha hb => by
        simp only
        rcases hget (i + 1) b hb with x | ⟨x, rfl⟩
        · have hi : i < s.q.length := by have := (List.getElem?_eq_some_iff.1 x).1; omega
          rcases hget i a ha with y | ⟨y, -⟩
          · rw [hlo b (hnp _ b x), hso b (hnp _ b x), hwo _ (by omega)]; exact h.adj i a b y x
          · omega
        · rcases hget i a ha with y | ⟨y, -⟩
          · rcases htl with ⟨z, -⟩ | ⟨j, a', z1, z2, z3⟩
            · rw [z] at x; simp at x
            · have : i = j := by omega
              subst this
              rw [y] at z1
              have := Option.some.inj z1
              subst this
              rw [hlp, if_neg (show ¬ s.wd 0 = 0 by omega), upd_same, z3, hwo _ (by omega)]
              exact ⟨fun _ => ⟨rfl, h.last i a y (by omega)⟩, fun z => by omega⟩
          · omega
      last := fun i a ha hi => by
        simp only [List.length_append, List.length_singleton] at hi ⊢
        rw [hwo _ (by omega)]
        rcases hget i a ha with y | ⟨y, rfl⟩
        · have := (List.getElem?_eq_some_iff.1 y).1; omega
        · exact h2
      ten := fun g hg x => by
        simp only at x ⊢
        have c : g ≠ p := fun c => by subst c; omega
        rw [hlo g c] at x
        obtain ⟨b, y1, y2, y3, y4⟩ := h.ten g hg x
        exact ⟨b, hsome _ _ y1, hsome _ _ y2, by rw [hso g c]; exact y3, by rw [hlo b (hnp _ b y2)]; exact y4⟩
      nine := fun g hg x => by
        simp only at x ⊢
        have c : g ≠ p := fun c => by subst c; omega
        rw [hlo g c] at x
        obtain ⟨b, y1, y2⟩ := h.nine g hg x
        exact ⟨b, hsome _ _ y1, hsome _ _ y2⟩
      two := fun g hg x => by
        simp only at x ⊢
        rw [hwo _ (by omega)]
        have c : g ≠ p := fun c => by subst c; omega
        rw [hlo g c] at x
        exact h.two g hg x }
  · have hst : stepN n s p = { s with wd := upd s.wd (1 + p) 1, ln := upd s.ln p 4 } := by simp [stepN, e]
    rw [hst]
    refine h.calm (wd := upd s.wd (1 + p) 1) (ln := upd s.ln p 4) (sn := s.sn) hp (fun g c => upd_other c) (fun g c => rfl) (by rw [upd_same]; omega) (by rw [upd_same, e]; omega) (upd_other (by omega)) (fun g hg c => upd_other (by omega)) (fun g hg => .inl (upd_other (by omega))) (fun x => ?_) (fun i x => ?_) (by rw [upd_same]; omega) (by rw [upd_same]; omega) (by rw [upd_same]; omega)
    · have := h.head p x; omega
    · rw [upd_same, upd_same]; exact ⟨by omega, fun _ => rfl, fun _ => rfl, fun z => by omega, fun _ => by omega⟩
  · obtain ⟨i, a, ha, hb⟩ := h.behind hp (.inr e)
    have hab := (h.adj i a p ha hb).1 (by omega)
    have hst : stepN n s p = { s with wd := upd s.wd (1 + n + a) (p + 1), ln := upd s.ln p 5 } := by
      have : (s.sn p - 1).toNat = a := by omega
      simp [stepN, e, this]
    rw [hst]
    have ha2 := h.bd ha
    refine h.calm (wd := upd s.wd (1 + n + a) (p + 1)) (ln := upd s.ln p 5) (sn := s.sn) hp (fun g c => upd_other c) (fun g c => rfl) (by rw [upd_same]; omega) (by rw [upd_same, e]; omega) (upd_other (by omega)) (fun g hg c => upd_other (by omega)) (fun g hg => ?_) (fun x => ?_) (fun j x => ?_) (by rw [upd_same]; omega) (by rw [upd_same]; omega) (by rw [upd_same]; omega)
    · by_cases c : g = a
      · subst c; exact .inr (.inr ⟨e, upd_same _ _ _, upd_same _ _ _, i, ha, hb⟩)
      · exact .inl (upd_other (by omega))
    · have := h.head p x; omega
    · have hr := h.rest j p x
      have : j + 1 = i + 1 := h.inj x hb
      have : j = i := by omega
      subst this
      refine ⟨by rw [upd_same]; omega, fun _ => by rw [upd_other (by omega)]; exact hr.2.2 (by omega), fun _ => rfl, fun _ => .inr ⟨e, fun g hg => ?_⟩, fun z => by rw [upd_same] at z; omega⟩
      rw [ha] at hg
      have := Option.some.inj hg
      subst this
      exact upd_same _ _ _
  · have hst : stepN n s p = { s with ln := upd s.ln p (if s.wd (1 + p) = 0 then 6 else 5) } := by simp [stepN, e]
    rw [hst]
    have hb : 5 ≤ (if s.wd (1 + p) = 0 then (6 : Int) else 5) ∧ (if s.wd (1 + p) = 0 then (6 : Int) else 5) ≤ 6 := by split <;> omega
    refine h.calm (wd := s.wd) (ln := upd s.ln p (if s.wd (1 + p) = 0 then 6 else 5)) (sn := s.sn) hp (fun g c => upd_other c) (fun g c => rfl) (by rw [upd_same]; omega) (by rw [upd_same, e]; omega) rfl (fun g hg c => rfl) (fun g hg => .inl rfl) (fun x => ?_) (fun i x => ?_) (by rw [upd_same]; omega) (by rw [upd_same]; omega) (by rw [upd_same]; omega)
    · right
      have := h.head p x
      rw [upd_same, if_pos (by omega)]; omega
    · have := h.rest i p x
      rw [upd_same, if_neg (by omega)]
      exact ⟨by omega, fun _ => this.2.2 (by omega), fun _ => rfl, fun _ => .inl e, fun z => by omega⟩
  · have hst : stepN n s p = { s with ln := upd s.ln p 7 } := by simp [stepN, e]
    rw [hst]
    refine h.calm (wd := s.wd) (ln := upd s.ln p 7) (sn := s.sn) hp (fun g c => upd_other c) (fun g c => rfl) (by rw [upd_same]; omega) (by rw [upd_same, e]; omega) rfl (fun g hg c => rfl) (fun g hg => .inl rfl) (fun x => .inr (by rw [upd_same]; omega)) (fun i x => ?_) (by rw [upd_same]; omega) (by rw [upd_same]; omega) (by rw [upd_same]; omega)
    have := h.rest i p x; omega
  · have hst : stepN n s p = { s with ln := upd s.ln p (if s.wd (1 + n + p) = 0 then 8 else 10), sn := upd s.sn p (s.wd (1 + n + p)) } := by simp [stepN, e]
    rw [hst]
    have hq := h.front hp (.inl (by omega))
    have hb : 8 ≤ (if s.wd (1 + n + p) = 0 then (8 : Int) else 10) ∧ (if s.wd (1 + n + p) = 0 then (8 : Int) else 10) ≤ 10 := by split <;> omega
    refine h.calm (wd := s.wd) (ln := upd s.ln p (if s.wd (1 + n + p) = 0 then 8 else 10)) (sn := upd s.sn p (s.wd (1 + n + p))) hp (fun g c => upd_other c) (fun g c => upd_other c) (by rw [upd_same]; omega) (by rw [upd_same, e]; omega) rfl (fun g hg c => rfl) (fun g hg => .inl rfl) (fun x => .inr (by rw [upd_same]; omega)) (fun i x => ?_) (fun x => ?_) (fun x => ?_) (fun x => by rw [upd_same] at x; omega)
    · have := h.rest i p x; omega
    · rw [upd_same] at x
      have hne : s.wd (1 + n + p) ≠ 0 := fun z => by rw [if_pos z] at x; omega
      by_cases hlen : 1 = s.q.length
      · exact absurd (h.last 0 p hq hlen) hne
      · have hl1 : 1 < s.q.length := by have := (List.getElem?_eq_some_iff.1 hq).1; omega
        have h1 : s.q[1]? = some s.q[1] := List.getElem?_eq_getElem hl1
        have hr := h.rest 0 _ h1
        have ha := h.adj 0 p _ hq h1
        have h5 : s.ln s.q[1] = 5 := by
          apply Classical.byContradiction
          intro z; exact hne (ha.1 (by omega)).2
        exact ⟨s.q[1], hq, h1, by rw [upd_same]; exact ha.2 h5, h5⟩
    · rw [upd_same] at x; split at x <;> omega
  · have hq := h.front hp (.inl (by omega))
    have hinj : ∀ j : Nat, s.q[j]? = some p → 0 = j := fun j hj => h.inj hq hj
    by_cases h0 : s.wd 0 = p + 1
    · have hst : stepN n s p = { s with wd := upd s.wd 0 0, ln := upd s.ln p 1, q := s.q.tail } := by simp [stepN, e, h0]
      rw [hst]
      have hq1 : s.q = [p] := by
        rcases h.tail with ⟨z, -⟩ | ⟨i, a, z1, z2, z3⟩
        · rw [z] at hq; simp at hq
        · have : a = p := by omega
          subst this
          have := hinj _ z1
          subst this
          obtain ⟨r, hr⟩ := cons_of hq
          rw [hr] at z2
          simp only [List.length_cons] at z2
          rw [hr, List.length_eq_zero_iff.1 (show r.length = 0 by omega)]
      have hm := h.mem
      rw [hq1] at hm ⊢
      have hout : ∀ g, g < n → g ≠ p → s.ln g ≤ 2 := fun g hg c => by
        apply Classical.byContradiction
        intro z
        have := (hm g).2 ⟨hg, by omega⟩
        simp at this; exact c this
      exact {
        ln := fun g hg => by
          by_cases c : g = p
          · subst c; simp only [upd_same]; omega
          · simp only [upd_other c]; exact h.ln g hg
        nodup := List.nodup_nil
        mem := fun g => by
          by_cases c : g = p
          · subst c; simp [upd]
          · simp only [upd_other c, List.tail_cons]
            refine ⟨fun x => by simp at x, fun ⟨x, y⟩ => by have := hout g x c; omega⟩
        tail := .inl ⟨rfl, rfl⟩
        head := fun g x => by simp at x
        rest := fun i g x => by simp at x
        adj := fun i a b x => by simp at x
        last := fun i a x => by simp at x
        ten := fun g hg x => by
          by_cases c : g = p
          · subst c; simp only [upd_same] at x; omega
          · simp only [upd_other c] at x; have := hout g hg c; omega
        nine := fun g hg x => by
          by_cases c : g = p
          · subst c; simp only [upd_same] at x; omega
          · simp only [upd_other c] at x; have := hout g hg c; omega
        two := fun g hg x => by
          by_cases c : g = p
          · subst c; simp only [upd_same] at x; omega
          · simp only [upd_other c] at x
            show upd s.wd 0 0 (1 + n + g) = 0
            rw [upd_other (by omega)]; exact h.two g hg x }
    · have hst : stepN n s p = { s with ln := upd s.ln p 9 } := by simp [stepN, e, h0]
      rw [hst]
      refine h.calm (wd := s.wd) (ln := upd s.ln p 9) (sn := s.sn) hp (fun g c => upd_other c) (fun g c => rfl) (by rw [upd_same]; omega) (by rw [upd_same, e]; omega) rfl (fun g hg c => rfl) (fun g hg => .inl rfl) (fun x => .inr (by rw [upd_same]; omega)) (fun i x => ?_) (by rw [upd_same]; omega) (fun _ => ?_) (by rw [upd_same]; omega)
      · have := h.rest i p x; omega
      · have hl1 : 1 < s.q.length := by
          have h0' := (List.getElem?_eq_some_iff.1 hq).1
          apply Classical.byContradiction
          intro z
          rcases h.tail with ⟨z1, -⟩ | ⟨i, a, z1, z2, z3⟩
          · rw [z1] at hq; simp at hq
          · have : i = 0 := by omega
            subst this
            rw [hq] at z1
            have := Option.some.inj z1
            subst this
            exact h0 z3
        exact ⟨s.q[1], hq, List.getElem?_eq_getElem hl1⟩
  · have hst : stepN n s p = { s with ln := upd s.ln p (if s.wd (1 + n + p) = 0 then 9 else 10), sn := upd s.sn p (s.wd (1 + n + p)) } := by simp [stepN, e]
    rw [hst]
    have hb : 9 ≤ (if s.wd (1 + n + p) = 0 then (9 : Int) else 10) ∧ (if s.wd (1 + n + p) = 0 then (9 : Int) else 10) ≤ 10 := by split <;> omega
    obtain ⟨b, hq, h1⟩ := h.nine p hp e
    refine h.calm (wd := s.wd) (ln := upd s.ln p (if s.wd (1 + n + p) = 0 then 9 else 10)) (sn := upd s.sn p (s.wd (1 + n + p))) hp (fun g c => upd_other c) (fun g c => upd_other c) (by rw [upd_same]; omega) (by rw [upd_same, e]; omega) rfl (fun g hg c => rfl) (fun g hg => .inl rfl) (fun x => .inr (by rw [upd_same]; omega)) (fun i x => ?_) (fun x => ?_) (fun _ => ⟨b, hq, h1⟩) (fun x => by rw [upd_same] at x; omega)
    · have := h.rest i p x; omega
    · rw [upd_same] at x
      have hne : s.wd (1 + n + p) ≠ 0 := fun z => by rw [if_pos z] at x; omega
      have hr := h.rest 0 _ h1
      have ha := h.adj 0 p _ hq h1
      have h5 : s.ln b = 5 := by
        apply Classical.byContradiction
        intro z; exact hne (ha.1 (by omega)).2
      exact ⟨b, hq, h1, by rw [upd_same]; exact ha.2 h5, h5⟩
  · -- out of the row
    obtain ⟨b, hq, h1, hsn, hb5⟩ := h.ten p hp e
    have hst : stepN n s p = { s with wd := upd s.wd (1 + b) 0, ln := upd s.ln p 1, q := s.q.tail } := by
      have : (s.sn p - 1).toNat = b := by omega
      simp [stepN, e, this]
    rw [hst]
    have hbn := h.bd h1
    have hbp : b ≠ p := fun c => by subst c; have := h.inj hq h1; omega
    have hnp : ∀ i g, s.q[i + 1]? = some g → g ≠ p := fun i g hg c => by subst c; have := h.inj hq hg; omega
    have hlo : ∀ g, g ≠ p → upd s.ln p 1 g = s.ln g := fun g c => upd_other c
    have hwo : ∀ g, g ≠ 1 + b → upd s.wd (1 + b) 0 g = s.wd g := fun g c => upd_other c
    have hgt : ∀ i : Nat, s.q.tail[i]? = s.q[i + 1]? := fun i => List.getElem?_tail
    have hlen : s.q.tail.length + 1 = s.q.length := by
      have := (List.getElem?_eq_some_iff.1 hq).1
      rw [List.length_tail]; omega
    exact {
      ln := fun g hg => by
        by_cases c : g = p
        · subst c; simp only [upd_same]; omega
        · simp only [hlo g c]; exact h.ln g hg
      nodup := h.nodup.sublist (List.tail_sublist _)
      mem := fun g => by
        show g ∈ s.q.tail ↔ g < n ∧ 3 ≤ upd s.ln p 1 g
        have hm := h.mem g
        obtain ⟨r, hr⟩ := cons_of hq
        have hnd := h.nodup
        rw [hr] at hm hnd ⊢
        by_cases c : g = p
        · subst c; rw [upd_same]; exact ⟨fun x => absurd x (List.nodup_cons.1 hnd).1, fun x => by omega⟩
        · rw [hlo g c, ← hm]; simp [c]
      tail := by
        right
        show ∃ i a, s.q.tail[i]? = some a ∧ i + 1 = s.q.tail.length ∧ upd s.wd (1 + b) 0 0 = (a : Nat) + 1
        rw [hwo 0 (by omega)]
        rcases h.tail with ⟨z, -⟩ | ⟨i, a, z1, z2, z3⟩
        · rw [z] at hq; simp at hq
        · cases i with
          | zero => have := (List.getElem?_eq_some_iff.1 h1).1; omega
          | succ i => exact ⟨i, a, by rw [hgt]; exact z1, by omega, z3⟩
      head := fun g hg => by
        simp only [hgt] at hg ⊢
        rw [h1] at hg
        have := Option.some.inj hg
        subst this
        rw [hlo b hbp]; exact .inl ⟨hb5, upd_same _ _ _⟩
      rest := fun i g hg => by
        simp only [hgt] at hg ⊢
        have hgb : g ≠ b := fun c => by subst c; have := h.inj h1 hg; omega
        rw [hlo g (hnp _ g hg), hwo (1 + g) (by omega)]; exact h.rest _ g hg
      adj := fun i a c ha hc => by
        simp only [hgt] at ha hc ⊢
        rw [hlo c (hnp _ c hc), hwo (1 + n + a) (by have := (h.bd ha).1; omega)]; exact h.adj _ a c ha hc
      last := fun i a ha hi => by
        simp only [hgt] at ha hi ⊢
        rw [hwo (1 + n + a) (by omega)]; exact h.last _ a ha (by omega)
      ten := fun g hg x => by
        simp only at x
        have c : g ≠ p := fun c => by subst c; rw [upd_same] at x; omega
        rw [hlo g c] at x
        obtain ⟨d, y1, -⟩ := h.ten g hg x
        rw [hq] at y1
        exact absurd (Option.some.inj y1).symm c
      nine := fun g hg x => by
        simp only at x
        have c : g ≠ p := fun c => by subst c; rw [upd_same] at x; omega
        rw [hlo g c] at x
        obtain ⟨d, y1, -⟩ := h.nine g hg x
        rw [hq] at y1
        exact absurd (Option.some.inj y1).symm c
      two := fun g hg x => by
        simp only at x ⊢
        have c : g ≠ p := fun c => by subst c; rw [upd_same] at x; omega
        rw [hlo g c] at x
        rw [hwo (1 + n + g) (by omega)]; exact h.two g hg x }

theorem step_nat {n : Nat} (s : St) {p : Nat} (h : p < n) : step n s (p : Int) = stepN n s p := by
  unfold step; rw [if_pos (by omega)]; rfl
theorem line_nat {n : Nat} (s : St) {p : Nat} (h : p < n) : line n s (p : Int) = s.ln p := by
  unfold line; rw [if_pos (by omega)]; rfl
theorem Reach.step {n k : Nat} {s : St} (h : Reach n k s) (p : Int) : Reach n (k + 1) (step n s p) := by
  obtain ⟨h1, h4, hi⟩ := h
  by_cases hp : 0 ≤ p ∧ p < n
  · obtain ⟨m, rfl⟩ := Int.eq_ofNat_of_zero_le hp.1
    rw [step_nat s (by omega)]
    exact ⟨h1, h4, hi.step (by omega)⟩
  · unfold Mcs.step
    rw [if_neg hp]
    exact ⟨h1, h4, hi⟩
theorem Reach.fine {n k : Nat} {s : St} (h : Reach n k s) {p : Nat} (hp : p < n) : 1 ≤ s.ln p ∧ s.ln p ≤ 10 := h.2.2.ln p hp
theorem Reach.one {n k : Nat} {s : St} (h : Reach n k s) (i j : Nat) (hi : i < n) (hj : j < n) (h1 : isIn n s i = true) (h2 : isIn n s j = true) : i = j := by
  simp only [isIn, line_nat s hi, line_nat s hj, beq_iff_eq] at h1 h2
  have a := h.2.2.front hi (.inl (by omega))
  have b := h.2.2.front hj (.inl (by omega))
  rw [a] at b; exact Option.some.inj b
theorem Reach.seen4 {n k : Nat} {s : St} (h : Reach n k s) {p : Nat} (hp : p < n) (hl : s.ln p = 4) : 1 ≤ s.sn p ∧ s.sn p ≤ n := by
  obtain ⟨i, a, ha, hb⟩ := h.2.2.behind hp (.inr hl)
  have := (h.2.2.adj i a p ha hb).1 (by omega)
  have := h.2.2.bd ha
  omega
theorem Reach.seen10 {n k : Nat} {s : St} (h : Reach n k s) {p : Nat} (hp : p < n) (hl : s.ln p = 10) : 1 ≤ s.sn p ∧ s.sn p ≤ n := by
  obtain ⟨b, -, hb, h2, -⟩ := h.2.2.ten p hp hl
  have := h.2.2.bd hb
  omega
theorem Inv.len {n : Nat} {s : St} (h : Inv n s) : s.q.length ≤ n := nodup_len n s.q h.nodup (fun g hg => ((h.mem g).1 hg).1)
/-- The tail tells whether anybody is there. -/
theorem Reach.tail {n k : Nat} {s : St} (h : Reach n k s) : (s.wd 0 = 0 ∧ ∀ g, g < n → s.ln g ≤ 2) ∨ (∃ a : Nat, a < n ∧ s.wd 0 = a + 1 ∧ 3 ≤ s.ln a) := by
  rcases h.2.2.tail with ⟨z1, z2⟩ | ⟨i, a, z1, z2, z3⟩
  · left
    refine ⟨z2, fun g hg => ?_⟩
    apply Classical.byContradiction
    intro z
    have := (h.2.2.mem g).2 ⟨hg, by omega⟩
    rw [z1] at this; simp at this
  · exact .inr ⟨a, (h.2.2.bd z1).1, z3, (h.2.2.bd z1).2⟩

/-- Who stands in line and is not in. -/
def row (s : St) : List Nat :=
  match s.q with
  | [] => []
  | g :: r => if 6 ≤ s.ln g then r else g :: r
theorem row_len {n k : Nat} {s : St} (h : Reach n k s) : (row s).length ≤ 4 := by
  have hlen := h.2.2.len
  have h4 := h.2.1
  unfold row
  cases hq : s.q with
  | nil => simp
  | cons g r =>
    rw [hq] at hlen
    simp only [List.length_cons] at hlen
    simp only
    split <;> simp <;> omega
/-- What a line does to the row. -/
theorem row_rule {n k : Nat} {s : St} (h : Reach n k s) {p : Nat} (hp : p < n) :
    (s.ln p = 2 ∧ (stepN n s p).ln p ≠ 6 ∧ row (stepN n s p) = row s ++ [p]) ∨
    (s.ln p ≠ 2 ∧ s.ln p ≠ 6 ∧ (stepN n s p).ln p = 6 ∧ row s = p :: row (stepN n s p)) ∨
    (s.ln p ≠ 2 ∧ (s.ln p = 6 ∨ (stepN n s p).ln p ≠ 6) ∧ row (stepN n s p) = row s) ∨
    (s.ln p = 2 ∧ (stepN n s p).ln p = 6 ∧ row s = [] ∧ row (stepN n s p) = []) := by
  have hi := h.2.2
  have hl := hi.ln p hp
  have keep : ∀ t : St, t.q = s.q → (∀ g, g ≠ p → t.ln g = s.ln g) → (6 ≤ t.ln p ↔ 6 ≤ s.ln p) → row t = row s := by
    intro t hq hlo hx
    unfold row
    rw [hq]
    cases s.q with
    | nil => rfl
    | cons g r =>
      simp only
      by_cases c : g = p
      · subst c; by_cases y : 6 ≤ s.ln g
        · rw [if_pos y, if_pos (hx.2 y)]
        · rw [if_neg y, if_neg (fun z => y (hx.1 z))]
      · rw [hlo g c]
  have hcase : s.ln p = 1 ∨ s.ln p = 2 ∨ s.ln p = 3 ∨ s.ln p = 4 ∨ s.ln p = 5 ∨ s.ln p = 6 ∨ s.ln p = 7 ∨ s.ln p = 8 ∨ s.ln p = 9 ∨ s.ln p = 10 := by omega
  rcases hcase with e | e | e | e | e | e | e | e | e | e
  · have hst : stepN n s p = { s with wd := upd s.wd (1 + n + p) 0, ln := upd s.ln p 2 } := by simp [stepN, e]
    rw [hst]
    exact .inr (.inr (.inl ⟨by omega, .inr (by simp only [upd_same]; omega), keep _ rfl (fun g c => upd_other c) (by simp only [upd_same]; omega)⟩))
  · have hst : stepN n s p = { wd := upd s.wd 0 (p + 1), ln := upd s.ln p (if s.wd 0 = 0 then 6 else 3), sn := upd s.sn p (s.wd 0), q := s.q ++ [p] } := by simp [stepN, e]
    rw [hst]
    have hnot : p ∉ s.q := fun m => by have := (hi.mem p).1 m; omega
    rcases hi.tail with ⟨z1, z2⟩ | ⟨i, a, z1, z2, z3⟩
    · refine .inr (.inr (.inr ⟨e, by simp only [upd_same]; rw [if_pos z2], ?_, ?_⟩))
      · unfold row; rw [z1]
      · unfold row; simp [z1, z2, upd]
    · refine .inl ⟨e, by simp only [upd_same]; rw [if_neg (by omega)]; omega, ?_⟩
      unfold row
      cases hq : s.q with
      | nil => rw [hq] at z1; simp at z1
      | cons g r =>
        have hg : g ≠ p := fun x => hnot (by rw [hq]; simp [x])
        simp only [List.cons_append, upd_other hg]
        split <;> simp
  · have hst : stepN n s p = { s with wd := upd s.wd (1 + p) 1, ln := upd s.ln p 4 } := by simp [stepN, e]
    rw [hst]
    exact .inr (.inr (.inl ⟨by omega, .inr (by simp only [upd_same]; omega), keep _ rfl (fun g c => upd_other c) (by simp only [upd_same]; omega)⟩))
  · have hst : stepN n s p = { s with wd := upd s.wd (1 + n + (s.sn p - 1).toNat) (p + 1), ln := upd s.ln p 5 } := by simp [stepN, e]
    rw [hst]
    exact .inr (.inr (.inl ⟨by omega, .inr (by simp only [upd_same]; omega), keep _ rfl (fun g c => upd_other c) (by simp only [upd_same]; omega)⟩))
  · have hst : stepN n s p = { s with ln := upd s.ln p (if s.wd (1 + p) = 0 then 6 else 5) } := by simp [stepN, e]
    rw [hst]
    by_cases c : s.wd (1 + p) = 0
    · rw [if_pos c]
      obtain ⟨r, hr⟩ := cons_of (hi.front hp (.inr ⟨e, c⟩))
      refine .inr (.inl ⟨by omega, by omega, upd_same _ _ _, ?_⟩)
      unfold row
      rw [hr]
      simp only [upd_same]
      rw [if_neg (by omega), if_pos (by omega)]
    · rw [if_neg c]
      exact .inr (.inr (.inl ⟨by omega, .inr (by simp only [upd_same]; omega), keep _ rfl (fun g c => upd_other c) (by simp only [upd_same]; omega)⟩))
  · have hst : stepN n s p = { s with ln := upd s.ln p 7 } := by simp [stepN, e]
    rw [hst]
    exact .inr (.inr (.inl ⟨by omega, .inl e, keep _ rfl (fun g c => upd_other c) (by simp only [upd_same]; omega)⟩))
  · have hst : stepN n s p = { s with ln := upd s.ln p (if s.wd (1 + n + p) = 0 then 8 else 10), sn := upd s.sn p (s.wd (1 + n + p)) } := by simp [stepN, e]
    rw [hst]
    have hb : 8 ≤ (if s.wd (1 + n + p) = 0 then (8 : Int) else 10) := by split <;> omega
    exact .inr (.inr (.inl ⟨by omega, .inr (by simp only [upd_same]; omega), keep _ rfl (fun g c => upd_other c) (by simp only [upd_same]; omega)⟩))
  · by_cases h0 : s.wd 0 = p + 1
    · have hst : stepN n s p = { s with wd := upd s.wd 0 0, ln := upd s.ln p 1, q := s.q.tail } := by simp [stepN, e, h0]
      rw [hst]
      obtain ⟨r, hr⟩ := cons_of (hi.front hp (.inl (by omega)))
      refine .inr (.inr (.inl ⟨by omega, .inr (by simp only [upd_same]; omega), ?_⟩))
      have hr2 := hi.rest
      unfold row
      rw [hr] at hr2 ⊢
      simp only [List.tail_cons]
      rw [if_pos (by omega)]
      cases r with
      | nil => rfl
      | cons g r' =>
        have := hr2 0 g rfl
        have hne : g ≠ p := fun x => by subst x; omega
        simp only [upd_other hne]
        rw [if_neg (by omega)]
    · have hst : stepN n s p = { s with ln := upd s.ln p 9 } := by simp [stepN, e, h0]
      rw [hst]
      exact .inr (.inr (.inl ⟨by omega, .inr (by simp only [upd_same]; omega), keep _ rfl (fun g c => upd_other c) (by simp only [upd_same]; omega)⟩))
  · have hst : stepN n s p = { s with ln := upd s.ln p (if s.wd (1 + n + p) = 0 then 9 else 10), sn := upd s.sn p (s.wd (1 + n + p)) } := by simp [stepN, e]
    rw [hst]
    have hb : 9 ≤ (if s.wd (1 + n + p) = 0 then (9 : Int) else 10) := by split <;> omega
    exact .inr (.inr (.inl ⟨by omega, .inr (by simp only [upd_same]; omega), keep _ rfl (fun g c => upd_other c) (by simp only [upd_same]; omega)⟩))
  · have hst : stepN n s p = { s with wd := upd s.wd (1 + (s.sn p - 1).toNat) 0, ln := upd s.ln p 1, q := s.q.tail } := by simp [stepN, e]
    rw [hst]
    obtain ⟨r, hr⟩ := cons_of (hi.front hp (.inl (by omega)))
    refine .inr (.inr (.inl ⟨by omega, .inr (by simp only [upd_same]; omega), ?_⟩))
    have hr2 := hi.rest
    unfold row
    rw [hr] at hr2 ⊢
    simp only [List.tail_cons]
    rw [if_pos (by omega)]
    cases r with
    | nil => rfl
    | cons g r' =>
      have := hr2 0 g rfl
      have hne : g ≠ p := fun x => by subst x; omega
      simp only [upd_other hne]
      rw [if_neg (by omega)]

/-- Hand 1 alone, line by line. -/
def alone : Nat → St
  | 0 => first 2
  | k + 1 => step 2 (alone k) 1
theorem alone_reach (k : Nat) : Reach 2 k (alone k) := by
  induction k with
  | zero => exact Reach.first 2 (by omega) (by omega)
  | succ k ih => exact ih.step 1
theorem alone_out (k : Nat) (h : k < 1) : (line 2 (alone (k + 1)) 1 == 6) = false := by
  obtain rfl := (by omega : k = 0)
  all_goals decide
theorem alone_in : (line 2 (alone 2) 1 == 6) = true := by decide
theorem alone_zero : line 2 (alone 2) 0 = 1 := by decide

/-- All do a line in turn: behind t lines. -/
def turns (n : Nat) (s : St) : Nat → St
  | 0 => s
  | t + 1 => step n (turns n s t) ((t % n : Nat) : Int)
/-- Was hand q in, at one of t lines? -/
def was (n : Nat) (s : St) (q : Nat) : Nat → Bool
  | 0 => false
  | t + 1 => was n s q t || (t % n == q && isIn n (turns n s (t + 1)) q)
theorem was_of {n : Nat} {s : St} {q T t : Nat} (ht : t < T) (h1 : t % n = q) (h2 : isIn n (turns n s (t + 1)) q = true) : was n s q T = true := by
  induction T with
  | zero => omega
  | succ T ih =>
    unfold was
    by_cases e : t = T
    · subst e; simp [h1, h2]
    · rw [ih (by omega)]; rfl
theorem Reach.turns {n k : Nat} {s : St} (h : Reach n k s) (t : Nat) : Reach n (k + t) (turns n s t) := by
  induction t with
  | zero => exact h
  | succ t ih => exact ih.step _
end Go.Proofs.YtgkfgijmccojjaaDoor.Mcs
