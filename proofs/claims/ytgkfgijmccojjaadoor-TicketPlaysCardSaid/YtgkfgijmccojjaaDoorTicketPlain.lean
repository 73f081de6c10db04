import Derived.Test.YtgkfgijmccojjaaDoorKit
namespace Go.Proofs.YtgkfgijmccojjaaDoor.Ticket

/-- The lock of n hands. wd: Next, Now; ln, mine: of each hand its line, its ticket; q: who drew, in order (of the proof alone). -/
structure St where
  wd : Nat → Int
  ln : Nat → Int
  mine : Nat → Int
  q : List Nat

def first (_ : Nat) : St := { wd := fun _ => 0, ln := fun _ => 1, mine := fun _ => 0, q := [] }

def stepN (s : St) (p : Nat) : St :=
  if s.ln p = 1 then { s with mine := upd s.mine p (s.wd 0), ln := upd s.ln p 2, wd := upd s.wd 0 (s.wd 0 + 1), q := s.q ++ [p] }
  else if s.ln p = 2 then (if s.wd 1 = s.mine p then { s with ln := upd s.ln p 3 } else s)
  else if s.ln p = 3 then { s with ln := upd s.ln p 4 }
  else { s with wd := upd s.wd 1 (s.mine p + 1), mine := upd s.mine p 0, ln := upd s.ln p 1, q := s.q.tail }

def step (n : Nat) (s : St) (p : Int) : St := if 0 ≤ p ∧ p < n then stepN s p.toNat else s
def line (n : Nat) (s : St) (p : Int) : Int := if 0 ≤ p ∧ p < n then s.ln p.toNat else 0
def isIn (n : Nat) (s : St) (j : Nat) : Bool := line n s j == 3

/-- The tickets of those who wait count up from c; the next one is behind them. -/
def Chain (s : St) : Int → List Nat → Prop
  | c, [] => s.wd 0 = c
  | c, h :: r => s.mine h = c ∧ Chain s (c + 1) r

structure Inv (n k : Nat) (s : St) : Prop where
  ln : ∀ h, h < n → 1 ≤ s.ln h ∧ s.ln h ≤ 4
  nodup : s.q.Nodup
  mem : ∀ h, h ∈ s.q ↔ h < n ∧ 2 ≤ s.ln h
  chain : Chain s (s.wd 1) s.q
  head : ∀ h, h < n → 3 ≤ s.ln h → s.q.head? = some h
  low : 0 ≤ s.wd 1 ∧ s.wd 0 ≤ k
  sum : s.wd 0 - s.wd 1 = cnt (fun h => decide (2 ≤ s.ln h)) n

/-- What every state that a script reaches is. -/
def Reach (n k : Nat) (s : St) : Prop := 1 ≤ n ∧ n ≤ 4 ∧ Inv n k s

theorem Chain.congr {s t : St} {c : Int} {l : List Nat} (h : Chain s c l) (hw : t.wd 0 = s.wd 0) (ha : ∀ g, g ∈ l → t.mine g = s.mine g) : Chain t c l := by
  induction l generalizing c with
  | nil => exact hw.trans h
  | cons g r ih => exact ⟨(ha g (by simp)).trans h.1, ih h.2 (fun x hx => ha x (by simp [hx]))⟩
theorem Chain.snoc {s t : St} {c : Int} {l : List Nat} {p : Nat} (h : Chain s c l) (hp : t.mine p = s.wd 0) (hw : t.wd 0 = s.wd 0 + 1) (ha : ∀ g, g ∈ l → t.mine g = s.mine g) : Chain t c (l ++ [p]) := by
  induction l generalizing c with
  | nil => have : s.wd 0 = c := h; exact ⟨hp.trans h, by show t.wd 0 = c + 1; omega⟩
  | cons g r ih => exact ⟨(ha g (by simp)).trans h.1, ih h.2 (fun x hx => ha x (by simp [hx]))⟩
theorem Chain.low {s : St} {c : Int} {l : List Nat} (h : Chain s c l) : c ≤ s.wd 0 ∧ ∀ p, p ∈ l → c ≤ s.mine p := by
  induction l generalizing c with
  | nil => have : s.wd 0 = c := h; exact ⟨by omega, fun p hp => by simp at hp⟩
  | cons g r ih =>
    have hi := ih h.2
    refine ⟨by omega, fun p hp => ?_⟩
    rcases List.mem_cons.1 hp with rfl | hp
    · have := h.1; omega
    · have := hi.2 p hp; omega
theorem Chain.first {s : St} {c : Int} {l : List Nat} (h : Chain s c l) {p : Nat} (hp : p ∈ l) (hm : c = s.mine p) : l.head? = some p := by
  cases l with
  | nil => simp at hp
  | cons g r =>
    rcases List.mem_cons.1 hp with rfl | hp
    · rfl
    · have := h.2.low.2 p hp; omega

theorem Reach.first (n : Nat) (h1 : 1 ≤ n) (h4 : n ≤ 4) : Reach n 0 (Ticket.first n) := by
  refine ⟨h1, h4, { ln := fun h _ => ⟨by simp [Ticket.first], by simp [Ticket.first]⟩, nodup := List.nodup_nil, mem := fun h => by simp [Ticket.first], chain := by simp [Ticket.first, Chain], head := fun h _ hh => by simp [Ticket.first] at hh, low := by simp [Ticket.first], sum := ?_ }⟩
  rw [cnt_none (fun i _ => by simp [Ticket.first])]; simp [Ticket.first]

theorem Inv.more {n k : Nat} {s : St} (h : Inv n k s) : Inv n (k + 1) s := { h with low := ⟨h.low.1, by have := h.low.2; omega⟩ }

theorem Inv.step {n k : Nat} {s : St} (h : Inv n k s) {p : Nat} (hp : p < n) : Inv n (k + 1) (stepN s p) := by
  have hl := h.ln p hp
  have hsum := h.sum
  have hlow := h.low
  obtain e | e | e | e : s.ln p = 1 ∨ s.ln p = 2 ∨ s.ln p = 3 ∨ s.ln p = 4 := by omega
  · have hq : p ∉ s.q := fun m => by have := (h.mem p).1 m; omega
    simp only [stepN, e, if_true]
    exact {
      ln := fun g hg => by by_cases c : g = p <;> simp [upd, c, h.ln g hg]
      nodup := by
        rw [List.nodup_append]
        exact ⟨h.nodup, by simp, fun a ha b hb => by simp at hb; subst hb; exact fun e => hq (e ▸ ha)⟩
      mem := fun g => by
        by_cases c : g = p
        · subst c; simp [upd, hp]
        · simp only [upd_other c, List.mem_append, List.mem_singleton, c, or_false]; exact h.mem g
      chain := by
        have hc : Chain s (upd s.wd 0 (s.wd 0 + 1) 1) s.q := by rw [upd_other (by omega)]; exact h.chain
        exact hc.snoc (upd_same s.mine p (s.wd 0)) (upd_same s.wd 0 (s.wd 0 + 1)) (fun g hg => upd_other (fun c => hq (c ▸ hg)))
      head := fun g hg h4 => by
        by_cases c : g = p
        · subst c; simp [upd] at h4
        · simp only [upd_other c] at h4
          have := h.head g hg h4
          simp [List.head?_append, this]
      low := by
        dsimp only
        rw [upd_same, upd_other (by omega)]; omega
      sum := by
        dsimp only
        rw [upd_same, upd_other (by omega), cnt_upd (fun x => decide (2 ≤ x)) _ hp]
        simp only [e]; simp; omega }
  · have h1 : ¬ ((2 : Int) = 1) := by omega
    by_cases h0 : s.wd 1 = s.mine p
    · have hhead := h.chain.first ((h.mem p).2 ⟨hp, by omega⟩) h0
      simp only [stepN, e, h1, h0, if_true, if_false]
      exact {
        ln := fun g hg => by by_cases c : g = p <;> simp [upd, c, h.ln g hg]
        nodup := h.nodup
        mem := fun g => by
          by_cases c : g = p
          · subst c; rw [h.mem g, e]; simp [upd]
          · simp only [upd_other c]; exact h.mem g
        chain := h.chain.congr rfl (fun g _ => rfl)
        head := fun g hg h4 => by
          by_cases c : g = p
          · subst c; exact hhead
          · simp only [upd_other c] at h4; exact h.head g hg h4
        low := by simp only; omega
        sum := by
          rw [cnt_upd (fun x => decide (2 ≤ x)) _ hp]
          simp only [e]; simp; omega }
    · simp only [stepN, e, h1, h0, if_true, if_false]
      exact h.more
  · have h1 : ¬ ((3 : Int) = 1) := by omega
    have h2 : ¬ ((3 : Int) = 2) := by omega
    have hhead := h.head p hp (by omega)
    simp only [stepN, e, h1, h2, if_true, if_false]
    exact {
      ln := fun g hg => by by_cases c : g = p <;> simp [upd, c, h.ln g hg]
      nodup := h.nodup
      mem := fun g => by
        by_cases c : g = p
        · subst c; rw [h.mem g, e]; simp [upd]
        · simp only [upd_other c]; exact h.mem g
      chain := h.chain.congr rfl (fun g _ => rfl)
      head := fun g hg h4 => by
        by_cases c : g = p
        · subst c; exact hhead
        · simp only [upd_other c] at h4; exact h.head g hg h4
      low := by simp only; omega
      sum := by
        rw [cnt_upd (fun x => decide (2 ≤ x)) _ hp]
        simp only [e]; simp; omega }
  · have h1 : ¬ ((4 : Int) = 1) := by omega
    have h2 : ¬ ((4 : Int) = 2) := by omega
    have h3 : ¬ ((4 : Int) = 3) := by omega
    have hhead := h.head p hp (by omega)
    obtain ⟨r, hr⟩ : ∃ r, s.q = p :: r := by
      cases hq : s.q with
      | nil => rw [hq] at hhead; simp at hhead
      | cons a r => rw [hq] at hhead; simp at hhead; subst hhead; exact ⟨r, rfl⟩
    have hch := h.chain
    rw [hr] at hch
    obtain ⟨ha, hch⟩ := hch
    have hnd := h.nodup
    rw [hr, List.nodup_cons] at hnd
    simp only [stepN, e, h1, h2, h3, if_false, hr, List.tail_cons, ha]
    exact {
      ln := fun g hg => by by_cases c : g = p <;> simp [upd, c, h.ln g hg]
      nodup := hnd.2
      mem := fun g => by
        by_cases c : g = p
        · subst c; simp [upd, hnd.1]
        · have := h.mem g
          rw [hr] at this
          simp only [List.mem_cons, c, false_or] at this
          simp only [upd_other c]; exact this
      chain := by
        dsimp only
        rw [upd_same]
        exact hch.congr (upd_other (f := s.wd) (v := s.wd 1 + 1) (show (0 : Nat) ≠ 1 by omega)) (fun g hg => upd_other (fun c => hnd.1 (c ▸ hg)))
      head := fun g hg hg4 => by
        by_cases c : g = p
        · subst c; simp [upd] at hg4
        · simp only [upd_other c] at hg4
          have := h.head g hg hg4
          rw [hr] at this
          simp at this
          exact absurd this.symm c
      low := by
        dsimp only
        rw [upd_same, upd_other (by omega)]; omega
      sum := by
        dsimp only
        rw [upd_same, upd_other (by omega), cnt_upd (fun x => decide (2 ≤ x)) _ hp]
        simp only [e]; simp; omega }

theorem step_nat {n : Nat} (s : St) {p : Nat} (h : p < n) : step n s (p : Int) = stepN s p := by
  unfold step; rw [if_pos (by omega)]; rfl
theorem line_nat {n : Nat} (s : St) {p : Nat} (h : p < n) : line n s (p : Int) = s.ln p := by
  unfold line; rw [if_pos (by omega)]; rfl
theorem Reach.step {n k : Nat} {s : St} (h : Reach n k s) (p : Int) : Reach n (k + 1) (step n s p) := by
  obtain ⟨h1, h4, hi⟩ := h
  by_cases hp : 0 ≤ p ∧ p < n
  · obtain ⟨m, rfl⟩ := Int.eq_ofNat_of_zero_le hp.1
    rw [step_nat s (by omega)]
    exact ⟨h1, h4, hi.step (by omega)⟩
  · unfold Ticket.step
    rw [if_neg hp]
    exact ⟨h1, h4, hi.more⟩
theorem Reach.one {n k : Nat} {s : St} (h : Reach n k s) (i j : Nat) (hi : i < n) (hj : j < n) (h1 : isIn n s i = true) (h2 : isIn n s j = true) : i = j := by
  obtain ⟨-, -, hz⟩ := h
  simp only [isIn, line_nat s hi, line_nat s hj, beq_iff_eq] at h1 h2
  have a := hz.head i hi (by omega)
  have b := hz.head j hj (by omega)
  rw [a] at b
  exact Option.some.inj b

/-- Hand 1 alone, line by line. -/
def alone : Nat → St
  | 0 => first 2
  | k + 1 => step 2 (alone k) 1
theorem alone_reach (k : Nat) : Reach 2 k (alone k) := by
  induction k with
  | zero => exact Reach.first 2 (by omega) (by omega)
  | succ k ih => exact ih.step 1
theorem alone_out (k : Nat) (h : k < 1) : (line 2 (alone (k + 1)) 1 == 3) = false := by
  obtain rfl := (by omega : k = 0)
  all_goals decide
theorem alone_in : (line 2 (alone 2) 1 == 3) = true := by decide
theorem alone_zero : line 2 (alone 2) 0 = 1 := by decide

/-- All do a line in turn: behind t lines. -/
def turns (n : Nat) (s : St) : Nat → St
  | 0 => s
  | t + 1 => step n (turns n s t) ((t % n : Nat) : Int)
/-- Was hand q in, at one of t lines? -/
def was (n : Nat) (s : St) (q : Nat) : Nat → Bool
  | 0 => false
  | t + 1 => was n s q t || (t % n == q && isIn n (turns n s (t + 1)) q)
theorem was_of {n : Nat} {s : St} {q T t : Nat} (ht : t < T) (h1 : t % n = q) (h2 : isIn n (turns n s (t + 1)) q = true) : was n s q T = true := by
  induction T with
  | zero => omega
  | succ T ih =>
    unfold was
    by_cases e : t = T
    · subst e; simp [h1, h2]
    · rw [ih (by omega)]; rfl
theorem Reach.turns {n k : Nat} {s : St} (h : Reach n k s) (t : Nat) : Reach n (k + t) (turns n s t) := by
  induction t with
  | zero => exact h
  | succ t ih => exact ih.step _

theorem Reach.fine {n k : Nat} {s : St} (h : Reach n k s) {p : Nat} (hp : p < n) : 1 ≤ s.ln p ∧ s.ln p ≤ 4 := h.2.2.ln p hp
theorem Reach.bounds {n k : Nat} {s : St} (h : Reach n k s) : (0 ≤ s.wd 1 ∧ s.wd 1 ≤ s.wd 0 ∧ s.wd 0 ≤ k) ∧ s.wd 0 - s.wd 1 = cnt (fun h => decide (2 ≤ s.ln h)) n := by
  obtain ⟨-, -, hz⟩ := h
  exact ⟨⟨hz.low.1, hz.chain.low.1, hz.low.2⟩, hz.sum⟩
theorem Reach.ticket {n k : Nat} {s : St} (h : Reach n k s) {p : Nat} (hp : p < n) (h3 : 3 ≤ s.ln p) : s.mine p = s.wd 1 := by
  obtain ⟨-, -, hz⟩ := h
  have hh := hz.head p hp h3
  have hc := hz.chain
  cases hq : s.q with
  | nil => rw [hq] at hh; simp at hh
  | cons a r => rw [hq] at hh hc; simp at hh; subst hh; exact hc.1

/-- How far hand p is from coming in. -/
def far (n p : Nat) (s : St) : Nat :=
  match s.q with
  | [] => 3 * n
  | g :: r => if g = p then (if s.ln p = 2 then 1 else if s.ln p = 4 then 3 * n + 1 else 3 * n + 2)
    else if p ∈ r then 3 * pos p r + (5 - s.ln g).toNat + 1
    else 3 * n
/-- Whose line brings it nearer. -/
def who (p : Nat) (s : St) : Nat :=
  match s.q with
  | [] => p
  | g :: r => if p ∈ r then g else p

theorem far_move {n k : Nat} {s : St} (hz : Inv n k s) {p h : Nat} (hp : p < n) (hh : h < n) :
    (h = p ∧ isIn n (step n s (h : Int)) p = true) ∨ far n p (step n s (h : Int)) < far n p s ∨
      (far n p (step n s (h : Int)) = far n p s ∧ h ≠ who p s ∧ who p (step n s (h : Int)) = who p s) := by
  rw [step_nat s hh]
  have hlh := hz.ln h hh
  have hlp := hz.ln p hp
  have hmh := hz.mem h
  have hmp := hz.mem p
  have hnd := hz.nodup
  have hhead := hz.head
  have hch := hz.chain
  have hfirst := fun (m : h ∈ s.q) (x : s.wd 1 = s.mine h) => hz.chain.first m x
  obtain ⟨wd, ln, mine, q⟩ := s
  simp only at hlh hlp hmh hmp hnd hhead hch hfirst
  simp only [isIn, line_nat _ hp]
  have hcase : ln h = 1 ∨ (ln h = 2 ∧ wd 1 = mine h) ∨ (ln h = 2 ∧ wd 1 ≠ mine h) ∨ ln h = 3 ∨ ln h = 4 := by
    by_cases h0 : wd 1 = mine h <;> omega
  have hcons : q.head? = some h → ∃ r, q = h :: r := by
    intro x
    cases q with
    | nil => simp at x
    | cons a r => simp at x; subst x; exact ⟨r, rfl⟩
  rcases hcase with e | ⟨e, h0⟩ | ⟨e, h0⟩ | e | e
  · -- line 1: into the row
    have hst : stepN ⟨wd, ln, mine, q⟩ h = ⟨upd wd 0 (wd 0 + 1), upd ln h 2, upd mine h (wd 0), q ++ [h]⟩ := by simp [stepN, e]
    rw [hst]
    have hq : h ∉ q := fun m => by have := hmh.1 m; omega
    have hlen2 : q.length + 1 ≤ n := by
      have := nodup_len n (h :: q) (List.nodup_cons.2 ⟨hq, hnd⟩) (fun g hg => by
        rcases List.mem_cons.1 hg with rfl | hg
        · exact hh
        · exact ((hz.mem g).1 hg).1)
      simpa using this
    by_cases c : h = p
    · subst c
      right; left
      cases q with
      | nil => simp [far, upd]; omega
      | cons g r =>
        simp only [List.mem_cons, not_or] at hq
        have hg : g ≠ h := fun x => hq.1 x.symm
        have hg3 : 2 ≤ ln g := ((hz.mem g).1 (by simp)).2
        simp only [List.length_cons] at hlen2
        have hp1 := pos_last hq.2
        simp [far, upd_other hg, hg, hq.2, hp1]; omega
    · right; right
      have c' : p ≠ h := fun x => c x.symm
      cases q with
      | nil => simp [far, who, c]
      | cons g r =>
        simp only [List.mem_cons, not_or] at hq
        have hg : g ≠ h := fun x => hq.1 x.symm
        have hm : (p ∈ r ++ [h]) ↔ p ∈ r := by simp [c']
        refine ⟨?_, ?_, ?_⟩
        · simp only [far, List.cons_append, upd_other c', upd_other hg, hm]
          by_cases hgp : g = p
          · simp [hgp]
          · simp only [hgp, if_false]
            by_cases hpr : p ∈ r
            · simp only [hpr, if_true, pos_append hpr]
            · simp only [hpr, if_false]
        · simp only [who]; split
          · exact hq.1
          · exact c
        · simp only [who, List.cons_append, hm]
  · have hst : stepN ⟨wd, ln, mine, q⟩ h = ⟨wd, upd ln h 3, mine, q⟩ := by simp [stepN, e, h0]
    rw [hst]
    obtain ⟨r, rfl⟩ := hcons (hfirst (hmh.2 ⟨hh, by omega⟩) h0)
    by_cases c : h = p
    · left; subst c; exact ⟨rfl, by simp [upd]⟩
    · have c' : p ≠ h := fun x => c x.symm
      by_cases hpr : p ∈ r
      · right; left
        simp [far, c, hpr, upd_same, e]
      · right; right
        refine ⟨by simp [far, c, hpr], by simp [who, hpr, c], by simp [who]⟩
  · have hst : stepN ⟨wd, ln, mine, q⟩ h = ⟨wd, ln, mine, q⟩ := by simp [stepN, e, h0]
    rw [hst]
    right; right
    have hmem := hmh.2 ⟨hh, by omega⟩
    refine ⟨rfl, ?_, rfl⟩
    cases q with
    | nil => simp at hmem
    | cons g r =>
      have hgh : h ≠ g := by
        intro x
        subst x
        exact h0 hch.1.symm
      simp only [who]; split
      · exact hgh
      · rename_i hpr
        intro x
        subst x
        rcases List.mem_cons.1 hmem with x | x
        · exact hgh x
        · exact hpr x
  · have hst : stepN ⟨wd, ln, mine, q⟩ h = ⟨wd, upd ln h 4, mine, q⟩ := by simp [stepN, e]
    rw [hst]
    obtain ⟨r, rfl⟩ := hcons (hhead h hh (by omega))
    by_cases c : h = p
    · right; left; subst c; simp [far, upd_same, e]
    · have c' : p ≠ h := fun x => c x.symm
      by_cases hpr : p ∈ r
      · right; left
        simp [far, c, hpr, upd_same, e]
      · right; right
        refine ⟨by simp [far, c, hpr], by simp [who, hpr, c], by simp [who]⟩
  · have hst : stepN ⟨wd, ln, mine, q⟩ h = ⟨upd wd 1 (mine h + 1), upd ln h 1, upd mine h 0, q.tail⟩ := by simp [stepN, e]
    rw [hst]
    obtain ⟨r, rfl⟩ := hcons (hhead h hh (by omega))
    have hr2 : ∀ g, g ∈ r → g ≠ h ∧ ln g = 2 := by
      intro g hg
      have hne : g ≠ h := fun x => (List.nodup_cons.1 hnd).1 (x ▸ hg)
      have hg' := (hz.mem g).1 (by simp [hg])
      have hg'' := hz.ln g hg'.1
      refine ⟨hne, ?_⟩
      have : ¬ 3 ≤ ln g := fun x => by
        have := hhead g hg'.1 x
        simp at this
        exact hne this.symm
      simp only at hg' hg''
      omega
    simp only [List.tail_cons]
    by_cases c : h = p
    · right; left
      subst c
      have hnr := (List.nodup_cons.1 hnd).1
      cases r with
      | nil => simp [far, e]
      | cons g r' =>
        have hg := hr2 g (by simp)
        simp only [List.mem_cons, not_or] at hnr
        simp [far, e, hg.1, hnr.2]
    · have c' : p ≠ h := fun x => c x.symm
      cases r with
      | nil =>
        right; right
        simp [far, who, c]
      | cons g r' =>
        have hg := hr2 g (by simp)
        by_cases hgp : g = p
        · right; left
          subst hgp
          simp [far, c, pos, upd_other hg.1, hg.2, e]
        · by_cases hpr : p ∈ r'
          · right; left
            simp [far, c, hgp, hpr, pos, upd_other hg.1, hg.2, e]; omega
          · right; right
            have hpg : p ≠ g := fun x => hgp x.symm
            refine ⟨by simp [far, c, hgp, hpg, hpr], by simp [who, hpg, hpr, c], by simp [who, hpg, hpr]⟩

theorem far_bd {n p k : Nat} {s : St} (hz : Inv n k s) (hn : n ≤ 4) : far n p s < 40 := by
  have hlen := nodup_len n s.q hz.nodup (fun g hg => ((hz.mem g).1 hg).1)
  have hm := hz.mem
  unfold far
  cases hq : s.q with
  | nil => simp only; omega
  | cons g r =>
    rw [hq] at hlen
    have hg := (hm g).1 (by rw [hq]; simp)
    simp only [List.length_cons] at hlen ⊢
    split
    · split
      · omega
      · split <;> omega
    · split
      · rename_i h
        have := pos_lt h
        omega
      · omega
theorem who_lt {n p k : Nat} {s : St} (hz : Inv n k s) (hp : p < n) : who p s < n := by
  unfold who
  cases hq : s.q with
  | nil => exact hp
  | cons g r =>
    simp only
    split
    · exact ((hz.mem g).1 (by rw [hq]; simp)).1
    · exact hp
theorem Reach.goes {n k : Nat} {s : St} (h : Reach n k s) (q : Nat) (hq : q < n) : was n s q (40 * n) = true := by
  obtain ⟨h1, h4, hz⟩ := h
  obtain ⟨t, ht, e1, e2⟩ := live hq (fun s h => Ticket.step n s (h : Int)) (Ticket.turns n) (fun _ => rfl) (fun _ _ => rfl)
    (fun s => ∃ k, Inv n k s) (fun s => isIn n s q) (far n q) (who q)
    (fun s h ⟨k, hs⟩ hh => by rw [step_nat s hh]; exact ⟨k + 1, hs.step hh⟩) (fun s ⟨k, hs⟩ => who_lt hs hq)
    (fun s h ⟨k, hs⟩ hh => far_move hs hq hh) 40 s ⟨k, hz⟩ (far_bd hz h4)
  exact was_of ht e1 e2

/-- Who stands in line and is not in. -/
def row (s : St) : List Nat :=
  match s.q with
  | [] => []
  | g :: r => if 3 ≤ s.ln g then r else g :: r
/-- What a line does to the row. -/
theorem row_rule {n k : Nat} {s : St} (h : Reach n k s) {p : Nat} (hp : p < n) :
    (s.ln p = 1 ∧ (stepN s p).ln p ≠ 3 ∧ row (stepN s p) = row s ++ [p]) ∨
    (s.ln p ≠ 1 ∧ s.ln p ≠ 3 ∧ (stepN s p).ln p = 3 ∧ row s = p :: row (stepN s p)) ∨
    (s.ln p ≠ 1 ∧ (s.ln p = 3 ∨ (stepN s p).ln p ≠ 3) ∧ row (stepN s p) = row s) := by
  obtain ⟨-, -, hz⟩ := h
  have hlp := hz.ln p hp
  have hmp := hz.mem p
  have hnd := hz.nodup
  have hhead := hz.head
  have hfirst := fun (m : p ∈ s.q) (x : s.wd 1 = s.mine p) => hz.chain.first m x
  obtain ⟨wd, ln, mine, q⟩ := s
  simp only at hlp hmp hnd hhead hfirst
  have hcase : ln p = 1 ∨ (ln p = 2 ∧ wd 1 = mine p) ∨ (ln p = 2 ∧ wd 1 ≠ mine p) ∨ ln p = 3 ∨ ln p = 4 := by
    by_cases h0 : wd 1 = mine p <;> omega
  have hcons : q.head? = some p → ∃ r, q = p :: r := by
    intro x
    cases q with
    | nil => simp at x
    | cons a r => simp at x; subst x; exact ⟨r, rfl⟩
  rcases hcase with e | ⟨e, h0⟩ | ⟨e, h0⟩ | e | e
  · have hst : stepN ⟨wd, ln, mine, q⟩ p = ⟨upd wd 0 (wd 0 + 1), upd ln p 2, upd mine p (wd 0), q ++ [p]⟩ := by simp [stepN, e]
    rw [hst]
    have hq : p ∉ q := fun m => by have := hmp.1 m; omega
    refine .inl ⟨e, by show upd ln p 2 p ≠ 3; rw [upd_same]; omega, ?_⟩
    cases q with
    | nil => simp [row, upd]
    | cons g r =>
      have hg : g ≠ p := fun x => hq (by simp [x])
      simp only [row, List.cons_append, upd_other hg]
      split <;> simp
  · have hst : stepN ⟨wd, ln, mine, q⟩ p = ⟨wd, upd ln p 3, mine, q⟩ := by simp [stepN, e, h0]
    rw [hst]
    obtain ⟨r, rfl⟩ := hcons (hfirst (hmp.2 ⟨hp, by omega⟩) h0)
    exact .inr (.inl ⟨by show ln p ≠ 1; omega, by show ln p ≠ 3; omega, upd_same ln p 3, by simp [row, upd_same, e]⟩)
  · have hst : stepN ⟨wd, ln, mine, q⟩ p = ⟨wd, ln, mine, q⟩ := by simp [stepN, e, h0]
    rw [hst]
    exact .inr (.inr ⟨by show ln p ≠ 1; omega, .inr (by show ln p ≠ 3; omega), rfl⟩)
  · have hst : stepN ⟨wd, ln, mine, q⟩ p = ⟨wd, upd ln p 4, mine, q⟩ := by simp [stepN, e]
    rw [hst]
    obtain ⟨r, rfl⟩ := hcons (hhead p hp (by omega))
    exact .inr (.inr ⟨by show ln p ≠ 1; omega, .inl e, by simp [row, upd_same, e]⟩)
  · have hst : stepN ⟨wd, ln, mine, q⟩ p = ⟨upd wd 1 (mine p + 1), upd ln p 1, upd mine p 0, q.tail⟩ := by simp [stepN, e]
    rw [hst]
    obtain ⟨r, rfl⟩ := hcons (hhead p hp (by omega))
    refine .inr (.inr ⟨by show ln p ≠ 1; omega, .inr (by show upd ln p 1 p ≠ 3; rw [upd_same]; omega), ?_⟩)
    cases r with
    | nil => simp [row, e]
    | cons g r' =>
      have hne : g ≠ p := fun x => (List.nodup_cons.1 hnd).1 (by simp [x])
      have hg' := (hz.mem g).1 (by simp)
      have hn4 : ¬ 3 ≤ ln g := fun x => by
        have := hhead g hg'.1 x
        simp at this
        exact hne this.symm
      simp [row, e, upd_other hne, hn4]
theorem row_len {n k : Nat} {s : St} (h : Reach n k s) : (row s).length ≤ 4 := by
  obtain ⟨-, h4, hz⟩ := h
  have hlen := nodup_len n s.q hz.nodup (fun g hg => ((hz.mem g).1 hg).1)
  unfold row
  cases hq : s.q with
  | nil => simp
  | cons g r =>
    rw [hq] at hlen
    simp only [List.length_cons] at hlen
    simp only
    split <;> simp <;> omega
end Go.Proofs.YtgkfgijmccojjaaDoor.Ticket
