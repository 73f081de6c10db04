import Derived.Test.YtimbdjmplcgilaaDoorKit
namespace Go.Proofs.YtimbdjmplcgilaaDoor
set_option linter.unusedVariables false
set_option linter.unusedSimpArgs false
namespace Pr

/-- A line: its kind, register, word, value. -/
structure Ln where
  k : Int
  r : Int
  w : Int
  v : Int
def Ln.zero : Ln := ⟨0, 0, 0, 0⟩
/-- A line that must not be. -/
def bad (words : Int) (l : Ln) : Bool :=
  !(decide (0 ≤ l.k) && decide (l.k ≤ 5)) || (!(l.k == 4) && !(decide (0 ≤ l.r) && decide (l.r ≤ 1))) || (decide (1 ≤ l.k) && decide (l.k ≤ 3) && !(decide (0 ≤ l.w) && decide (l.w ≤ words - 1)))
    || (l.k == 0 && !(decide (0 ≤ l.v) && decide (l.v ≤ 1000))) || (l.k == 5 && !(decide (0 ≤ l.v) && decide (l.v ≤ 5)))
def checkHands (words : Int) : List (List Ln) → Int
  | [] => 0
  | ls :: rest => if 5 < ls.length then 4 else if ls.any (bad words) then 1 else checkHands words rest
def check (words : Int) (p : List (List Ln)) : Int :=
  if ¬ (1 ≤ words ∧ words ≤ 4) then 1 else if p = [] then 5 else if 3 < p.length then 4 else checkHands words p

/-- The numbers of a state: of four hands their lines, of each two registers, four words. -/
abbrev St := Nat → Int
def St.zero : St := fun _ => 0
def lines (p : List (List Ln)) (h : Nat) : List Ln := p.getD h []
def more (p : List (List Ln)) (f : St) (h : Nat) : Bool := decide (f h < ((lines p h).length : Int))
def line (p : List (List Ln)) (f : St) (h : Nat) : Ln := (lines p h).getD (f h).toNat Ln.zero
/-- The place of the register of a line. -/
def reg (h : Nat) (l : Ln) : Nat := 4 + h * 2 + (if 0 < l.r then 1 else 0)
/-- A line done. -/
def done (f : St) (h : Nat) (l : Ln) : St :=
  let g := upd f h (f h + 1)
  let r := reg h l
  if l.k = 0 then upd g r l.v
  else if l.k = 1 then upd g r (f (12 + l.w.toNat))
  else if l.k = 2 then upd g (12 + l.w.toNat) (f r)
  else if l.k = 3 then upd (upd g (12 + l.w.toNat) (f r)) r (f (12 + l.w.toNat))
  else if l.k = 5 then (if f r = 0 then upd f h (f h + 1 + l.v) else g)
  else g
/-- A hand does its next line, if there is one. -/
def turn (p : List (List Ln)) (f : St) (h : Nat) : St := if more p f h then done f h (line p f h) else f
def result (words : Int) (p : List (List Ln)) (f : St) : List Int := (List.range (2 * p.length)).map (fun j => f (4 + j)) ++ (List.range words.toNat).map (fun j => f (12 + j))

/-- What is true of each line of a program that is checked. -/
structure Good (words : Int) (l : Ln) : Prop where
  k : 0 ≤ l.k ∧ l.k ≤ 5
  r : l.k ≠ 4 → 0 ≤ l.r ∧ l.r ≤ 1
  w : 1 ≤ l.k → l.k ≤ 3 → 0 ≤ l.w ∧ l.w ≤ words - 1
  v0 : l.k = 0 → 0 ≤ l.v ∧ l.v ≤ 1000
  v5 : l.k = 5 → 0 ≤ l.v ∧ l.v ≤ 5
theorem good_of {words : Int} {l : Ln} (h : bad words l = false) : Good words l := by
  simp only [bad, Bool.or_eq_false_iff, Bool.and_eq_false_iff, Bool.not_eq_false', Bool.not_eq_true', Bool.and_eq_true, decide_eq_true_eq, decide_eq_false_iff_not, beq_eq_false_iff_ne, ne_eq, beq_iff_eq] at h
  obtain ⟨⟨⟨⟨h1, h2⟩, h3⟩, h4⟩, h5⟩ := h
  refine ⟨by omega, fun x => ?_, fun x y => ?_, fun x => ?_, fun x => ?_⟩ <;> omega
theorem good_bad {words : Int} {l : Ln} (h : Good words l) : bad words l = false := by
  have h1 := h.k
  have h2 := h.r
  have h3 := h.w
  have h4 := h.v0
  have h5 := h.v5
  simp only [bad, Bool.or_eq_false_iff, Bool.and_eq_false_iff, Bool.not_eq_false', Bool.not_eq_true', Bool.and_eq_true, decide_eq_true_eq, decide_eq_false_iff_not, beq_eq_false_iff_ne, ne_eq, beq_iff_eq]
  refine ⟨⟨⟨⟨?_, ?_⟩, ?_⟩, ?_⟩, ?_⟩ <;> omega
/-- What is true of a program that is checked. -/
structure Fine (words : Int) (p : List (List Ln)) : Prop where
  w : 1 ≤ words ∧ words ≤ 4
  n : 1 ≤ p.length ∧ p.length ≤ 3
  len : ∀ ls ∈ p, ls.length ≤ 5
  good : ∀ ls ∈ p, ∀ l ∈ ls, Good words l
theorem checkHands_zero {words : Int} : ∀ {p : List (List Ln)}, checkHands words p = 0 → ∀ ls ∈ p, ls.length ≤ 5 ∧ ∀ l ∈ ls, Good words l
  | [], _ => by simp
  | ls :: rest, h => by
    unfold checkHands at h
    by_cases h1 : 5 < ls.length
    · rw [if_pos h1] at h; simp at h
    · rw [if_neg h1] at h
      cases h2 : ls.any (bad words) with
      | true => rw [h2] at h; simp at h
      | false =>
        rw [h2] at h
        simp at h
        intro l hl
        rcases List.mem_cons.1 hl with rfl | hl
        · refine ⟨by omega, fun x hx => good_of ?_⟩
          have := List.any_eq_false.1 h2 x hx
          simpa using this
        · exact checkHands_zero h l hl
theorem fine_of {words : Int} {p : List (List Ln)} (h : check words p = 0) : Fine words p := by
  unfold check at h
  by_cases h1 : 1 ≤ words ∧ words ≤ 4
  · rw [if_neg (by simpa using h1)] at h
    by_cases h2 : p = []
    · rw [if_pos h2] at h; simp at h
    · rw [if_neg h2] at h
      by_cases h3 : 3 < p.length
      · rw [if_pos h3] at h; simp at h
      · rw [if_neg h3] at h
        have hl : p.length ≠ 0 := by simpa using h2
        exact ⟨h1, by omega, fun ls hl => (checkHands_zero h ls hl).1, fun ls hl => (checkHands_zero h ls hl).2⟩
  · rw [if_pos h1] at h; simp at h
theorem check_range (words : Int) (p : List (List Ln)) : check words p = 0 ∨ check words p = 1 ∨ check words p = 4 ∨ check words p = 5 := by
  have hh : ∀ q, checkHands words q = 0 ∨ checkHands words q = 1 ∨ checkHands words q = 4 ∨ checkHands words q = 5 := by
    intro q
    induction q with
    | nil => simp [checkHands]
    | cons a r ih => unfold checkHands; split; · simp
                     split; · simp
                     exact ih
  unfold check
  repeat' split
  all_goals first | simp; done | exact hh p
theorem Fine.lines {words : Int} {p : List (List Ln)} (hf : Fine words p) (h : Nat) : (lines p h).length ≤ 5 ∧ ∀ l ∈ lines p h, Good words l := by
  unfold Pr.lines
  by_cases hh : h < p.length
  · have e : p.getD h [] = p[h] := by simp [List.getD_eq_getElem?_getD, hh]
    rw [e]
    exact ⟨hf.len _ (List.getElem_mem hh), hf.good _ (List.getElem_mem hh)⟩
  · have e : p.getD h [] = [] := by
      have : p[h]? = none := List.getElem?_eq_none (by omega)
      simp [List.getD_eq_getElem?_getD, this]
    rw [e]; simp
theorem Fine.line {words : Int} {p : List (List Ln)} (hf : Fine words p) {f : St} {h : Nat} (h0 : 0 ≤ f h) (hm : more p f h = true) : Good words (line p f h) := by
  unfold more at hm
  simp at hm
  have : (f h).toNat < (Pr.lines p h).length := by omega
  refine (hf.lines h).2 _ ?_
  unfold Pr.line
  rw [List.getD_eq_getElem?_getD, List.getElem?_eq_getElem this]
  exact List.getElem_mem _
/-- A state that a run may come to. -/
structure Ok (f : St) : Prop where
  at0 : ∀ h, h < 4 → 0 ≤ f h ∧ f h ≤ 10
theorem ok_zero : Ok St.zero := ⟨fun h _ => by simp [St.zero]⟩
theorem reg_bd {h : Nat} {l : Ln} (hh : h < 4) : 4 ≤ reg h l ∧ reg h l < 12 := by
  unfold reg; split <;> omega
theorem done_at {f : St} {h i : Nat} {l : Ln} (hi : i < 4) (hh : h < 4) : done f h l i = if i = h then (if l.k = 5 ∧ f (reg h l) = 0 then f h + 1 + l.v else f h + 1) else f i := by
  have := reg_bd (l := l) hh
  have e1 : ∀ (g : Nat → Int) v, upd g (reg h l) v i = g i := fun g v => upd_other (by omega)
  have e2 : ∀ (g : Nat → Int) v, upd g (12 + l.w.toNat) v i = g i := fun g v => upd_other (by omega)
  unfold done
  by_cases k5 : l.k = 5
  · rw [if_neg (by omega), if_neg (by omega), if_neg (by omega), if_neg (by omega), if_pos k5]
    by_cases e : f (reg h l) = 0
    · simp [k5, e, upd]
    · simp [k5, e, upd]
  · rw [if_neg (show ¬ (l.k = 5 ∧ f (reg h l) = 0) by omega)]
    repeat' split
    all_goals try omega
    all_goals try simp only [e1, e2]
    all_goals simp [upd, *]
theorem Ok.done {f : St} (h : Ok f) {words : Int} {l : Ln} (hg : Good words l) {n : Nat} {p : List (List Ln)} {hd : Nat} (hd4 : hd < 4) (h5 : f hd ≤ 4) : Ok (done f hd l) := by
  refine ⟨fun i hi => ?_⟩
  rw [done_at hi hd4]
  have a := h.at0 hd hd4
  have b := h.at0 i hi
  have c := hg.v5
  split
  · split
    · rename_i q; have := c q.1; omega
    · omega
  · exact b
theorem Ok.turn {f : St} (h : Ok f) {words : Int} {p : List (List Ln)} (hf : Fine words p) {hd : Nat} (hd4 : hd < 4) : Ok (turn p f hd) := by
  unfold Pr.turn
  cases hm : more p f hd with
  | false => simpa using h
  | true =>
    simp only [if_true]
    have hl := (hf.lines hd).1
    have hm' := hm
    simp [more] at hm'
    exact h.done (n := 0) (p := p) (hf.line (h.at0 hd hd4).1 hm) hd4 (by omega)
/-- A hand goes on to its end: so many lines at most. -/
def out (p : List (List Ln)) (h : Nat) : Nat → St → St
  | 0, f => f
  | m + 1, f => if more p f h then out p h m (turn p f h) else f
end Pr
end Go.Proofs.YtimbdjmplcgilaaDoor
