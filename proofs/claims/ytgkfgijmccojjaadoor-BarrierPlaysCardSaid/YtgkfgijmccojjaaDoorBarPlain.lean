import Derived.Test.YtgkfgijmccojjaaDoorKit
namespace Go.Proofs.YtgkfgijmccojjaaDoor.Bar

/-- The barrier of n hands. count, sense; ln, mine, phase: of each hand its line, its sense, how often it went through; of the proof alone: g: how often the sense turned; cd: 0: it is outside, 1: it waits, 2: it may go, 3 and 4: it was the last one to come. -/
structure St where
  count : Int
  sense : Int
  ln : Nat → Int
  mine : Nat → Int
  phase : Nat → Int
  g : Int
  cd : Nat → Int

def first (n : Nat) : St := { count := n, sense := 0, ln := fun _ => 1, mine := fun _ => 0, phase := fun _ => 0, g := 0, cd := fun _ => 0 }

/-- All but p wait: with p's new code; who waited may go. -/
def loosed (cd : Nat → Int) (p : Nat) : Nat → Int := fun h => if h = p then 0 else if cd h = 1 then 2 else cd h

def stepN (n : Nat) (s : St) (p : Nat) : St :=
  if s.ln p = 1 then
    (if s.count - 1 = 0 then { s with mine := upd s.mine p (1 - s.mine p), count := s.count - 1, ln := upd s.ln p 2, cd := upd s.cd p 3 }
     else { s with mine := upd s.mine p (1 - s.mine p), count := s.count - 1, ln := upd s.ln p 4, cd := upd s.cd p 1 })
  else if s.ln p = 2 then { s with count := n, ln := upd s.ln p 3, cd := upd s.cd p 4 }
  else if s.ln p = 3 then { s with sense := s.mine p, ln := upd s.ln p 1, phase := upd s.phase p (s.phase p + 1), g := s.g + 1, cd := loosed s.cd p }
  else if s.sense = s.mine p then { s with ln := upd s.ln p 1, phase := upd s.phase p (s.phase p + 1), cd := upd s.cd p 0 }
  else s

def step (n : Nat) (s : St) (p : Int) : St := if 0 ≤ p ∧ p < n then stepN n s p.toNat else s
def line (n : Nat) (s : St) (p : Int) : Int := if 0 ≤ p ∧ p < n then s.ln p.toNat else 0
def often (n : Nat) (s : St) (p : Int) : Int := if 0 ≤ p ∧ p < n then s.phase p.toNat else -1

def lnOf (c : Int) : Int := if c = 0 then 1 else if c = 1 then 4 else if c = 2 then 4 else if c = 3 then 2 else 3
def senseOf (g c : Int) : Int := if c = 0 ∨ c = 2 then g % 2 else (g + 1) % 2

structure Inv (n k : Nat) (s : St) : Prop where
  cd : ∀ h, h < n → 0 ≤ s.cd h ∧ s.cd h ≤ 4
  ln : ∀ h, h < n → s.ln h = lnOf (s.cd h)
  phase : ∀ h, h < n → s.phase h = s.g - (if s.cd h = 2 then 1 else 0)
  mine : ∀ h, h < n → s.mine h = senseOf s.g (s.cd h)
  sense : s.sense = s.g % 2
  count : (∀ h, h < n → s.cd h ≤ 2) → s.count = n - cnt (fun h => decide (s.cd h = 1)) n
  three : ∀ h, h < n → s.cd h = 3 → s.count = 0 ∧ ∀ j, j < n → j ≠ h → s.cd j = 1
  four : ∀ h, h < n → s.cd h = 4 → s.count = n ∧ ∀ j, j < n → j ≠ h → s.cd j = 1
  low : 0 ≤ s.g ∧ s.g ≤ k
  some : (∀ h, h < n → s.cd h ≤ 2) → 1 ≤ s.count

/-- What every state that a script reaches is. -/
def Reach (n k : Nat) (s : St) : Prop := 1 ≤ n ∧ n ≤ 4 ∧ Inv n k s

theorem Reach.first (n : Nat) (h1 : 1 ≤ n) (h4 : n ≤ 4) : Reach n 0 (Bar.first n) := by
  refine ⟨h1, h4, { cd := fun h _ => by simp [Bar.first], ln := fun h _ => by simp [Bar.first, lnOf], phase := fun h _ => by simp [Bar.first], mine := fun h _ => by simp [Bar.first, senseOf], sense := by simp [Bar.first], count := fun _ => ?_, three := fun h _ e => by simp [Bar.first] at e, four := fun h _ e => by simp [Bar.first] at e, low := by simp [Bar.first], some := fun _ => by simp [Bar.first]; omega }⟩
  rw [cnt_none (fun i _ => by simp [Bar.first])]; simp [Bar.first]

theorem Inv.more {n k : Nat} {s : St} (h : Inv n k s) : Inv n (k + 1) s := { h with low := ⟨h.low.1, by have := h.low.2; omega⟩ }

/-- All of n are so just if all others are, and this one. -/
theorem cnt_all {f : Nat → Bool} {n : Nat} (h : cnt f n = n) : ∀ i, i < n → f i = true := by
  induction n with
  | zero => intro i hi; omega
  | succ n ih =>
    intro i hi
    have hb := cnt_bd f n
    cases hn : f n with
    | false => rw [cnt_miss hn] at h; omega
    | true =>
      rw [cnt_hit hn] at h
      by_cases e : i = n
      · subst e; exact hn
      · exact ih (by omega) i (by omega)
theorem cnt_full {f : Nat → Bool} {n : Nat} (h : ∀ i, i < n → f i = true) : cnt f n = n := by
  induction n with
  | zero => rfl
  | succ n ih => rw [cnt_hit (h n (by omega)), ih (fun i hi => h i (by omega))]; omega

/-- Nobody was the last one to come, if one is outside or may go. -/
theorem Inv.plain {n k : Nat} {s : St} (h : Inv n k s) {p : Nat} (hp : p < n) (hc : s.cd p = 0 ∨ s.cd p = 2) : ∀ j, j < n → s.cd j ≤ 2 := by
  intro j hj
  have hb := h.cd j hj
  by_cases e3 : s.cd j = 3
  · have := (h.three j hj e3).2 p hp (fun x => by subst x; omega); omega
  · by_cases e4 : s.cd j = 4
    · have := (h.four j hj e4).2 p hp (fun x => by subst x; omega); omega
    · omega

theorem Inv.step {n k : Nat} {s : St} (h : Inv n k s) {p : Nat} (hp : p < n) : Inv n (k + 1) (stepN n s p) := by
  have hc := h.cd p hp
  have hl := h.ln p hp
  have hph := h.phase p hp
  have hm := h.mine p hp
  have hlow := h.low
  obtain e | e | e | e | e : s.cd p = 0 ∨ s.cd p = 1 ∨ s.cd p = 2 ∨ s.cd p = 3 ∨ s.cd p = 4 := by omega
  · -- outside: it comes
    have hln : s.ln p = 1 := by rw [hl, e]; rfl
    have hpl := h.plain hp (.inl e)
    have hcount := h.count hpl
    have hturn := fun v => cnt_upd (f := s.cd) (n := n) (p := p) (fun x => decide (x = 1)) v hp
    have hmine : 1 - s.mine p = (s.g + 1) % 2 := by rw [hm, e]; simp [senseOf]; omega
    by_cases h0 : s.count - 1 = 0
    · have hall : ∀ j, j < n → j ≠ p → s.cd j = 1 := by
        have h1 := hturn 1
        simp [e] at h1
        have hf : cnt (fun h => decide (upd s.cd p 1 h = 1)) n = n := by omega
        intro j hj hjp
        have := cnt_all hf j hj
        rw [upd_other hjp] at this
        simpa using this
      have hst : stepN n s p = { s with mine := upd s.mine p (1 - s.mine p), count := s.count - 1, ln := upd s.ln p 2, cd := upd s.cd p 3 } := by simp only [stepN, hln, h0, if_true]
      rw [hst]
      exact {
        cd := fun j hj => by by_cases c : j = p <;> simp [upd, c, h.cd j hj]
        ln := fun j hj => by
          by_cases c : j = p
          · subst c; simp [upd, lnOf]
          · simp only [upd_other c]; exact h.ln j hj
        phase := fun j hj => by
          by_cases c : j = p
          · subst c; simp only [upd_same]; rw [hph, e]; simp
          · simp only [upd_other c]; exact h.phase j hj
        mine := fun j hj => by
          by_cases c : j = p
          · subst c; simp only [upd_same, hmine]; simp [senseOf]
          · simp only [upd_other c]; exact h.mine j hj
        sense := h.sense
        count := fun hx => by have := hx p hp; simp [upd] at this
        three := fun j hj hj3 => by
          by_cases c : j = p
          · subst c
            exact ⟨h0, fun i hi hij => by simp only [upd_other hij]; exact hall i hi hij⟩
          · simp only [upd_other c] at hj3; have := hpl j hj; omega
        four := fun j hj hj4 => by
          by_cases c : j = p
          · subst c; simp [upd] at hj4
          · simp only [upd_other c] at hj4; have := hpl j hj; omega
        low := by simp only; omega
        some := fun hx => by have := hx p hp; simp [upd] at this }
    · have hst : stepN n s p = { s with mine := upd s.mine p (1 - s.mine p), count := s.count - 1, ln := upd s.ln p 4, cd := upd s.cd p 1 } := by simp only [stepN, hln, h0, if_true, if_false]
      rw [hst]
      exact {
        cd := fun j hj => by by_cases c : j = p <;> simp [upd, c, h.cd j hj]
        ln := fun j hj => by
          by_cases c : j = p
          · subst c; simp [upd, lnOf]
          · simp only [upd_other c]; exact h.ln j hj
        phase := fun j hj => by
          by_cases c : j = p
          · subst c; simp only [upd_same]; rw [hph, e]; simp
          · simp only [upd_other c]; exact h.phase j hj
        mine := fun j hj => by
          by_cases c : j = p
          · subst c; simp only [upd_same, hmine]; simp [senseOf]
          · simp only [upd_other c]; exact h.mine j hj
        sense := h.sense
        count := fun _ => by
          have h1 := hturn 1
          simp [e] at h1
          simp only
          omega
        three := fun j hj hj3 => by
          by_cases c : j = p
          · subst c; simp [upd] at hj3
          · simp only [upd_other c] at hj3; have := hpl j hj; omega
        four := fun j hj hj4 => by
          by_cases c : j = p
          · subst c; simp [upd] at hj4
          · simp only [upd_other c] at hj4; have := hpl j hj; omega
        low := by simp only; omega
        some := fun _ => by have := h.some hpl; simp only; omega }
  · -- it waits
    have hln : s.ln p = 4 := by rw [hl, e]; rfl
    have hne : s.sense ≠ s.mine p := by rw [h.sense, hm, e]; simp [senseOf]; omega
    have hst : stepN n s p = s := by simp [stepN, hln, hne]
    rw [hst]; exact h.more
  · -- it may go
    have hln : s.ln p = 4 := by rw [hl, e]; rfl
    have heq : s.sense = s.mine p := by rw [h.sense, hm, e]; simp [senseOf]
    have hpl := h.plain hp (.inr e)
    have hst : stepN n s p = { s with ln := upd s.ln p 1, phase := upd s.phase p (s.phase p + 1), cd := upd s.cd p 0 } := by simp [stepN, hln, heq]
    rw [hst]
    exact {
      cd := fun j hj => by by_cases c : j = p <;> simp [upd, c, h.cd j hj]
      ln := fun j hj => by
        by_cases c : j = p
        · subst c; simp [upd, lnOf]
        · simp only [upd_other c]; exact h.ln j hj
      phase := fun j hj => by
        by_cases c : j = p
        · subst c; simp only [upd_same]; rw [hph, e]; simp
        · simp only [upd_other c]; exact h.phase j hj
      mine := fun j hj => by
        by_cases c : j = p
        · subst c; simp only [upd_same]; rw [hm, e]; simp [senseOf]
        · simp only [upd_other c]; exact h.mine j hj
      sense := h.sense
      count := fun _ => by
        have h1 := cnt_upd (f := s.cd) (n := n) (p := p) (fun x => decide (x = 1)) 0 hp
        simp [e] at h1
        simp only
        rw [h1]; exact h.count hpl
      three := fun j hj hj3 => by
        by_cases c : j = p
        · subst c; simp [upd] at hj3
        · simp only [upd_other c] at hj3; have := hpl j hj; omega
      four := fun j hj hj4 => by
        by_cases c : j = p
        · subst c; simp [upd] at hj4
        · simp only [upd_other c] at hj4; have := hpl j hj; omega
      low := by simp only; omega
      some := fun _ => h.some hpl }
  · -- the last one: the count is set
    have hln : s.ln p = 2 := by rw [hl, e]; rfl
    obtain ⟨h30, h31⟩ := h.three p hp e
    have hst : stepN n s p = { s with count := n, ln := upd s.ln p 3, cd := upd s.cd p 4 } := by simp [stepN, hln]
    rw [hst]
    exact {
      cd := fun j hj => by by_cases c : j = p <;> simp [upd, c, h.cd j hj]
      ln := fun j hj => by
        by_cases c : j = p
        · subst c; simp [upd, lnOf]
        · simp only [upd_other c]; exact h.ln j hj
      phase := fun j hj => by
        by_cases c : j = p
        · subst c; simp only [upd_same]; rw [hph, e]; simp
        · simp only [upd_other c]; exact h.phase j hj
      mine := fun j hj => by
        by_cases c : j = p
        · subst c; simp only [upd_same]; rw [hm, e]; simp [senseOf]
        · simp only [upd_other c]; exact h.mine j hj
      sense := h.sense
      count := fun hx => by have := hx p hp; simp [upd] at this
      three := fun j hj hj3 => by
        by_cases c : j = p
        · subst c; simp [upd] at hj3
        · simp only [upd_other c] at hj3; have := h31 j hj c; omega
      four := fun j hj hj4 => by
        by_cases c : j = p
        · subst c
          exact ⟨rfl, fun i hi hij => by simp only [upd_other hij]; exact h31 i hi hij⟩
        · simp only [upd_other c] at hj4; have := h31 j hj c; omega
      low := by simp only; omega
      some := fun hx => by have := hx p hp; simp [upd] at this }
  · -- the last one: all may go
    have hln : s.ln p = 3 := by rw [hl, e]; rfl
    obtain ⟨h40, h41⟩ := h.four p hp e
    have hst : stepN n s p = { s with sense := s.mine p, ln := upd s.ln p 1, phase := upd s.phase p (s.phase p + 1), g := s.g + 1, cd := loosed s.cd p } := by simp [stepN, hln]
    rw [hst]
    have hcd : ∀ j, j < n → j ≠ p → loosed s.cd p j = 2 := fun j hj c => by simp [loosed, c, h41 j hj c]
    have hcp : loosed s.cd p p = 0 := by simp [loosed]
    have hmp : s.mine p = (s.g + 1) % 2 := by rw [hm, e]; simp [senseOf]
    exact {
      cd := fun j hj => by
        by_cases c : j = p
        · subst c; simp only [hcp]; omega
        · simp only [hcd j hj c]; omega
      ln := fun j hj => by
        by_cases c : j = p
        · subst c; simp only [upd_same, hcp]; rfl
        · simp only [upd_other c, hcd j hj c]; rw [h.ln j hj, h41 j hj c]; rfl
      phase := fun j hj => by
        by_cases c : j = p
        · subst c; simp only [upd_same, hcp]; rw [hph, e]; simp
        · simp only [upd_other c, hcd j hj c]; rw [h.phase j hj, h41 j hj c]; simp
      mine := fun j hj => by
        by_cases c : j = p
        · subst c; simp only [hcp, hmp]; simp [senseOf]
        · simp only [hcd j hj c]; rw [h.mine j hj, h41 j hj c]; simp [senseOf]
      sense := hmp
      count := fun _ => by
        have hz : cnt (fun h => decide (loosed s.cd p h = 1)) n = 0 := cnt_none (fun i hi => by
          by_cases c : i = p
          · subst c; simp [hcp]
          · simp [hcd i hi c])
        simp only [hz, h40]; omega
      three := fun j hj hj3 => by
        by_cases c : j = p
        · subst c; simp only [hcp] at hj3; omega
        · simp only [hcd j hj c] at hj3; omega
      four := fun j hj hj4 => by
        by_cases c : j = p
        · subst c; simp only [hcp] at hj4; omega
        · simp only [hcd j hj c] at hj4; omega
      low := by simp only; omega
      some := fun _ => by simp only [h40]; omega }

theorem step_nat {n : Nat} (s : St) {p : Nat} (h : p < n) : step n s (p : Int) = stepN n s p := by
  unfold step; rw [if_pos (by omega)]; rfl
theorem line_nat {n : Nat} (s : St) {p : Nat} (h : p < n) : line n s (p : Int) = s.ln p := by
  unfold line; rw [if_pos (by omega)]; rfl
theorem often_nat {n : Nat} (s : St) {p : Nat} (h : p < n) : often n s (p : Int) = s.phase p := by
  unfold often; rw [if_pos (by omega)]; rfl
theorem Reach.step {n k : Nat} {s : St} (h : Reach n k s) (p : Int) : Reach n (k + 1) (step n s p) := by
  obtain ⟨h1, h4, hi⟩ := h
  by_cases hp : 0 ≤ p ∧ p < n
  · obtain ⟨m, rfl⟩ := Int.eq_ofNat_of_zero_le hp.1
    rw [step_nat s (by omega)]
    exact ⟨h1, h4, hi.step (by omega)⟩
  · unfold Bar.step
    rw [if_neg hp]
    exact ⟨h1, h4, hi.more⟩
/-- All that a line asks of the numbers. -/
theorem Reach.fine {n k : Nat} {s : St} (h : Reach n k s) {p : Nat} (hp : p < n) :
    (1 ≤ s.ln p ∧ s.ln p ≤ 4) ∧ (0 ≤ s.mine p ∧ s.mine p ≤ 1) ∧ (-1 ≤ s.phase p ∧ s.phase p ≤ k) ∧ (0 ≤ s.count ∧ s.count ≤ n) := by
  obtain ⟨-, -, hz⟩ := h
  have hc := hz.cd p hp
  have hl := hz.ln p hp
  have hm := hz.mine p hp
  have hph := hz.phase p hp
  have hlow := hz.low
  have hcount : 0 ≤ s.count ∧ s.count ≤ n := by
    by_cases hx : ∀ h, h < n → s.cd h ≤ 2
    · have := hz.count hx
      have := cnt_bd (fun h => decide (s.cd h = 1)) n
      omega
    · have ⟨j, hj⟩ := Classical.not_forall.1 hx
      have hj1 : j < n := by
        apply Classical.byContradiction
        intro x
        exact hj (fun y => absurd y x)
      have hj2 : ¬ s.cd j ≤ 2 := fun x => hj (fun _ => x)
      have hcj := hz.cd j hj1
      by_cases e3 : s.cd j = 3
      · have := (hz.three j hj1 e3).1; omega
      · have := (hz.four j hj1 (by omega)).1; omega
  refine ⟨?_, ?_, ?_, hcount⟩
  · rw [hl]; unfold lnOf; (repeat' split) <;> omega
  · rw [hm]; unfold senseOf; split <;> omega
  · rw [hph]; split <;> omega
/-- Nobody is more than once ahead of anybody. -/
theorem Reach.all {n k : Nat} {s : St} (h : Reach n k s) {p r : Nat} (hp : p < n) (hr : r < n) :
    s.phase p ≤ s.phase r + (if s.ln r = 1 then 0 else 1) ∧ s.phase p ≤ s.phase r + 1 := by
  obtain ⟨-, -, hz⟩ := h
  have h1 := hz.phase p hp
  have h2 := hz.phase r hr
  have hl := hz.ln r hr
  have hc := hz.cd r hr
  have hg : s.phase p ≤ s.g := by rw [h1]; split <;> omega
  by_cases e : s.cd r = 2
  · have : s.ln r = 4 := by rw [hl, e]; rfl
    rw [if_neg (by omega)]
    rw [e] at h2; simp at h2; omega
  · rw [if_neg e] at h2
    split <;> omega
/-- How often a hand came: each line 1 is one. -/
theorem came_step {n k : Nat} {s : St} (h : Reach n k s) {p : Nat} (hp : p < n) (r : Nat) :
    (stepN n s p).phase r + (if (stepN n s p).ln r = 1 then 0 else 1) = s.phase r + (if s.ln r = 1 then 0 else 1) + (if r = p ∧ s.ln p = 1 then 1 else 0) := by
  have hf := h.fine hp
  unfold stepN
  by_cases c : r = p
  · subst c
    split
    · rename_i e
      split <;> simp [upd_same, e]
    · rename_i e1
      split
      · rename_i e2; simp [upd_same, e2]
      · rename_i e2
        split
        · rename_i e3; simp [upd_same, e3]
        · rename_i e3
          split
          · have : s.ln r = 4 := by omega
            simp [upd_same, this]
          · simp [e1]
  · split
    · split <;> simp [upd_other c, c]
    · split
      · simp [upd_other c, c]
      · split
        · simp [upd_other c, c]
        · split <;> simp [upd_other c, c]

/-! All go when all came: the codes alone. -/
def codes (n : Nat) (s : St) : List Int := (List.range n).map s.cd
def astep (l : List Int) (p : Nat) : List Int × Bool :=
  let c := l.getD p 0
  if c = 0 then (if (l.set p 1).all (fun x => x == 1) then (l.set p 3, false) else (l.set p 1, false))
  else if c = 1 then (l, false)
  else if c = 2 then (l.set p 0, true)
  else if c = 3 then (l.set p 4, false)
  else ((l.map fun x => if x = 1 then 2 else x).set p 0, true)
theorem astep_at {l : List Int} {p : Nat} {c : Int} (h : l.getD p 0 = c) : astep l p =
    if c = 0 then (if (l.set p 1).all (fun x => x == 1) then (l.set p 3, false) else (l.set p 1, false))
    else if c = 1 then (l, false)
    else if c = 2 then (l.set p 0, true)
    else if c = 3 then (l.set p 4, false)
    else ((l.map fun x => if x = 1 then 2 else x).set p 0, true) := by subst h; rfl
def arun (n : Nat) (l : List Int) : Nat → List Int × List Bool
  | 0 => (l, List.replicate n false)
  | t + 1 =>
    let r := arun n l t
    let x := astep r.1 (t % n)
    (x.1, if x.2 then r.2.set (t % n) true else r.2)
def allLists : Nat → List (List Int)
  | 0 => [[]]
  | m + 1 => (allLists m).flatMap fun l => [0, 1, 2, 3, 4].map fun c => c :: l
/-- At most one was the last one to come, and then all others wait. -/
def valid (l : List Int) : Bool := (l.all (fun x => decide (x ≤ 2)) && !l.all (fun x => x == 1)) || (List.range l.length).any (fun p => decide (3 ≤ l.getD p 0) && (l.set p 1).all (fun x => x == 1))
def goesAll (n : Nat) : Bool := (allLists n).all fun l => !valid l || (arun n l (8 * n)).2.all (fun b => b)
theorem goes1 : goesAll 1 = true := by decide +kernel
theorem goes2 : goesAll 2 = true := by decide +kernel
theorem goes3 : goesAll 3 = true := by decide +kernel
theorem goes4 : goesAll 4 = true := by decide +kernel

theorem codes_len (n : Nat) (s : St) : (codes n s).length = n := by simp [codes]
theorem codes_get {n : Nat} {s : St} {p : Nat} (h : p < n) : (codes n s).getD p 0 = s.cd p := by simp [codes, h]
theorem codes_eq {n : Nat} {s : St} {l : List Int} (hl : l.length = n) (h : ∀ j, j < n → l[j]? = some (s.cd j)) : codes n s = l := by
  apply List.ext_getElem?
  intro j
  by_cases hj : j < n
  · rw [h j hj]; simp [codes, hj]
  · rw [List.getElem?_eq_none (by rw [codes_len]; omega), List.getElem?_eq_none (by omega)]
theorem codes_set {n : Nat} {s : St} {p : Nat} {c : Int} (_ : p < n) (j : Nat) (hj : j < n) : ((codes n s).set p c)[j]? = some (upd s.cd p c j) := by
  rw [List.getElem?_set]
  by_cases e : p = j
  · subst e; simp [codes, hj, upd]
  · rw [if_neg e, upd_other (fun x => e x.symm)]; simp [codes, hj]
theorem codes_mem {n k : Nat} {s : St} (h : Inv n k s) : codes n s ∈ allLists n := by
  have key : ∀ (l : List Int), (∀ x, x ∈ l → 0 ≤ x ∧ x ≤ 4) → l ∈ allLists l.length := by
    intro l
    induction l with
    | nil => intro _; simp [allLists]
    | cons a r ih =>
      intro hl
      have ha := hl a (by simp)
      simp only [List.length_cons, allLists, List.mem_flatMap]
      refine ⟨r, ih (fun x hx => hl x (by simp [hx])), ?_⟩
      simp only [List.map_cons, List.map_nil, List.mem_cons, List.not_mem_nil, or_false, List.cons.injEq, and_true]
      omega
  have := key (codes n s) (fun x hx => by
    simp only [codes, List.mem_map, List.mem_range] at hx
    obtain ⟨j, hj, rfl⟩ := hx
    exact h.cd j hj)
  rwa [codes_len] at this
theorem all_set {n : Nat} {s : St} {p : Nat} (hp : p < n) : ((codes n s).set p 1).all (fun x => x == 1) = true ↔ ∀ j, j < n → j ≠ p → s.cd j = 1 := by
  rw [List.all_eq_true]
  constructor
  · intro h j hj hjp
    have h1 := codes_set (s := s) (c := 1) hp j hj
    have := h _ (List.mem_of_getElem? h1)
    rw [upd_other hjp] at this
    simpa using this
  · intro h x hx
    obtain ⟨j, hj⟩ := List.getElem?_of_mem hx
    have hjn : j < n := by
      have := (List.getElem?_eq_some_iff.1 hj).1
      rw [List.length_set, codes_len] at this; exact this
    rw [codes_set hp j hjn] at hj
    by_cases e : j = p
    · subst e; rw [upd_same] at hj; simp at hj; subst hj; rfl
    · rw [upd_other e, h j hjn e] at hj; simp at hj; subst hj; rfl
theorem codes_valid {n k : Nat} {s : St} (h : Inv n k s) : valid (codes n s) = true := by
  unfold valid
  rw [Bool.or_eq_true]
  by_cases hx : ∀ j, j < n → s.cd j ≤ 2
  · left
    rw [Bool.and_eq_true, List.all_eq_true]
    refine ⟨fun x hx' => ?_, ?_⟩
    · simp only [codes, List.mem_map, List.mem_range] at hx'
      obtain ⟨j, hj, rfl⟩ := hx'
      simpa using hx j hj
    · cases ha : (codes n s).all (fun x => x == 1) with
      | false => rfl
      | true =>
        have h1 := List.all_eq_true.1 ha
        have hc := h.count hx
        have hs := h.some hx
        rw [cnt_full (fun i hi => by simpa using h1 (s.cd i) (by simp only [codes, List.mem_map, List.mem_range]; exact ⟨i, hi, rfl⟩))] at hc
        omega
  · right
    have ⟨j, hj⟩ := Classical.not_forall.1 hx
    have hj1 : j < n := by
      apply Classical.byContradiction
      intro x
      exact hj (fun y => absurd y x)
    have hj2 : ¬ s.cd j ≤ 2 := fun x => hj (fun _ => x)
    have hcj := h.cd j hj1
    have ho : ∀ i, i < n → i ≠ j → s.cd i = 1 := by
      by_cases e3 : s.cd j = 3
      · exact (h.three j hj1 e3).2
      · exact (h.four j hj1 (by omega)).2
    rw [List.any_eq_true]
    exact ⟨j, by simpa [codes_len] using hj1, by rw [Bool.and_eq_true]; exact ⟨by rw [codes_get hj1]; simp; omega, (all_set hj1).2 ho⟩⟩

/-- A line, and its code. -/
theorem codes_step {n k : Nat} {s : St} (h : Inv n k s) {p : Nat} (hp : p < n) :
    codes n (stepN n s p) = (astep (codes n s) p).1 ∧ (stepN n s p).phase p = s.phase p + (if (astep (codes n s) p).2 = true then 1 else 0) ∧ ∀ j, j ≠ p → (stepN n s p).phase j = s.phase j := by
  have hc := h.cd p hp
  have hl := h.ln p hp
  have hm := h.mine p hp
  have hln : (codes n s).length = n := codes_len n s
  obtain e | e | e | e | e : s.cd p = 0 ∨ s.cd p = 1 ∨ s.cd p = 2 ∨ s.cd p = 3 ∨ s.cd p = 4 := by omega
  · have hln1 : s.ln p = 1 := by rw [hl, e]; rfl
    have hcount := h.count (h.plain hp (.inl e))
    have hturn := cnt_upd (f := s.cd) (n := n) (p := p) (fun x => decide (x = 1)) 1 hp
    simp [e] at hturn
    by_cases h0 : s.count - 1 = 0
    · have hall : ∀ j, j < n → j ≠ p → s.cd j = 1 := by
        have hf : cnt (fun h => decide (upd s.cd p 1 h = 1)) n = n := by omega
        intro j hj hjp
        have := cnt_all hf j hj
        rw [upd_other hjp] at this
        simpa using this
      have hst : stepN n s p = { s with mine := upd s.mine p (1 - s.mine p), count := s.count - 1, ln := upd s.ln p 2, cd := upd s.cd p 3 } := by simp only [stepN, hln1, h0, if_true]
      have ha : astep (codes n s) p = ((codes n s).set p 3, false) := by
        rw [astep_at ((codes_get hp).trans e), if_pos rfl, if_pos ((all_set hp).2 hall)]
      rw [hst, ha]
      exact ⟨codes_eq (by simp [hln]) (fun j hj => codes_set hp j hj), by simp, fun j _ => rfl⟩
    · have hnot : ¬ ((codes n s).set p 1).all (fun x => x == 1) = true := by
        intro x
        have hall := (all_set hp).1 x
        have : cnt (fun h => decide (upd s.cd p 1 h = 1)) n = n := cnt_full (fun i hi => by
          by_cases c : i = p
          · subst c; simp [upd]
          · simp [upd_other c, hall i hi c])
        omega
      have hst : stepN n s p = { s with mine := upd s.mine p (1 - s.mine p), count := s.count - 1, ln := upd s.ln p 4, cd := upd s.cd p 1 } := by simp only [stepN, hln1, h0, if_true, if_false]
      have ha : astep (codes n s) p = ((codes n s).set p 1, false) := by
        rw [astep_at ((codes_get hp).trans e), if_pos rfl, if_neg hnot]
      rw [hst, ha]
      exact ⟨codes_eq (by simp [hln]) (fun j hj => codes_set hp j hj), by simp, fun j _ => rfl⟩
  · have hln1 : s.ln p = 4 := by rw [hl, e]; rfl
    have hne : s.sense ≠ s.mine p := by rw [h.sense, hm, e]; simp [senseOf]; omega
    have hst : stepN n s p = s := by simp [stepN, hln1, hne]
    have ha : astep (codes n s) p = (codes n s, false) := by rw [astep_at ((codes_get hp).trans e)]; simp
    rw [hst, ha]
    exact ⟨rfl, by simp, fun j _ => rfl⟩
  · have hln1 : s.ln p = 4 := by rw [hl, e]; rfl
    have heq : s.sense = s.mine p := by rw [h.sense, hm, e]; simp [senseOf]
    have hst : stepN n s p = { s with ln := upd s.ln p 1, phase := upd s.phase p (s.phase p + 1), cd := upd s.cd p 0 } := by simp [stepN, hln1, heq]
    have ha : astep (codes n s) p = ((codes n s).set p 0, true) := by rw [astep_at ((codes_get hp).trans e)]; simp
    rw [hst, ha]
    exact ⟨codes_eq (by simp [hln]) (fun j hj => codes_set hp j hj), by simp [upd_same], fun j hj => upd_other hj⟩
  · have hln1 : s.ln p = 2 := by rw [hl, e]; rfl
    have hst : stepN n s p = { s with count := n, ln := upd s.ln p 3, cd := upd s.cd p 4 } := by simp [stepN, hln1]
    have ha : astep (codes n s) p = ((codes n s).set p 4, false) := by rw [astep_at ((codes_get hp).trans e)]; simp
    rw [hst, ha]
    exact ⟨codes_eq (by simp [hln]) (fun j hj => codes_set hp j hj), by simp, fun j _ => rfl⟩
  · have hln1 : s.ln p = 3 := by rw [hl, e]; rfl
    have hst : stepN n s p = { s with sense := s.mine p, ln := upd s.ln p 1, phase := upd s.phase p (s.phase p + 1), g := s.g + 1, cd := loosed s.cd p } := by simp [stepN, hln1]
    have ha : astep (codes n s) p = (((codes n s).map fun x => if x = 1 then 2 else x).set p 0, true) := by rw [astep_at ((codes_get hp).trans e)]; simp
    rw [hst, ha]
    refine ⟨codes_eq (by simp [hln]) (fun j hj => ?_), by simp [upd_same], fun j hj => upd_other hj⟩
    rw [List.getElem?_set]
    by_cases c : p = j
    · subst c; simp [codes, hj, loosed]
    · have c' : ¬ j = p := fun x => c x.symm
      rw [if_neg c]; simp [codes, hj, loosed, c']

/-- All do a line in turn: behind t lines. -/
def turns (n : Nat) (s : St) : Nat → St
  | 0 => s
  | t + 1 => step n (turns n s t) ((t % n : Nat) : Int)
theorem Reach.turns {n k : Nat} {s : St} (h : Reach n k s) (t : Nat) : Reach n (k + t) (turns n s t) := by
  induction t with
  | zero => exact h
  | succ t ih => exact ih.step _
theorem run_codes {n k : Nat} {s : St} (h : Reach n k s) (t : Nat) :
    codes n (Bar.turns n s t) = (arun n (codes n s) t).1 ∧ (arun n (codes n s) t).2.length = n ∧
      ∀ j, j < n → s.phase j ≤ (Bar.turns n s t).phase j ∧ ((arun n (codes n s) t).2[j]? = some true → s.phase j < (Bar.turns n s t).phase j) := by
  induction t with
  | zero =>
    refine ⟨rfl, by simp [arun], fun j hj => ⟨Int.le_refl _, fun x => ?_⟩⟩
    simp [arun, hj] at x
  | succ t ih =>
    have hn : 0 < n := h.1
    have hp : t % n < n := Nat.mod_lt _ hn
    obtain ⟨h1, h2, h3⟩ := ih
    have hs := codes_step (h.turns t).2.2 hp
    have e : Bar.turns n s (t + 1) = stepN n (Bar.turns n s t) (t % n) := step_nat _ hp
    rw [e]
    rw [h1] at hs
    refine ⟨hs.1, ?_, fun j hj => ?_⟩
    · simp only [arun]; split <;> simp [h2]
    · by_cases c : j = t % n
      · subst c
        rw [hs.2.1]
        have := h3 _ hj
        cases hx : (astep (arun n (codes n s) t).1 (t % n)).2 with
        | true => simp; omega
        | false =>
          refine ⟨by simp; omega, fun y => ?_⟩
          simp only [arun, hx] at y
          have := this.2 (by simpa using y)
          simp; omega
      · rw [hs.2.2 j c]
        have := h3 _ hj
        refine ⟨this.1, fun y => this.2 ?_⟩
        simp only [arun] at y
        split at y
        · rw [List.getElem?_set, if_neg (fun x => c x.symm)] at y; exact y
        · exact y
theorem Reach.goes {n k : Nat} {s : St} (h : Reach n k s) (q : Nat) (hq : q < n) : s.phase q < (Bar.turns n s (8 * n)).phase q := by
  have hr := run_codes h (8 * n)
  have hall : goesAll n = true := by
    obtain ⟨h1, h4, -⟩ := h
    obtain rfl | rfl | rfl | rfl : n = 1 ∨ n = 2 ∨ n = 3 ∨ n = 4 := by omega
    · exact goes1
    · exact goes2
    · exact goes3
    · exact goes4
  have hx := List.all_eq_true.1 hall _ (codes_mem h.2.2)
  rw [codes_valid h.2.2] at hx
  simp only [Bool.not_true, Bool.false_or] at hx
  have hb := List.all_eq_true.1 hx
  refine (hr.2.2 q hq).2 ?_
  have hlen := hr.2.1
  rw [List.getElem?_eq_getElem (by omega)]
  have := hb _ (List.getElem_mem (by omega : q < (arun n (codes n s) (8 * n)).2.length))
  rw [this]
end Go.Proofs.YtgkfgijmccojjaaDoor.Bar
