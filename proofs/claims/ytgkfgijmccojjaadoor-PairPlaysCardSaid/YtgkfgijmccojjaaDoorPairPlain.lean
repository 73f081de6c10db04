namespace Go.Proofs.YtgkfgijmccojjaaDoor.Pair

/-- The lock of two hands: words F0, F1, T; at which lines they are. -/
structure St where
  f0 : Int
  f1 : Int
  t : Int
  a0 : Int
  a1 : Int
deriving DecidableEq

def first (_ : Nat) : St := ⟨0, 0, 0, 1, 1⟩

def step0 (s : St) : St :=
  if s.a0 = 1 then { s with f0 := 1, a0 := 2 }
  else if s.a0 = 2 then { s with t := 1, a0 := 3 }
  else if s.a0 = 3 then (if s.f1 = 0 then { s with a0 := 5 } else { s with a0 := 4 })
  else if s.a0 = 4 then (if s.t = 1 then { s with a0 := 3 } else { s with a0 := 5 })
  else if s.a0 = 5 then { s with a0 := 6 }
  else { s with f0 := 0, a0 := 1 }

def step1 (s : St) : St :=
  if s.a1 = 1 then { s with f1 := 1, a1 := 2 }
  else if s.a1 = 2 then { s with t := 0, a1 := 3 }
  else if s.a1 = 3 then (if s.f0 = 0 then { s with a1 := 5 } else { s with a1 := 4 })
  else if s.a1 = 4 then (if s.t = 0 then { s with a1 := 3 } else { s with a1 := 5 })
  else if s.a1 = 5 then { s with a1 := 6 }
  else { s with f1 := 0, a1 := 1 }

def step (_ : Nat) (s : St) (p : Int) : St := if p = 0 then step0 s else if p = 1 then step1 s else s
def line (_ : Nat) (s : St) (p : Int) : Int := if p = 0 then s.a0 else if p = 1 then s.a1 else 0
def isIn (n : Nat) (s : St) (j : Nat) : Bool := line n s j == 5

/-- All that two moves reach. -/
def spread {α : Type} [BEq α] (f g : α → α) : Nat → List α → List α → List α
  | 0, l, _ => l
  | _ + 1, l, [] => l
  | n + 1, l, s :: todo =>
    let x := f s
    let l1 := if l.contains x then l else x :: l
    let t1 := if l.contains x then todo else todo ++ [x]
    let y := g s
    let l2 := if l1.contains y then l1 else y :: l1
    let t2 := if l1.contains y then t1 else t1 ++ [y]
    spread f g n l2 t2
def reached : List St := spread step0 step1 400 [first 2] [first 2]
/-- What every state that a script reaches is. -/
def Reach (n _k : Nat) (s : St) : Prop := n = 2 ∧ s ∈ reached
theorem closed : (reached.all fun s => reached.contains (step0 s) && reached.contains (step1 s)) = true := by decide +kernel
theorem Reach.first : Reach 2 0 (first 2) := by
  have h : reached.contains (Pair.first 2) = true := by decide +kernel
  exact ⟨rfl, by simpa using h⟩
theorem Reach.step {n k : Nat} {s : St} (h : Reach n k s) (p : Int) : Reach n (k + 1) (step n s p) := by
  have k := List.all_eq_true.1 closed s h.2
  simp only [Bool.and_eq_true, List.contains_iff_mem] at k
  refine ⟨h.1, ?_⟩
  unfold Pair.step
  split
  · exact k.1
  · split
    · exact k.2
    · exact h.2
theorem allFine : (reached.all fun s => decide (1 ≤ s.a0) && decide (s.a0 ≤ 6) && decide (1 ≤ s.a1) && decide (s.a1 ≤ 6)) = true := by decide +kernel
theorem Reach.fine {n k : Nat} {s : St} (h : Reach n k s) : 1 ≤ s.a0 ∧ s.a0 ≤ 6 ∧ 1 ≤ s.a1 ∧ s.a1 ≤ 6 := by
  have k := List.all_eq_true.1 allFine s h.2
  simpa [and_assoc] using k
theorem allOne : (reached.all fun s => !(decide (s.a0 = 5) && decide (s.a1 = 5))) = true := by decide +kernel
theorem Reach.one {n k : Nat} {s : St} (h : Reach n k s) (i j : Nat) (hi : i < n) (hj : j < n) (h1 : isIn n s i = true) (h2 : isIn n s j = true) : i = j := by
  have k := List.all_eq_true.1 allOne s h.2
  obtain ⟨rfl, -⟩ := h
  unfold isIn line at h1 h2
  simp only [beq_iff_eq] at h1 h2
  simp at k
  obtain rfl | rfl : i = 0 ∨ i = 1 := by omega
  · obtain rfl | rfl : j = 0 ∨ j = 1 := by omega
    · rfl
    · exact absurd h2 (k.resolve_left (fun g => g h1))
  · obtain rfl | rfl : j = 0 ∨ j = 1 := by omega
    · exact absurd h2 (k.resolve_right (fun g => g h1))
    · rfl

/-- Hand 1 alone, line by line. -/
def alone : Nat → St
  | 0 => first 2
  | k + 1 => step 2 (alone k) 1
theorem alone_reach (k : Nat) : Reach 2 k (alone k) := by
  induction k with
  | zero => exact Reach.first
  | succ k ih => exact ih.step 1
theorem alone_out (k : Nat) (h : k < 2) : (line 2 (alone (k + 1)) 1 == 5) = false := by
  obtain rfl | rfl : k = 0 ∨ k = 1 := by omega
  · decide
  · decide
theorem alone_in : (line 2 (alone 3) 1 == 5) = true := by decide
theorem alone_zero : line 2 (alone 3) 0 = 1 := by decide

/-- All do a line in turn: behind t lines. -/
def turns (n : Nat) (s : St) : Nat → St
  | 0 => s
  | t + 1 => step n (turns n s t) ((t % n : Nat) : Int)
/-- Was hand q in, at one of t lines? -/
def was (n : Nat) (s : St) (q : Nat) : Nat → Bool
  | 0 => false
  | t + 1 => was n s q t || (t % n == q && isIn n (turns n s (t + 1)) q)
theorem Reach.turns {n k : Nat} {s : St} (h : Reach n k s) (t : Nat) : Reach n (k + t) (turns n s t) := by
  induction t with
  | zero => exact h
  | succ t ih => exact ih.step _
theorem allGo : (reached.all fun s => was 2 s 0 120 && was 2 s 1 120) = true := by decide +kernel
theorem Reach.goes {n k : Nat} {s : St} (h : Reach n k s) (q : Nat) (hq : q < n) : was n s q (60 * n) = true := by
  have k := List.all_eq_true.1 allGo s h.2
  obtain ⟨rfl, -⟩ := h
  simp only [Bool.and_eq_true] at k
  obtain rfl | rfl : q = 0 ∨ q = 1 := by omega
  · exact k.1
  · exact k.2

theorem allAlone : (reached.all fun s => !(decide (s.a0 = 1) && decide (s.a1 = 1)) || (decide ((step0 (step0 (step0 s))).a0 = 5) && decide ((step1 (step1 (step1 s))).a1 = 5))) = true := by decide +kernel
theorem Reach.alone {n k : Nat} {s : St} (h : Reach n k s) (h0 : line n s 0 = 1) (h1 : line n s 1 = 1) (p : Int) (hp : p = 0 ∨ p = 1) :
    line n (Pair.step n (Pair.step n (Pair.step n s p) p) p) p = 5 := by
  have k := List.all_eq_true.1 allAlone s h.2
  simp only [line] at h0 h1
  simp at h0 h1 k
  rcases hp with rfl | rfl
  · simp [line, Pair.step]; exact (k.resolve_left (by omega)).1
  · simp [line, Pair.step]; exact (k.resolve_left (by omega)).2

/-- The state, and how often each hand was passed while it waited. -/
structure Fst where
  s : St
  x0 : Int
  x1 : Int
deriving DecidableEq
def fair0 (f : Fst) : Fst :=
  let s' := step0 f.s
  { s := s', x0 := if f.s.a0 = 2 ∨ s'.a0 = 5 then 0 else f.x0, x1 := if f.s.a0 ≠ 5 ∧ s'.a0 = 5 ∧ 3 ≤ s'.a1 ∧ s'.a1 ≤ 4 then f.x1 + 1 else f.x1 }
def fair1 (f : Fst) : Fst :=
  let s' := step1 f.s
  { s := s', x1 := if f.s.a1 = 2 ∨ s'.a1 = 5 then 0 else f.x1, x0 := if f.s.a1 ≠ 5 ∧ s'.a1 = 5 ∧ 3 ≤ s'.a0 ∧ s'.a0 ≤ 4 then f.x0 + 1 else f.x0 }
def fairs : List Fst := spread fair0 fair1 1000 [⟨first 2, 0, 0⟩] [⟨first 2, 0, 0⟩]
def Fair (f : Fst) : Prop := f ∈ fairs
theorem fairClosed : (fairs.all fun s => fairs.contains (fair0 s) && fairs.contains (fair1 s)) = true := by decide +kernel
theorem Fair.first : Fair ⟨Pair.first 2, 0, 0⟩ := by
  have h : fairs.contains ⟨Pair.first 2, 0, 0⟩ = true := by decide +kernel
  simpa [Fair] using h
theorem Fair.step0 {f : Fst} (h : Fair f) : Fair (fair0 f) := by
  have k := List.all_eq_true.1 fairClosed f h
  simp only [Bool.and_eq_true, List.contains_iff_mem] at k
  exact k.1
theorem Fair.step1 {f : Fst} (h : Fair f) : Fair (fair1 f) := by
  have k := List.all_eq_true.1 fairClosed f h
  simp only [Bool.and_eq_true, List.contains_iff_mem] at k
  exact k.2
theorem fairAll : (fairs.all fun f => reached.contains f.s && (decide (0 ≤ f.x0) && decide (f.x0 ≤ 1)) && (decide (0 ≤ f.x1) && decide (f.x1 ≤ 1))) = true := by decide +kernel
theorem Fair.fine {f : Fst} (h : Fair f) : Reach 2 0 f.s ∧ (0 ≤ f.x0 ∧ f.x0 ≤ 1) ∧ 0 ≤ f.x1 ∧ f.x1 ≤ 1 := by
  have k := List.all_eq_true.1 fairAll f h
  simp only [Bool.and_eq_true, List.contains_iff_mem, decide_eq_true_eq] at k
  exact ⟨⟨rfl, k.1.1⟩, k.1.2, k.2⟩
end Go.Proofs.YtgkfgijmccojjaaDoor.Pair
