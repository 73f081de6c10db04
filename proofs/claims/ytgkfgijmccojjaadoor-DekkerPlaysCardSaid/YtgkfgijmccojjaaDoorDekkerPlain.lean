namespace Go.Proofs.YtgkfgijmccojjaaDoor.Dekker

/-- The lock of two hands: words F0, F1, T; at which lines they are. -/
structure St where
  f0 : Int
  f1 : Int
  t : Int
  a0 : Int
  a1 : Int
deriving DecidableEq

def first (_ : Nat) : St := ⟨0, 0, 0, 1, 1⟩

def step0 (s : St) : St :=
  if s.a0 = 1 then { s with f0 := 1, a0 := 2 }
  else if s.a0 = 2 then (if s.f1 = 0 then { s with a0 := 7 } else { s with a0 := 3 })
  else if s.a0 = 3 then (if s.t = 0 then { s with a0 := 2 } else { s with a0 := 4 })
  else if s.a0 = 4 then { s with f0 := 0, a0 := 5 }
  else if s.a0 = 5 then (if s.t = 0 then { s with a0 := 6 } else s)
  else if s.a0 = 6 then { s with f0 := 1, a0 := 2 }
  else if s.a0 = 7 then { s with a0 := 8 }
  else if s.a0 = 8 then { s with t := 1, a0 := 9 }
  else { s with f0 := 0, a0 := 1 }

def step1 (s : St) : St :=
  if s.a1 = 1 then { s with f1 := 1, a1 := 2 }
  else if s.a1 = 2 then (if s.f0 = 0 then { s with a1 := 7 } else { s with a1 := 3 })
  else if s.a1 = 3 then (if s.t = 1 then { s with a1 := 2 } else { s with a1 := 4 })
  else if s.a1 = 4 then { s with f1 := 0, a1 := 5 }
  else if s.a1 = 5 then (if s.t = 1 then { s with a1 := 6 } else s)
  else if s.a1 = 6 then { s with f1 := 1, a1 := 2 }
  else if s.a1 = 7 then { s with a1 := 8 }
  else if s.a1 = 8 then { s with t := 0, a1 := 9 }
  else { s with f1 := 0, a1 := 1 }

def step (_ : Nat) (s : St) (p : Int) : St := if p = 0 then step0 s else if p = 1 then step1 s else s
def line (_ : Nat) (s : St) (p : Int) : Int := if p = 0 then s.a0 else if p = 1 then s.a1 else 0
def isIn (n : Nat) (s : St) (j : Nat) : Bool := line n s j == 7

/-- All that two moves reach. -/
def spread {α : Type} [BEq α] (f g : α → α) : Nat → List α → List α → List α
  | 0, l, _ => l
  | _ + 1, l, [] => l
  | n + 1, l, s :: todo =>
    let x := f s
    let l1 := if l.contains x then l else x :: l
    let t1 := if l.contains x then todo else todo ++ [x]
    let y := g s
    let l2 := if l1.contains y then l1 else y :: l1
    let t2 := if l1.contains y then t1 else t1 ++ [y]
    spread f g n l2 t2
def reached : List St := spread step0 step1 400 [first 2] [first 2]
/-- What every state that a script reaches is. -/
def Reach (n _k : Nat) (s : St) : Prop := n = 2 ∧ s ∈ reached
theorem closed : (reached.all fun s => reached.contains (step0 s) && reached.contains (step1 s)) = true := by decide +kernel
theorem Reach.first : Reach 2 0 (first 2) := by
  have h : reached.contains (Dekker.first 2) = true := by decide +kernel
  exact ⟨rfl, by simpa using h⟩
theorem Reach.step {n k : Nat} {s : St} (h : Reach n k s) (p : Int) : Reach n (k + 1) (step n s p) := by
  have k := List.all_eq_true.1 closed s h.2
  simp only [Bool.and_eq_true, List.contains_iff_mem] at k
  refine ⟨h.1, ?_⟩
  unfold Dekker.step
  split
  · exact k.1
  · split
    · exact k.2
    · exact h.2
theorem allFine : (reached.all fun s => decide (1 ≤ s.a0) && decide (s.a0 ≤ 9) && decide (1 ≤ s.a1) && decide (s.a1 ≤ 9)) = true := by decide +kernel
theorem Reach.fine {n k : Nat} {s : St} (h : Reach n k s) : 1 ≤ s.a0 ∧ s.a0 ≤ 9 ∧ 1 ≤ s.a1 ∧ s.a1 ≤ 9 := by
  have k := List.all_eq_true.1 allFine s h.2
  simpa [and_assoc] using k
theorem allOne : (reached.all fun s => !(decide (s.a0 = 7) && decide (s.a1 = 7))) = true := by decide +kernel
theorem Reach.one {n k : Nat} {s : St} (h : Reach n k s) (i j : Nat) (hi : i < n) (hj : j < n) (h1 : isIn n s i = true) (h2 : isIn n s j = true) : i = j := by
  have k := List.all_eq_true.1 allOne s h.2
  obtain ⟨rfl, -⟩ := h
  unfold isIn line at h1 h2
  simp only [beq_iff_eq] at h1 h2
  simp at k
  obtain rfl | rfl : i = 0 ∨ i = 1 := by omega
  · obtain rfl | rfl : j = 0 ∨ j = 1 := by omega
    · rfl
    · exact absurd h2 (k.resolve_left (fun g => g h1))
  · obtain rfl | rfl : j = 0 ∨ j = 1 := by omega
    · exact absurd h2 (k.resolve_right (fun g => g h1))
    · rfl

/-- Hand 1 alone, line by line. -/
def alone : Nat → St
  | 0 => first 2
  | k + 1 => step 2 (alone k) 1
theorem alone_reach (k : Nat) : Reach 2 k (alone k) := by
  induction k with
  | zero => exact Reach.first
  | succ k ih => exact ih.step 1
theorem alone_out (k : Nat) (h : k < 1) : (line 2 (alone (k + 1)) 1 == 7) = false := by
  obtain rfl : k = 0 := by omega
  decide
theorem alone_in : (line 2 (alone 2) 1 == 7) = true := by decide
theorem alone_zero : line 2 (alone 2) 0 = 1 := by decide

/-- All do a line in turn: behind t lines. -/
def turns (n : Nat) (s : St) : Nat → St
  | 0 => s
  | t + 1 => step n (turns n s t) ((t % n : Nat) : Int)
/-- Was hand q in, at one of t lines? -/
def was (n : Nat) (s : St) (q : Nat) : Nat → Bool
  | 0 => false
  | t + 1 => was n s q t || (t % n == q && isIn n (turns n s (t + 1)) q)
theorem Reach.turns {n k : Nat} {s : St} (h : Reach n k s) (t : Nat) : Reach n (k + t) (turns n s t) := by
  induction t with
  | zero => exact h
  | succ t ih => exact ih.step _
theorem allGo : (reached.all fun s => was 2 s 0 120 && was 2 s 1 120) = true := by decide +kernel
theorem Reach.goes {n k : Nat} {s : St} (h : Reach n k s) (q : Nat) (hq : q < n) : was n s q (60 * n) = true := by
  have k := List.all_eq_true.1 allGo s h.2
  obtain ⟨rfl, -⟩ := h
  simp only [Bool.and_eq_true] at k
  obtain rfl | rfl : q = 0 ∨ q = 1 := by omega
  · exact k.1
  · exact k.2

/-- Both do a line in turn, the other one first: hand p is in before it is passed more than twice. -/
def fairRun (p : Int) : Nat → St → Int → Bool
  | 0, _, _ => false
  | m + 1, s, c =>
    let s1 := step 2 s (1 - p)
    let c1 := if line 2 s (1 - p) ≠ 7 ∧ line 2 s1 (1 - p) = 7 then c + 1 else c
    let s2 := step 2 s1 p
    if line 2 s2 p = 7 then decide (c1 ≤ 2) else fairRun p m s2 c1
theorem allFair : (reached.all fun s => (!(decide (2 ≤ s.a0) && decide (s.a0 ≤ 6)) || fairRun 0 60 s 0) && (!(decide (2 ≤ s.a1) && decide (s.a1 ≤ 6)) || fairRun 1 60 s 0)) = true := by decide +kernel
theorem Reach.fair {n k : Nat} {s : St} (h : Reach n k s) (p : Int) (hp : p = 0 ∨ p = 1) (h1 : 2 ≤ line 2 s p) (h2 : line 2 s p ≤ 6) : fairRun p 60 s 0 = true := by
  have k := List.all_eq_true.1 allFair s h.2
  simp only [Bool.and_eq_true, Bool.or_eq_true, Bool.not_eq_true', Bool.and_eq_false_iff, decide_eq_false_iff_not] at k
  rcases hp with rfl | rfl
  · simp only [line, if_true] at h1 h2
    rcases k.1 with (k | k) | k
    · omega
    · omega
    · exact k
  · simp [line] at h1 h2
    rcases k.2 with (k | k) | k
    · omega
    · omega
    · exact k
end Go.Proofs.YtgkfgijmccojjaaDoor.Dekker
