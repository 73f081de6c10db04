import Derived.Test.YtgkfgijmccojjaaDoorKit
namespace Go.Proofs.YtgkfgijmccojjaaDoor.Clh

/-- The lock of n hands. wd: the words: the tail, and of each place whether it is busy; ln, mine, ahead: of each hand its line, its place, the place ahead; q: who did line 2, in order (of the proof alone). -/
structure St where
  wd : Nat → Int
  ln : Nat → Int
  mine : Nat → Int
  ahead : Nat → Int
  q : List Nat

def first (n : Nat) : St := { wd := fun k => if k = 0 then n else 0, ln := fun _ => 1, mine := fun j => j, ahead := fun _ => 0, q := [] }

def stepN (s : St) (p : Nat) : St :=
  if s.ln p = 1 then { s with wd := upd s.wd (1 + (s.mine p).toNat) 1, ln := upd s.ln p 2 }
  else if s.ln p = 2 then { s with ahead := upd s.ahead p (s.wd 0), wd := upd s.wd 0 (s.mine p), ln := upd s.ln p 3, q := s.q ++ [p] }
  else if s.ln p = 3 then (if s.wd (1 + (s.ahead p).toNat) = 0 then { s with ln := upd s.ln p 4 } else s)
  else if s.ln p = 4 then { s with ln := upd s.ln p 5 }
  else { s with wd := upd s.wd (1 + (s.mine p).toNat) 0, mine := upd s.mine p (s.ahead p), ahead := upd s.ahead p 0, ln := upd s.ln p 1, q := s.q.tail }

def step (n : Nat) (s : St) (p : Int) : St := if 0 ≤ p ∧ p < n then stepN s p.toNat else s
def line (n : Nat) (s : St) (p : Int) : Int := if 0 ≤ p ∧ p < n then s.ln p.toNat else 0
def isIn (n : Nat) (s : St) (j : Nat) : Bool := line n s j == 4

/-- Who stands in line looks at the place of the one ahead; the first at the free place z; the tail is the last one's place. -/
def Chain (s : St) : Int → List Nat → Prop
  | z, [] => s.wd 0 = z
  | z, h :: r => s.ahead h = z ∧ Chain s (s.mine h) r

structure Inv (n : Nat) (s : St) (z : Int) : Prop where
  ln : ∀ h, h < n → 1 ≤ s.ln h ∧ s.ln h ≤ 5
  mine : ∀ h, h < n → 0 ≤ s.mine h ∧ s.mine h ≤ n ∧ s.mine h ≠ z
  inj : ∀ h g, h < n → g < n → s.mine h = s.mine g → h = g
  z0 : 0 ≤ z ∧ z ≤ n
  free : s.wd (1 + z.toNat) = 0
  busy : ∀ h, h < n → s.wd (1 + (s.mine h).toNat) = if s.ln h = 1 then 0 else 1
  nodup : s.q.Nodup
  mem : ∀ h, h ∈ s.q ↔ h < n ∧ 3 ≤ s.ln h
  chain : Chain s z s.q
  head : ∀ h, h < n → 4 ≤ s.ln h → s.q.head? = some h
  sum : sumTo (fun k => s.wd (1 + k)) (n + 1) = cnt (fun h => decide (2 ≤ s.ln h)) n
  bit : ∀ k, 0 ≤ s.wd (1 + k) ∧ s.wd (1 + k) ≤ 1

/-- What every state that a script reaches is. -/
def Reach (n _k : Nat) (s : St) : Prop := 1 ≤ n ∧ n ≤ 4 ∧ ∃ z, Inv n s z

theorem Chain.congr {s t : St} {z : Int} {l : List Nat} (h : Chain s z l) (hw : t.wd 0 = s.wd 0) (ha : ∀ g, g ∈ l → t.ahead g = s.ahead g ∧ t.mine g = s.mine g) : Chain t z l := by
  induction l generalizing z with
  | nil => exact hw.trans h
  | cons g r ih =>
    have hg := ha g (by simp)
    refine ⟨hg.1.trans h.1, ?_⟩
    rw [hg.2]
    exact ih h.2 (fun x hx => ha x (by simp [hx]))
/-- One more behind. -/
theorem Chain.snoc {s t : St} {z : Int} {l : List Nat} {p : Nat} (h : Chain s z l) (hp : t.ahead p = s.wd 0) (hw : t.wd 0 = t.mine p) (ha : ∀ g, g ∈ l → t.ahead g = s.ahead g ∧ t.mine g = s.mine g) : Chain t z (l ++ [p]) := by
  induction l generalizing z with
  | nil => exact ⟨hp.trans h, hw⟩
  | cons g r ih =>
    have hg := ha g (by simp)
    refine ⟨hg.1.trans h.1, ?_⟩
    rw [hg.2]
    exact ih h.2 (fun x hx => ha x (by simp [hx]))
/-- Who stands behind another one looks at that one's place. -/
theorem Chain.behind {s : St} {z : Int} {l : List Nat} (h : Chain s z l) {p : Nat} (hp : p ∈ l) : l.head? = some p ∨ ∃ g, g ∈ l ∧ s.ahead p = s.mine g := by
  induction l generalizing z with
  | nil => simp at hp
  | cons g r ih =>
    rcases List.mem_cons.1 hp with rfl | hp
    · exact .inl rfl
    · right
      cases r with
      | nil => simp at hp
      | cons x r' =>
        rcases ih h.2 hp with hx | ⟨y, hy, e⟩
        · simp at hx; subst hx
          exact ⟨g, by simp, h.2.1⟩
        · exact ⟨y, by simp at hy ⊢; right; exact hy, e⟩

theorem Reach.first (n : Nat) (h1 : 1 ≤ n) (h4 : n ≤ 4) : Reach n 0 (Clh.first n) := by
  refine ⟨h1, h4, (n : Int), ?_⟩
  refine { ln := fun h _ => ⟨by simp [Clh.first], by simp [Clh.first]⟩, mine := fun h hh => ?_, inj := fun h g _ _ e => ?_, z0 := ⟨by omega, by omega⟩, free := ?_, busy := fun h hh => ?_, nodup := List.nodup_nil, mem := fun h => ?_, chain := ?_, head := fun h _ hh => ?_, sum := ?_, bit := fun k => by simp [Clh.first] }
  · simp [Clh.first]; omega
  · simp [Clh.first] at e; omega
  · simp [Clh.first]
  · simp [Clh.first]
  · simp [Clh.first]
  · simp [Clh.first, Chain]
  · simp [Clh.first] at hh
  · have e1 : sumTo (fun k => (Clh.first n).wd (1 + k)) (n + 1) = 0 := by
      generalize n + 1 = m
      induction m with
      | zero => rfl
      | succ m ih =>
        have e : (Clh.first n).wd (1 + m) = 0 := by
          show (if 1 + m = 0 then (n : Int) else 0) = 0
          rw [if_neg (by omega)]
        simp only [sumTo, ih, e]; rfl
    rw [e1, cnt_none (fun i _ => by simp [Clh.first])]

theorem wd_shift (f : Nat → Int) (i : Nat) (v : Int) : (fun k => upd f (1 + i) v (1 + k)) = upd (fun k => f (1 + k)) i v := by
  funext k
  unfold upd
  by_cases h : k = i
  · simp [h]
  · simp [h]

theorem Inv.first {n : Nat} {s : St} {z : Int} (h : Inv n s z) {p : Nat} (hp : p < n) (h3 : s.ln p = 3) (h0 : s.wd (1 + (s.ahead p).toNat) = 0) : s.q.head? = some p := by
  rcases h.chain.behind ((h.mem p).2 ⟨hp, by omega⟩) with g | ⟨g, hg, e⟩
  · exact g
  · have hg' := (h.mem g).1 hg
    have := h.busy g hg'.1
    rw [if_neg (by omega), ← e, h0] at this
    omega

theorem Inv.step {n : Nat} {s : St} {z : Int} (h : Inv n s z) {p : Nat} (hp : p < n) : ∃ z', Inv n (stepN s p) z' := by
  have hl := h.ln p hp
  have hm := h.mine p hp
  have hdiff : ∀ g, g < n → g ≠ p → (s.mine g).toNat ≠ (s.mine p).toNat := by
    intro g hg hgp e
    have hg' := h.mine g hg
    exact hgp (h.inj g p hg hp (by omega))
  have hz := h.z0
  have hzd : z.toNat ≠ (s.mine p).toNat := by omega
  have hsum := h.sum
  obtain e | e | e | e | e : s.ln p = 1 ∨ s.ln p = 2 ∨ s.ln p = 3 ∨ s.ln p = 4 ∨ s.ln p = 5 := by omega
  · have hq : p ∉ s.q := fun m => by have := (h.mem p).1 m; omega
    refine ⟨z, ?_⟩
    simp only [stepN, e, if_true]
    exact {
      ln := fun g hg => by by_cases c : g = p <;> simp [upd, c, h.ln g hg]
      mine := h.mine
      inj := h.inj
      z0 := hz
      free := by
        have : 1 + z.toNat ≠ 1 + (s.mine p).toNat := by omega
        simp only [upd_other this]; exact h.free
      busy := fun g hg => by
        by_cases c : g = p
        · subst c; simp [upd]
        · have : 1 + (s.mine g).toNat ≠ 1 + (s.mine p).toNat := by have := hdiff g hg c; omega
          simp only [upd_other this, upd_other c]; exact h.busy g hg
      nodup := h.nodup
      mem := fun g => by
        by_cases c : g = p
        · subst c; simp [upd, hq]
        · simp only [upd_other c]; exact h.mem g
      chain := h.chain.congr (upd_other (by omega)) (fun g _ => ⟨rfl, rfl⟩)
      head := fun g hg h4 => by
        by_cases c : g = p
        · subst c; simp [upd] at h4
        · simp only [upd_other c] at h4; exact h.head g hg h4
      sum := by
        show sumTo (fun k => upd s.wd (1 + (s.mine p).toNat) 1 (1 + k)) (n + 1) = _
        rw [wd_shift, sumTo_upd (by omega), hsum, cnt_upd (fun x => decide (2 ≤ x)) _ hp]
        have := h.busy p hp
        rw [if_pos e] at this
        simp only [this, e]; simp
      bit := fun k => by
        have := h.bit k
        by_cases c : k = (s.mine p).toNat
        · subst c; simp [upd]
        · simp only [upd_other (show 1 + k ≠ 1 + (s.mine p).toNat by omega)]; exact this }
  · have hq : p ∉ s.q := fun m => by have := (h.mem p).1 m; omega
    refine ⟨z, ?_⟩
    have hne : ¬ ((2 : Int) = 1) := by omega
    simp only [stepN, e, hne, if_true, if_false]
    exact {
      ln := fun g hg => by by_cases c : g = p <;> simp [upd, c, h.ln g hg]
      mine := h.mine
      inj := h.inj
      z0 := hz
      free := by simp only [upd_other (show 1 + z.toNat ≠ 0 by omega)]; exact h.free
      busy := fun g hg => by
        simp only [upd_other (show 1 + (s.mine g).toNat ≠ 0 by omega)]
        by_cases c : g = p
        · subst c; rw [h.busy g hg, e]; simp [upd]
        · simp only [upd_other c]; exact h.busy g hg
      nodup := by
        rw [List.nodup_append]
        exact ⟨h.nodup, by simp, fun a ha b hb => by simp at hb; subst hb; exact fun e => hq (e ▸ ha)⟩
      mem := fun g => by
        by_cases c : g = p
        · subst c; simp [upd, hp]
        · simp only [upd_other c, List.mem_append, List.mem_singleton, c, or_false]; exact h.mem g
      chain := h.chain.snoc (upd_same _ _ _) (upd_same s.wd 0 (s.mine p)) (fun g hg => ⟨upd_other (fun c => hq (c ▸ hg)), rfl⟩)
      head := fun g hg h4 => by
        by_cases c : g = p
        · subst c; simp [upd] at h4
        · simp only [upd_other c] at h4
          have := h.head g hg h4
          simp [List.head?_append, this]
      sum := by
        have ef : (fun k => upd s.wd 0 (s.mine p) (1 + k)) = fun k => s.wd (1 + k) := by funext k; exact upd_other (by omega)
        show sumTo (fun k => upd s.wd 0 (s.mine p) (1 + k)) (n + 1) = _
        rw [ef, hsum, cnt_upd (fun x => decide (2 ≤ x)) _ hp]
        simp only [e]; simp
      bit := fun k => by simp only [upd_other (show 1 + k ≠ 0 by omega)]; exact h.bit k }
  · have h1 : ¬ ((3 : Int) = 1) := by omega
    have h2 : ¬ ((3 : Int) = 2) := by omega
    by_cases h0 : s.wd (1 + (s.ahead p).toNat) = 0
    · have hhead := h.first hp e h0
      refine ⟨z, ?_⟩
      simp only [stepN, e, h1, h2, h0, if_true, if_false]
      exact {
        ln := fun g hg => by by_cases c : g = p <;> simp [upd, c, h.ln g hg]
        mine := h.mine
        inj := h.inj
        z0 := hz
        free := h.free
        busy := fun g hg => by
          by_cases c : g = p
          · subst c; rw [h.busy g hg, e]; simp [upd]
          · simp only [upd_other c]; exact h.busy g hg
        nodup := h.nodup
        mem := fun g => by
          by_cases c : g = p
          · subst c; rw [h.mem g, e]; simp [upd]
          · simp only [upd_other c]; exact h.mem g
        chain := h.chain.congr rfl (fun g _ => ⟨rfl, rfl⟩)
        head := fun g hg h4 => by
          by_cases c : g = p
          · subst c; exact hhead
          · simp only [upd_other c] at h4; exact h.head g hg h4
        sum := by
          show sumTo (fun k => s.wd (1 + k)) (n + 1) = _
          rw [hsum, cnt_upd (fun x => decide (2 ≤ x)) _ hp]
          simp only [e]; simp
        bit := h.bit }
    · refine ⟨z, ?_⟩
      simp only [stepN, e, h1, h2, h0, if_true, if_false]
      exact h
  · have h1 : ¬ ((4 : Int) = 1) := by omega
    have h2 : ¬ ((4 : Int) = 2) := by omega
    have h3 : ¬ ((4 : Int) = 3) := by omega
    have hhead := h.head p hp (by omega)
    refine ⟨z, ?_⟩
    simp only [stepN, e, h1, h2, h3, if_true, if_false]
    exact {
      ln := fun g hg => by by_cases c : g = p <;> simp [upd, c, h.ln g hg]
      mine := h.mine
      inj := h.inj
      z0 := hz
      free := h.free
      busy := fun g hg => by
        by_cases c : g = p
        · subst c; rw [h.busy g hg, e]; simp [upd]
        · simp only [upd_other c]; exact h.busy g hg
      nodup := h.nodup
      mem := fun g => by
        by_cases c : g = p
        · subst c; rw [h.mem g, e]; simp [upd]
        · simp only [upd_other c]; exact h.mem g
      chain := h.chain.congr rfl (fun g _ => ⟨rfl, rfl⟩)
      head := fun g hg h4 => by
        by_cases c : g = p
        · subst c; exact hhead
        · simp only [upd_other c] at h4; exact h.head g hg h4
      sum := by
        show sumTo (fun k => s.wd (1 + k)) (n + 1) = _
        rw [hsum, cnt_upd (fun x => decide (2 ≤ x)) _ hp]
        simp only [e]; simp
      bit := h.bit }
  · have h1 : ¬ ((5 : Int) = 1) := by omega
    have h2 : ¬ ((5 : Int) = 2) := by omega
    have h3 : ¬ ((5 : Int) = 3) := by omega
    have h4 : ¬ ((5 : Int) = 4) := by omega
    have hhead := h.head p hp (by omega)
    obtain ⟨r, hr⟩ : ∃ r, s.q = p :: r := by
      cases hq : s.q with
      | nil => rw [hq] at hhead; simp at hhead
      | cons a r => rw [hq] at hhead; simp at hhead; subst hhead; exact ⟨r, rfl⟩
    have hch := h.chain
    rw [hr] at hch
    obtain ⟨ha, hch⟩ := hch
    have hnd := h.nodup
    rw [hr, List.nodup_cons] at hnd
    refine ⟨s.mine p, ?_⟩
    simp only [stepN, e, h1, h2, h3, h4, if_false, hr, List.tail_cons, ha]
    exact {
      ln := fun g hg => by by_cases c : g = p <;> simp [upd, c, h.ln g hg]
      mine := fun g hg => by
        by_cases c : g = p
        · subst c; simp only [upd_same]; omega
        · simp only [upd_other c]
          have := h.mine g hg
          have := hdiff g hg c
          omega
      inj := fun g k hg hk he => by
        by_cases c : g = p
        · by_cases d : k = p
          · rw [c, d]
          · subst c; simp only [upd_same, upd_other d] at he
            exact absurd he.symm (h.mine k hk).2.2
        · by_cases d : k = p
          · subst d; simp only [upd_same, upd_other c] at he
            exact absurd he (h.mine g hg).2.2
          · simp only [upd_other c, upd_other d] at he
            exact h.inj g k hg hk he
      z0 := ⟨hm.1, hm.2.1⟩
      free := upd_same _ _ _
      busy := fun g hg => by
        by_cases c : g = p
        · subst c
          have : 1 + z.toNat ≠ 1 + (s.mine g).toNat := by omega
          simp only [upd_same, upd_other this, if_true]; exact h.free
        · have : 1 + (s.mine g).toNat ≠ 1 + (s.mine p).toNat := by have := hdiff g hg c; omega
          simp only [upd_other this, upd_other c]; exact h.busy g hg
      nodup := hnd.2
      mem := fun g => by
        by_cases c : g = p
        · subst c; simp [upd, hnd.1]
        · have := h.mem g
          rw [hr] at this
          simp only [List.mem_cons, c, false_or] at this
          simp only [upd_other c]; exact this
      chain := hch.congr (upd_other (by omega)) (fun g hg => by
        have c : g ≠ p := fun c => hnd.1 (c ▸ hg)
        exact ⟨upd_other c, upd_other c⟩)
      head := fun g hg hg4 => by
        by_cases c : g = p
        · subst c; simp [upd] at hg4
        · simp only [upd_other c] at hg4
          have := h.head g hg hg4
          rw [hr] at this
          simp at this
          exact absurd this.symm c
      sum := by
        show sumTo (fun k => upd s.wd (1 + (s.mine p).toNat) 0 (1 + k)) (n + 1) = _
        rw [wd_shift, sumTo_upd (by omega), hsum, cnt_upd (fun x => decide (2 ≤ x)) _ hp]
        have := h.busy p hp
        rw [if_neg (by omega)] at this
        simp only [this, e]; simp
      bit := fun k => by
        have := h.bit k
        by_cases c : k = (s.mine p).toNat
        · subst c; simp [upd]
        · simp only [upd_other (show 1 + k ≠ 1 + (s.mine p).toNat by omega)]; exact this }

theorem step_nat {n : Nat} (s : St) {p : Nat} (h : p < n) : step n s (p : Int) = stepN s p := by
  unfold step; rw [if_pos (by omega)]; rfl
theorem line_nat {n : Nat} (s : St) {p : Nat} (h : p < n) : line n s (p : Int) = s.ln p := by
  unfold line; rw [if_pos (by omega)]; rfl
theorem Reach.step {n k : Nat} {s : St} (h : Reach n k s) (p : Int) : Reach n (k + 1) (step n s p) := by
  obtain ⟨h1, h4, z, hi⟩ := h
  by_cases hp : 0 ≤ p ∧ p < n
  · obtain ⟨m, rfl⟩ := Int.eq_ofNat_of_zero_le hp.1
    rw [step_nat s (by omega)]
    exact ⟨h1, h4, hi.step (by omega)⟩
  · unfold Clh.step
    rw [if_neg hp]
    exact ⟨h1, h4, z, hi⟩
theorem Reach.one {n k : Nat} {s : St} (h : Reach n k s) (i j : Nat) (hi : i < n) (hj : j < n) (h1 : isIn n s i = true) (h2 : isIn n s j = true) : i = j := by
  obtain ⟨-, -, z, hz⟩ := h
  simp only [isIn, line_nat s hi, line_nat s hj, beq_iff_eq] at h1 h2
  have a := hz.head i hi (by omega)
  have b := hz.head j hj (by omega)
  rw [a] at b
  exact Option.some.inj b

/-- Hand 1 alone, line by line. -/
def alone : Nat → St
  | 0 => first 2
  | k + 1 => step 2 (alone k) 1
theorem alone_reach (k : Nat) : Reach 2 k (alone k) := by
  induction k with
  | zero => exact Reach.first 2 (by omega) (by omega)
  | succ k ih => exact ih.step 1
theorem alone_out (k : Nat) (h : k < 2) : (line 2 (alone (k + 1)) 1 == 4) = false := by
  obtain rfl | rfl := (by omega : k = 0 ∨ k = 1)
  all_goals decide
theorem alone_in : (line 2 (alone 3) 1 == 4) = true := by decide
theorem alone_zero : line 2 (alone 3) 0 = 1 := by decide

/-- All do a line in turn: behind t lines. -/
def turns (n : Nat) (s : St) : Nat → St
  | 0 => s
  | t + 1 => step n (turns n s t) ((t % n : Nat) : Int)
/-- Was hand q in, at one of t lines? -/
def was (n : Nat) (s : St) (q : Nat) : Nat → Bool
  | 0 => false
  | t + 1 => was n s q t || (t % n == q && isIn n (turns n s (t + 1)) q)
theorem was_of {n : Nat} {s : St} {q T t : Nat} (ht : t < T) (h1 : t % n = q) (h2 : isIn n (turns n s (t + 1)) q = true) : was n s q T = true := by
  induction T with
  | zero => omega
  | succ T ih =>
    unfold was
    by_cases e : t = T
    · subst e; simp [h1, h2]
    · rw [ih (by omega)]; rfl
theorem Reach.turns {n k : Nat} {s : St} (h : Reach n k s) (t : Nat) : Reach n (k + t) (turns n s t) := by
  induction t with
  | zero => exact h
  | succ t ih => exact ih.step _

theorem Reach.fine {n k : Nat} {s : St} (h : Reach n k s) {p : Nat} (hp : p < n) : 1 ≤ s.ln p ∧ s.ln p ≤ 5 := by
  obtain ⟨-, -, z, hz⟩ := h; exact hz.ln p hp

/-- How far hand p is from coming in. -/
def far (n p : Nat) (s : St) : Nat :=
  match s.q with
  | [] => if s.ln p = 2 then 3 * n else 3 * n + 1
  | g :: r => if g = p then (if s.ln p = 3 then 1 else if s.ln p = 5 then 3 * n + 2 else 3 * n + 3)
    else if p ∈ r then 3 * pos p r + (6 - s.ln g).toNat + 1
    else if s.ln p = 2 then 3 * n else 3 * n + 1
/-- Whose line brings it nearer. -/
def who (p : Nat) (s : St) : Nat :=
  match s.q with
  | [] => p
  | g :: r => if p ∈ r then g else p

theorem far_move {n : Nat} {s : St} {z : Int} (hz : Inv n s z) {p h : Nat} (hp : p < n) (hh : h < n) :
    (h = p ∧ isIn n (step n s (h : Int)) p = true) ∨ far n p (step n s (h : Int)) < far n p s ∨
      (far n p (step n s (h : Int)) = far n p s ∧ h ≠ who p s ∧ who p (step n s (h : Int)) = who p s) := by
  rw [step_nat s hh]
  have hlh := hz.ln h hh
  have hlp := hz.ln p hp
  have hmh := hz.mem h
  have hmp := hz.mem p
  have hnd := hz.nodup
  have hlen := nodup_len n s.q hz.nodup (fun g hg => ((hz.mem g).1 hg).1)
  have hhead := hz.head
  have hch := hz.chain
  have hfree := hz.free
  have hfirst := hz.first hh
  obtain ⟨wd, ln, mine, ahead, q⟩ := s
  simp only at hlh hlp hmh hmp hnd hlen hhead hch hfree hfirst
  simp only [isIn, line_nat _ hp]
  obtain e | e | e | e | e : ln h = 1 ∨ ln h = 2 ∨ ln h = 3 ∨ ln h = 4 ∨ ln h = 5 := by omega
  · -- line 1: to line 2
    have hq : h ∉ q := fun m => by have := hmh.1 m; omega
    simp only [stepN, e, if_true]
    by_cases c : h = p
    · subst c
      right; left
      cases q with
      | nil => simp [far, upd, e]
      | cons g r =>
        simp only [List.mem_cons, not_or] at hq
        simp [far, upd, e, hq.2, Ne.symm hq.1]
    · right; right
      have c' : p ≠ h := fun x => c x.symm
      cases q with
      | nil => simp [far, who, upd_other c', c]
      | cons g r =>
        simp only [List.mem_cons, not_or] at hq
        have hg : g ≠ h := fun x => hq.1 x.symm
        refine ⟨by simp [far, upd_other c', upd_other hg], ?_, rfl⟩
        simp only [who]; split
        · exact hq.1
        · exact c
  · -- line 2: into the row
    have hq : h ∉ q := fun m => by have := hmh.1 m; omega
    have hlen2 : q.length + 1 ≤ n := by
      have := nodup_len n (h :: q) (List.nodup_cons.2 ⟨hq, hnd⟩) (fun g hg => by
        rcases List.mem_cons.1 hg with rfl | hg
        · exact hh
        · exact ((hz.mem g).1 hg).1)
      simpa using this
    have h21 : ¬ ((2 : Int) = 1) := by omega
    simp only [stepN, e, h21, if_true, if_false]
    by_cases c : h = p
    · subst c
      right; left
      cases q with
      | nil => simp [far, upd, e]; omega
      | cons g r =>
        simp only [List.mem_cons, not_or] at hq
        have hg : g ≠ h := fun x => hq.1 x.symm
        have hg3 : 3 ≤ ln g := ((hz.mem g).1 (by simp)).2
        simp only [List.length_cons] at hlen2
        have hp1 := pos_last hq.2
        simp [far, upd_other hg, hg, e, hq.2, hp1]; omega
    · right; right
      have c' : p ≠ h := fun x => c x.symm
      cases q with
      | nil => simp [far, who, upd_other c', c]
      | cons g r =>
        simp only [List.mem_cons, not_or] at hq
        have hg : g ≠ h := fun x => hq.1 x.symm
        have hm : (p ∈ r ++ [h]) ↔ p ∈ r := by simp [c']
        refine ⟨?_, ?_, ?_⟩
        · simp only [far, List.cons_append, upd_other c', upd_other hg, hm]
          by_cases hgp : g = p
          · simp [hgp]
          · simp only [hgp, if_false]
            by_cases hpr : p ∈ r
            · simp only [hpr, if_true, pos_append hpr]
            · simp only [hpr, if_false]
        · simp only [who]; split
          · exact hq.1
          · exact c
        · simp only [who, List.cons_append, hm]
  · -- line 3: in, or it waits
    have h31 : ¬ ((3 : Int) = 1) := by omega
    have h32 : ¬ ((3 : Int) = 2) := by omega
    by_cases h0 : wd (1 + (ahead h).toNat) = 0
    · have hhd := hfirst e h0
      obtain ⟨r, rfl⟩ : ∃ r, q = h :: r := by
        cases q with
        | nil => simp at hhd
        | cons a r => simp at hhd; subst hhd; exact ⟨r, rfl⟩
      simp only [stepN, e, h31, h32, h0, if_true, if_false]
      by_cases c : h = p
      · left; subst c; exact ⟨rfl, by simp [upd]⟩
      · have c' : p ≠ h := fun x => c x.symm
        by_cases hpr : p ∈ r
        · right; left
          simp [far, c, hpr, upd_same, e]
        · right; right
          refine ⟨by simp [far, c, hpr, upd_other c'], by simp [who, hpr, c], by simp [who]⟩
    · simp only [stepN, e, h31, h32, h0, if_false]
      right; right
      have hmem := hmh.2 ⟨hh, by omega⟩
      refine ⟨rfl, ?_, rfl⟩
      cases q with
      | nil => simp at hmem
      | cons g r =>
        have hgh : h ≠ g := by
          intro x
          subst x
          have : ahead h = z := hch.1
          rw [this] at h0
          exact h0 hfree
        simp only [who]; split
        · exact hgh
        · rename_i hpr
          intro x
          subst x
          rcases List.mem_cons.1 hmem with x | x
          · exact hgh x
          · exact hpr x
  · -- line 4
    have h41 : ¬ ((4 : Int) = 1) := by omega
    have h42 : ¬ ((4 : Int) = 2) := by omega
    have h43 : ¬ ((4 : Int) = 3) := by omega
    have hhd := hhead h hh (by omega)
    obtain ⟨r, rfl⟩ : ∃ r, q = h :: r := by
      cases q with
      | nil => simp at hhd
      | cons a r => simp at hhd; subst hhd; exact ⟨r, rfl⟩
    simp only [stepN, e, h41, h42, h43, if_true, if_false]
    by_cases c : h = p
    · right; left; subst c; simp [far, upd_same, e]
    · have c' : p ≠ h := fun x => c x.symm
      by_cases hpr : p ∈ r
      · right; left
        simp [far, c, hpr, upd_same, e]
      · right; right
        refine ⟨by simp [far, c, hpr, upd_other c'], by simp [who, hpr, c], by simp [who]⟩
  · -- line 5: out of the row
    have h51 : ¬ ((5 : Int) = 1) := by omega
    have h52 : ¬ ((5 : Int) = 2) := by omega
    have h53 : ¬ ((5 : Int) = 3) := by omega
    have h54 : ¬ ((5 : Int) = 4) := by omega
    have hhd := hhead h hh (by omega)
    obtain ⟨r, rfl⟩ : ∃ r, q = h :: r := by
      cases q with
      | nil => simp at hhd
      | cons a r => simp at hhd; subst hhd; exact ⟨r, rfl⟩
    have hr3 : ∀ g, g ∈ r → g ≠ h ∧ ln g = 3 := by
      intro g hg
      have hne : g ≠ h := fun x => (List.nodup_cons.1 hnd).1 (x ▸ hg)
      have hg' := (hz.mem g).1 (by simp [hg])
      have hg'' := hz.ln g hg'.1
      refine ⟨hne, ?_⟩
      have : ¬ 4 ≤ ln g := fun x => by
        have := hhead g hg'.1 x
        simp at this
        exact hne this.symm
      simp only at hg' hg''
      omega
    simp only [stepN, e, h51, h52, h53, h54, if_false, List.tail_cons]
    by_cases c : h = p
    · right; left
      subst c
      have hnr := (List.nodup_cons.1 hnd).1
      cases r with
      | nil => simp [far, upd_same, e]
      | cons g r' =>
        have hg := hr3 g (by simp)
        simp only [List.mem_cons, not_or] at hnr
        simp [far, upd_same, e, hg.1, hnr.2]
    · have c' : p ≠ h := fun x => c x.symm
      cases r with
      | nil =>
        right; right
        simp [far, who, c, upd_other c']
      | cons g r' =>
        have hg := hr3 g (by simp)
        by_cases hgp : g = p
        · right; left
          subst hgp
          simp [far, c, pos, upd_other hg.1, hg.2, e]
        · by_cases hpr : p ∈ r'
          · right; left
            simp [far, c, hgp, hpr, pos, upd_other hg.1, hg.2, e]; omega
          · right; right
            have hpg : p ≠ g := fun x => hgp x.symm
            refine ⟨by simp [far, c, hgp, hpg, hpr, upd_other c'], by simp [who, hpg, hpr, c], by simp [who, hpg, hpr]⟩

theorem far_bd {n p : Nat} {s : St} {z : Int} (hz : Inv n s z) (hn : n ≤ 4) : far n p s < 60 := by
  have hlen := nodup_len n s.q hz.nodup (fun g hg => ((hz.mem g).1 hg).1)
  have hm := hz.mem
  unfold far
  cases hq : s.q with
  | nil => simp only; split <;> omega
  | cons g r =>
    rw [hq] at hlen
    have hg := (hm g).1 (by rw [hq]; simp)
    simp only [List.length_cons] at hlen ⊢
    split
    · split
      · omega
      · split <;> omega
    · split
      · rename_i h
        have := pos_lt h
        omega
      · split <;> omega
theorem who_lt {n p : Nat} {s : St} {z : Int} (hz : Inv n s z) (hp : p < n) : who p s < n := by
  unfold who
  cases hq : s.q with
  | nil => exact hp
  | cons g r =>
    simp only
    split
    · exact ((hz.mem g).1 (by rw [hq]; simp)).1
    · exact hp
theorem Reach.goes {n k : Nat} {s : St} (h : Reach n k s) (q : Nat) (hq : q < n) : was n s q (60 * n) = true := by
  obtain ⟨h1, h4, z, hz⟩ := h
  obtain ⟨t, ht, e1, e2⟩ := live hq (fun s h => Clh.step n s (h : Int)) (Clh.turns n) (fun _ => rfl) (fun _ _ => rfl)
    (fun s => ∃ z, Inv n s z) (fun s => isIn n s q) (far n q) (who q)
    (fun s h ⟨z, hs⟩ hh => by rw [step_nat s hh]; exact hs.step hh) (fun s ⟨z, hs⟩ => who_lt hs hq)
    (fun s h ⟨z, hs⟩ hh => far_move hs hq hh) 60 s ⟨z, hz⟩ (far_bd hz h4)
  exact was_of ht e1 e2

/-- Who stands in line and is not in. -/
def row (s : St) : List Nat :=
  match s.q with
  | [] => []
  | g :: r => if 4 ≤ s.ln g then r else g :: r
/-- What a line does to the row. -/
theorem row_step {n k : Nat} {s : St} (h : Reach n k s) {p : Nat} (hp : p < n) :
    (s.ln p = 2 → row (stepN s p) = row s ++ [p] ∧ (stepN s p).ln p = 3) ∧
    (s.ln p ≠ 2 → s.ln p ≠ 4 → (stepN s p).ln p = 4 → row s = p :: row (stepN s p)) ∧
    (s.ln p ≠ 2 → ¬ (s.ln p ≠ 4 ∧ (stepN s p).ln p = 4) → row (stepN s p) = row s) := by
  obtain ⟨-, -, z, hz⟩ := h
  have hlp := hz.ln p hp
  have hmp := hz.mem p
  have hnd := hz.nodup
  have hhead := hz.head
  have hfirst := hz.first hp
  obtain ⟨wd, ln, mine, ahead, q⟩ := s
  simp only at hlp hmp hnd hhead hfirst
  have hcase : ln p = 1 ∨ ln p = 2 ∨ (ln p = 3 ∧ wd (1 + (ahead p).toNat) = 0) ∨ (ln p = 3 ∧ wd (1 + (ahead p).toNat) ≠ 0) ∨ ln p = 4 ∨ ln p = 5 := by
    by_cases h0 : wd (1 + (ahead p).toNat) = 0 <;> omega
  have hhd : ∀ r, q.head? = some p → q = p :: r ∨ ∃ r', q = p :: r' := by
    intro r h
    right
    cases q with
    | nil => simp at h
    | cons a r => simp at h; subst h; exact ⟨r, rfl⟩
  rcases hcase with e | e | ⟨e, h0⟩ | ⟨e, h0⟩ | e | e
  · have hst : stepN ⟨wd, ln, mine, ahead, q⟩ p = ⟨upd wd (1 + (mine p).toNat) 1, upd ln p 2, mine, ahead, q⟩ := by simp [stepN, e]
    rw [hst]
    have hq : p ∉ q := fun m => by have := hmp.1 m; omega
    refine ⟨fun x => absurd (show ln p = 2 from x) (by omega), fun _ _ x => absurd (show upd ln p 2 p = 4 from x) (by rw [upd_same]; omega), fun _ _ => ?_⟩
    cases q with
    | nil => rfl
    | cons g r =>
      have hg : g ≠ p := fun x => hq (by simp [x])
      simp only [row, upd_other hg]
  · have hst : stepN ⟨wd, ln, mine, ahead, q⟩ p = ⟨upd wd 0 (mine p), upd ln p 3, mine, upd ahead p (wd 0), q ++ [p]⟩ := by simp [stepN, e]
    rw [hst]
    have hq : p ∉ q := fun m => by have := hmp.1 m; omega
    refine ⟨fun _ => ⟨?_, upd_same ln p 3⟩, fun x => absurd e x, fun x => absurd e x⟩
    cases q with
    | nil => simp [row, upd]
    | cons g r =>
      have hg : g ≠ p := fun x => hq (by simp [x])
      simp only [row, List.cons_append, upd_other hg]
      split <;> simp
  · have hst : stepN ⟨wd, ln, mine, ahead, q⟩ p = ⟨wd, upd ln p 4, mine, ahead, q⟩ := by simp [stepN, e, h0]
    rw [hst]
    obtain h | ⟨r, rfl⟩ := hhd [] (hfirst e h0)
    · subst h
      refine ⟨fun x => absurd (show ln p = 2 from x) (by omega), fun _ _ _ => by simp [row, upd_same, e], fun _ x => absurd ⟨fun y => absurd (show ln p = 4 from y) (by omega), upd_same ln p 4⟩ x⟩
    · refine ⟨fun x => absurd (show ln p = 2 from x) (by omega), fun _ _ _ => by simp [row, upd_same, e], fun _ x => absurd ⟨fun y => absurd (show ln p = 4 from y) (by omega), upd_same ln p 4⟩ x⟩
  · have hst : stepN ⟨wd, ln, mine, ahead, q⟩ p = ⟨wd, ln, mine, ahead, q⟩ := by simp [stepN, e, h0]
    rw [hst]
    exact ⟨fun x => absurd (show ln p = 2 from x) (by omega), fun _ _ x => absurd (show ln p = 4 from x) (by omega), fun _ _ => rfl⟩
  · have hst : stepN ⟨wd, ln, mine, ahead, q⟩ p = ⟨wd, upd ln p 5, mine, ahead, q⟩ := by simp [stepN, e]
    rw [hst]
    refine ⟨fun x => absurd (show ln p = 2 from x) (by omega), fun _ x => absurd e x, fun _ _ => ?_⟩
    obtain h | ⟨r, rfl⟩ := hhd [] (hhead p hp (by omega))
    · subst h; simp [row, upd_same, e]
    · simp [row, upd_same, e]
  · have hst : stepN ⟨wd, ln, mine, ahead, q⟩ p = ⟨upd wd (1 + (mine p).toNat) 0, upd ln p 1, upd mine p (ahead p), upd ahead p 0, q.tail⟩ := by simp [stepN, e]
    rw [hst]
    refine ⟨fun x => absurd (show ln p = 2 from x) (by omega), fun _ _ x => absurd (show upd ln p 1 p = 4 from x) (by rw [upd_same]; omega), fun _ _ => ?_⟩
    obtain ⟨r, rfl⟩ : ∃ r, q = p :: r := by
      rcases hhd [] (hhead p hp (by omega)) with h | h
      · exact ⟨[], h⟩
      · exact h
    cases r with
    | nil => simp [row, e]
    | cons g r' =>
      have hne : g ≠ p := fun x => (List.nodup_cons.1 hnd).1 (by simp [x])
      have hg' := (hz.mem g).1 (by simp)
      have hn4 : ¬ 4 ≤ ln g := fun x => by
        have := hhead g hg'.1 x
        simp at this
        exact hne this.symm
      simp [row, e, upd_other hne, hn4]

theorem row_rule {n k : Nat} {s : St} (h : Reach n k s) {p : Nat} (hp : p < n) :
    (s.ln p = 2 ∧ (stepN s p).ln p ≠ 4 ∧ row (stepN s p) = row s ++ [p]) ∨
    (s.ln p ≠ 2 ∧ s.ln p ≠ 4 ∧ (stepN s p).ln p = 4 ∧ row s = p :: row (stepN s p)) ∨
    (s.ln p ≠ 2 ∧ (s.ln p = 4 ∨ (stepN s p).ln p ≠ 4) ∧ row (stepN s p) = row s) := by
  obtain ⟨h1, h2, h3⟩ := row_step h hp
  by_cases e : s.ln p = 2
  · have := h1 e
    exact .inl ⟨e, by omega, this.1⟩
  · by_cases e4 : s.ln p = 4
    · exact .inr (.inr ⟨e, .inl e4, h3 e (fun x => x.1 e4)⟩)
    · by_cases e5 : (stepN s p).ln p = 4
      · exact .inr (.inl ⟨e, e4, e5, h2 e e4 e5⟩)
      · exact .inr (.inr ⟨e, .inr e5, h3 e (fun x => e5 x.2)⟩)
theorem row_len {n k : Nat} {s : St} (h : Reach n k s) : (row s).length ≤ 4 := by
  obtain ⟨-, h4, z, hz⟩ := h
  have hlen := nodup_len n s.q hz.nodup (fun g hg => ((hz.mem g).1 hg).1)
  unfold row
  cases hq : s.q with
  | nil => simp
  | cons g r =>
    rw [hq] at hlen
    simp only [List.length_cons] at hlen
    simp only
    split <;> simp <;> omega

/-- The tail is a place. -/
theorem Chain.tail {s : St} {n : Nat} (hm : ∀ g, g < n → 0 ≤ s.mine g ∧ s.mine g ≤ n) : ∀ {l : List Nat} {z : Int}, Chain s z l → (∀ g, g ∈ l → g < n) → 0 ≤ z → z ≤ n → 0 ≤ s.wd 0 ∧ s.wd 0 ≤ n := by
  intro l
  induction l with
  | nil => intro z h _ h0 h1; have : s.wd 0 = z := h; omega
  | cons g r ih => intro z h hl _ _; exact ih h.2 (fun x hx => hl x (by simp [hx])) (hm g (hl g (by simp))).1 (hm g (hl g (by simp))).2
theorem Reach.places {n k : Nat} {s : St} (h : Reach n k s) : (0 ≤ s.wd 0 ∧ s.wd 0 ≤ n) ∧ sumTo (fun k => s.wd (1 + k)) (n + 1) = cnt (fun h => decide (2 ≤ s.ln h)) n := by
  obtain ⟨-, -, z, hz⟩ := h
  exact ⟨hz.chain.tail (fun g hg => ⟨(hz.mine g hg).1, (hz.mine g hg).2.1⟩) (fun g hg => ((hz.mem g).1 hg).1) hz.z0.1 hz.z0.2, hz.sum⟩
theorem Reach.bit {n k : Nat} {s : St} (h : Reach n k s) : ∀ k, k ≤ n → 0 ≤ s.wd (1 + k) ∧ s.wd (1 + k) ≤ 1 := by
  obtain ⟨-, -, z, hz⟩ := h
  exact fun k _ => hz.bit k
/-- All words are small. -/
theorem Reach.small {n k : Nat} {s : St} (h : Reach n k s) : (∀ g, g < n → 0 ≤ s.mine g ∧ s.mine g ≤ n) ∧ (∀ g, g < n → 3 ≤ s.ln g → 0 ≤ s.ahead g ∧ s.ahead g ≤ n) := by
  obtain ⟨-, -, z, hz⟩ := h
  refine ⟨fun g hg => ⟨(hz.mine g hg).1, (hz.mine g hg).2.1⟩, ?_⟩
  have key : ∀ (l : List Nat) (z : Int), Chain s z l → (∀ g, g ∈ l → g < n) → 0 ≤ z → z ≤ n → ∀ g, g ∈ l → 0 ≤ s.ahead g ∧ s.ahead g ≤ n := by
    intro l
    induction l with
    | nil => intro z _ _ _ _ g hg; simp at hg
    | cons a r ih =>
      intro z h hl h0 h1 g hg
      rcases List.mem_cons.1 hg with rfl | hg
      · have := h.1; omega
      · have ha := hz.mine a (hl a (by simp))
        exact ih _ h.2 (fun x hx => hl x (by simp [hx])) ha.1 ha.2.1 g hg
  exact fun g hg h3 => key s.q z hz.chain (fun g hg => ((hz.mem g).1 hg).1) hz.z0.1 hz.z0.2 g ((hz.mem g).2 ⟨hg, h3⟩)
end Go.Proofs.YtgkfgijmccojjaaDoor.Clh
