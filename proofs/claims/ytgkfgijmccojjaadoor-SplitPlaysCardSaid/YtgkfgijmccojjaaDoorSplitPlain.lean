import Derived.Test.YtgkfgijmccojjaaDoorKit
namespace Go.Proofs.YtgkfgijmccojjaaDoor.Split
set_option linter.unusedVariables false

/-- The grid. xw, yw: X and Y of each place; ln, row, col: of each hand its line and where it stands; did: how many lines it did (of the law alone). -/
structure St where
  xw : Nat → Int
  yw : Nat → Int
  ln : Nat → Int
  row : Nat → Int
  col : Nat → Int
  did : Nat → Int

def first (_ : Nat) : St := { xw := fun _ => 0, yw := fun _ => 0, ln := fun _ => 1, row := fun _ => 0, col := fun _ => 0, did := fun _ => 0 }
/-- The number of a place. -/
def pl (r c : Int) : Nat := ((r + c) * (r + c + 1) / 2 + r).toNat

def stepN (s : St) (p : Nat) : St :=
  if s.ln p = 1 then { s with xw := upd s.xw (pl (s.row p) (s.col p)) (p + 1), ln := upd s.ln p 2, did := upd s.did p (s.did p + 1) }
  else if s.ln p = 2 then
    (if s.yw (pl (s.row p) (s.col p)) = 1 then { s with ln := upd s.ln p 1, col := upd s.col p (s.col p + 1), did := upd s.did p (s.did p + 1) }
     else { s with ln := upd s.ln p 3, did := upd s.did p (s.did p + 1) })
  else if s.ln p = 3 then { s with yw := upd s.yw (pl (s.row p) (s.col p)) 1, ln := upd s.ln p 4, did := upd s.did p (s.did p + 1) }
  else if s.ln p = 4 then
    (if s.xw (pl (s.row p) (s.col p)) = p + 1 then { s with ln := upd s.ln p 5, did := upd s.did p (s.did p + 1) }
     else { s with ln := upd s.ln p 1, row := upd s.row p (s.row p + 1), did := upd s.did p (s.did p + 1) })
  else { s with did := upd s.did p (s.did p + 1) }

def step (n : Nat) (s : St) (p : Int) : St := if 0 ≤ p ∧ p < n then stepN s p.toNat else s
def line (n : Nat) (s : St) (p : Int) : Int := if 0 ≤ p ∧ p < n then s.ln p.toNat else 0
def name (n : Nat) (s : St) (p : Int) : Int := if line n s p = 5 then (pl (s.row p.toNat) (s.col p.toNat) : Int) else -1

theorem pl_table : ∀ a b c d : Fin 4, a.val + b.val ≤ 3 → c.val + d.val ≤ 3 → pl (a.val : Nat) (b.val : Nat) = pl (c.val : Nat) (d.val : Nat) → a.val = c.val ∧ b.val = d.val := by decide
theorem pl_inj {a b c d : Nat} (h1 : a + b ≤ 3) (h2 : c + d ≤ 3) (h : pl a b = pl c d) : a = c ∧ b = d :=
  pl_table ⟨a, by omega⟩ ⟨b, by omega⟩ ⟨c, by omega⟩ ⟨d, by omega⟩ h1 h2 h
theorem pl_less : ∀ (k : Fin 5) (a b : Fin 4), a.val + b.val + 1 ≤ k.val → pl (a.val : Nat) (b.val : Nat) < k.val * (k.val + 1) / 2 := by decide
theorem pl_low (k : Nat) (hk : k < 5) (a : Nat) (ha : a < 4) (b : Nat) (hb : b < 4) (h : a + b + 1 ≤ k) : pl (a : Nat) (b : Nat) < k * (k + 1) / 2 := pl_less ⟨k, hk⟩ ⟨a, ha⟩ ⟨b, hb⟩ h

/-- Somebody stays in a row, at a column or behind it; or in a column. -/
def P (n : Nat) (s : St) (i j : Nat) : Prop := ∃ q, q < n ∧ 1 ≤ s.did q ∧ s.row q = i ∧ (j : Int) ≤ s.col q
def Q (n : Nat) (s : St) (i j : Nat) : Prop := ∃ q, q < n ∧ 1 ≤ s.did q ∧ s.col q = j ∧ (i : Int) ≤ s.row q
/-- A way to a place, on which somebody stayed behind at each step. -/
inductive Way (n : Nat) (s : St) : Nat → Nat → Prop
  | start : Way n s 0 0
  | down {i j : Nat} (h : Way n s i j) (p : P n s i j) : Way n s (i + 1) j
  | right {i j : Nat} (h : Way n s i j) (q : Q n s i j) : Way n s i (j + 1)

structure Inv (n : Nat) (s : St) : Prop where
  ln : ∀ h, h < n → 1 ≤ s.ln h ∧ s.ln h ≤ 5
  pos : ∀ h, h < n → 0 ≤ s.row h ∧ 0 ≤ s.col h ∧ 0 ≤ s.did h
  idle : ∀ h, h < n → s.did h = 0 → s.ln h = 1 ∧ s.row h = 0 ∧ s.col h = 0
  way : ∀ h, h < n → Way n s (s.row h).toNat (s.col h).toNat
  xz : ∀ i j : Nat, i + j ≤ 3 → s.xw (pl i j) = 0 ∨ ∃ q : Nat, q < n ∧ s.xw (pl i j) = q + 1 ∧ 1 ≤ s.did q ∧ ((s.row q = i ∧ (j : Int) ≤ s.col q) ∨ ∃ u, u < n ∧ 1 ≤ s.did u ∧ s.row u = i ∧ (j : Int) < s.col u)
  xn : ∀ h, h < n → 2 ≤ s.ln h → s.xw (pl (s.row h) (s.col h)) ≠ 0
  y : ∀ i j : Nat, i + j ≤ 3 → s.yw (pl i j) = 1 → ∃ u, u < n ∧ 1 ≤ s.did u ∧ s.col u = j ∧ ((s.row u = i ∧ 4 ≤ s.ln u) ∨ (i : Int) < s.row u)
  y5 : ∀ h, h < n → 4 ≤ s.ln h → s.yw (pl (s.row h) (s.col h)) = 1
  s1 : ∀ a b : Nat, a < n → b < n → a ≠ b → s.row a = s.row b → s.col a = s.col b → s.ln a = 5 → (s.ln b = 3 ∨ s.ln b = 4 → s.xw (pl (s.row b) (s.col b)) ≠ b + 1) ∧ s.ln b ≠ 5
  dd : ∀ h, h < n → s.ln h ≠ 5 → s.did h ≤ 4 * (s.row h + s.col h) + s.ln h - 1

/-- What every state that a script reaches is. -/
def Reach (n _k : Nat) (s : St) : Prop := 1 ≤ n ∧ n ≤ 4 ∧ Inv n s

theorem Reach.first (n : Nat) (h1 : 1 ≤ n) (h4 : n ≤ 4) : Reach n 0 (Split.first n) := by
  refine ⟨h1, h4, ?_⟩
  exact { ln := fun h _ => by simp [Split.first], pos := fun h _ => by simp [Split.first], idle := fun h _ _ => by simp [Split.first], way := fun h _ => by simp only [Split.first, Int.toNat_zero]; exact .start, xz := fun i j _ => .inl rfl, xn := fun h _ x => by simp [Split.first] at x, y := fun i j _ x => by simp [Split.first] at x, y5 := fun h _ x => by simp [Split.first] at x, s1 := fun a b _ _ _ _ _ x => by simp [Split.first] at x, dd := fun h _ _ => by simp [Split.first] }

def many (n : Nat) (s : St) : Int := cnt (fun h => decide (1 ≤ s.did h)) n
/-- Who can come to a place: for each step on the way one less. -/
theorem Way.bound {n : Nat} {s : St} {i j : Nat} (h : Way n s i j) : cnt (fun h => decide (1 ≤ s.did h) && decide ((i : Int) ≤ s.row h) && decide ((j : Int) ≤ s.col h)) n + i + j ≤ many n s := by
  induction h with
  | start =>
    have := cnt_le (f := fun h => decide (1 ≤ s.did h) && decide (((0 : Nat) : Int) ≤ s.row h) && decide (((0 : Nat) : Int) ≤ s.col h)) (g := fun h => decide (1 ≤ s.did h)) (n := n) (fun i _ x => by
      simp only [Bool.and_eq_true] at x; exact x.1.1)
    unfold many; omega
  | down h p ih =>
    rename_i i j
    obtain ⟨q, q1, q2, q3, q4⟩ := p
    have := cnt_lt (f := fun h => decide (1 ≤ s.did h) && decide (((i + 1 : Nat) : Int) ≤ s.row h) && decide ((j : Int) ≤ s.col h)) (g := fun h => decide (1 ≤ s.did h) && decide ((i : Int) ≤ s.row h) && decide ((j : Int) ≤ s.col h)) (n := n) (v := q) q1
      (by simp only [Bool.and_eq_false_iff, decide_eq_false_iff_not]; left; right; omega) (by simp only [Bool.and_eq_true, decide_eq_true_eq]; omega) (fun g _ x => by simp only [Bool.and_eq_true, decide_eq_true_eq] at x ⊢; omega)
    omega
  | right h p ih =>
    rename_i i j
    obtain ⟨q, q1, q2, q3, q4⟩ := p
    have := cnt_lt (f := fun h => decide (1 ≤ s.did h) && decide ((i : Int) ≤ s.row h) && decide (((j + 1 : Nat) : Int) ≤ s.col h)) (g := fun h => decide (1 ≤ s.did h) && decide ((i : Int) ≤ s.row h) && decide ((j : Int) ≤ s.col h)) (n := n) (v := q) q1
      (by simp only [Bool.and_eq_false_iff, decide_eq_false_iff_not]; right; omega) (by simp only [Bool.and_eq_true, decide_eq_true_eq]; omega) (fun g _ x => by simp only [Bool.and_eq_true, decide_eq_true_eq] at x ⊢; omega)
    omega
theorem many_bd (n : Nat) (s : St) : 0 ≤ many n s ∧ many n s ≤ n := cnt_bd _ n
theorem Inv.depth {n : Nat} {s : St} (h : Inv n s) {p : Nat} (hp : p < n) (hd : 1 ≤ s.did p) : s.row p + s.col p + 1 ≤ many n s := by
  have hb := (h.way p hp).bound
  have hpos := h.pos p hp
  have := cnt_pos (f := fun h => decide (1 ≤ s.did h) && decide (((s.row p).toNat : Int) ≤ s.row h) && decide (((s.col p).toNat : Int) ≤ s.col h)) (n := n) hp (by simp only [Bool.and_eq_true, decide_eq_true_eq]; omega)
  omega
theorem Inv.deep {n : Nat} {s : St} (h : Inv n s) (h4 : n ≤ 4) {p : Nat} (hp : p < n) : ∃ i j : Nat, s.row p = i ∧ s.col p = j ∧ i + j ≤ 3 := by
  have hpos := h.pos p hp
  refine ⟨(s.row p).toNat, (s.col p).toNat, by omega, by omega, ?_⟩
  by_cases hd : 1 ≤ s.did p
  · have := h.depth hp hd
    have := (many_bd n s).2
    omega
  · have := h.idle p hp (by omega); omega

/-- What a line of p leaves as it was: all but p; and p goes on by one line. -/
structure Rest (n : Nat) (s t : St) (p : Nat) : Prop where
  ln : ∀ g, g ≠ p → t.ln g = s.ln g
  row : ∀ g, g ≠ p → t.row g = s.row g
  col : ∀ g, g ≠ p → t.col g = s.col g
  did : ∀ g, g ≠ p → t.did g = s.did g
  did1 : t.did p = s.did p + 1

/-- The ways stay. -/
theorem Way.keep {n : Nat} {s t : St} (hP : ∀ i j, P n s i j → P n t i j) (hQ : ∀ i j, Q n s i j → Q n t i j) {i j : Nat} (h : Way n s i j) : Way n t i j := by
  induction h with
  | start => exact .start
  | down _ p ih => exact .down ih (hP _ _ p)
  | right _ q ih => exact .right ih (hQ _ _ q)

/-- Lines by which p does not go to another place. -/
theorem Inv.calm {n : Nat} {s t : St} (h : Inv n s) (h4 : n ≤ 4) {p : Nat} (hp : p < n) (R : Rest n s t p) (hr : t.row p = s.row p) (hc : t.col p = s.col p)
    (hl : 1 ≤ t.ln p ∧ t.ln p ≤ 5) (hl4 : 4 ≤ s.ln p → 4 ≤ t.ln p) (hx : (∀ k, t.xw k = s.xw k) ∨ (s.ln p = 1 ∧ t.ln p = 2 ∧ t.xw = upd s.xw (pl (s.row p) (s.col p)) (p + 1)))
    (hy : (∀ k, t.yw k = s.yw k) ∨ (t.ln p = 4 ∧ t.yw = upd s.yw (pl (s.row p) (s.col p)) 1)) (hxn : 2 ≤ t.ln p → 2 ≤ s.ln p ∨ t.xw (pl (s.row p) (s.col p)) = p + 1)
    (hy4 : 4 ≤ t.ln p → t.yw (pl (s.row p) (s.col p)) = 1) (hdd : t.ln p ≠ 5 → s.ln p + 1 ≤ t.ln p ∧ s.ln p ≠ 5)
    (h5 : t.ln p = 5 → s.ln p = 5 ∨ (s.ln p = 4 ∧ s.xw (pl (s.row p) (s.col p)) = p + 1)) (h3 : t.ln p = 3 → s.yw (pl (s.row p) (s.col p)) ≠ 1 ) (h34 : t.ln p = 4 → s.ln p = 3) : Inv n t := by
  obtain ⟨i0, j0, e1, e2, e3⟩ := h.deep h4 hp
  have hdid : ∀ g, s.did g ≤ t.did g := fun g => by
    by_cases c : g = p
    · subst c; rw [R.did1]; omega
    · rw [R.did g c]; exact Int.le_refl _
  have hrow : ∀ g, t.row g = s.row g := fun g => by
    by_cases c : g = p
    · subst c; exact hr
    · exact R.row g c
  have hcol : ∀ g, t.col g = s.col g := fun g => by
    by_cases c : g = p
    · subst c; exact hc
    · exact R.col g c
  have hd1 := h.pos p hp
  have xany : ∀ k, t.xw k = s.xw k ∨ (k = pl (s.row p) (s.col p) ∧ t.xw k = p + 1 ∧ s.ln p = 1 ∧ t.ln p = 2) := fun k => by
    rcases hx with x | ⟨a, b, x⟩
    · exact .inl (x k)
    · by_cases c : k = pl (s.row p) (s.col p)
      · subst c; exact .inr ⟨rfl, by rw [x, upd_same], a, b⟩
      · exact .inl (by rw [x, upd_other c])
  have yany : ∀ k, t.yw k = s.yw k ∨ (k = pl (s.row p) (s.col p) ∧ t.yw k = 1 ∧ t.ln p = 4) := fun k => by
    rcases hy with x | ⟨a, x⟩
    · exact .inl (x k)
    · by_cases c : k = pl (s.row p) (s.col p)
      · subst c; exact .inr ⟨rfl, by rw [x, upd_same], a⟩
      · exact .inl (by rw [x, upd_other c])
  exact {
    ln := fun g hg => by
      by_cases c : g = p
      · subst c; exact hl
      · rw [R.ln g c]; exact h.ln g hg
    pos := fun g hg => by
      have a := h.pos g hg
      have b := hdid g
      rw [hrow, hcol]; omega
    idle := fun g hg x => by
      have a := h.pos g hg
      by_cases c : g = p
      · subst c; rw [R.did1] at x; omega
      · rw [R.ln g c, hrow, hcol]; rw [R.did g c] at x; exact h.idle g hg x
    way := fun g hg => by
      rw [hrow, hcol]
      exact (h.way g hg).keep (fun i j ⟨q, a, b, c, d⟩ => ⟨q, a, by have := hdid q; omega, by rw [hrow]; exact c, by rw [hcol]; exact d⟩) (fun i j ⟨q, a, b, c, d⟩ => ⟨q, a, by have := hdid q; omega, by rw [hcol]; exact c, by rw [hrow]; exact d⟩)
    xz := fun i j hij => by
      rcases xany (pl i j) with x | ⟨x, y, -, -⟩
      · rw [x]
        rcases h.xz i j hij with a | ⟨q, a, b, c, d⟩
        · exact .inl a
        · refine .inr ⟨q, a, b, by have := hdid q; omega, ?_⟩
          rcases d with ⟨d1, d2⟩ | ⟨u, u1, u2, u3, u4⟩
          · exact .inl ⟨by rw [hrow]; exact d1, by rw [hcol]; exact d2⟩
          · exact .inr ⟨u, u1, by have := hdid u; omega, by rw [hrow]; exact u3, by rw [hcol]; exact u4⟩
      · rw [e1, e2] at x
        obtain ⟨a, b⟩ := pl_inj hij e3 x
        refine .inr ⟨p, hp, y, by rw [R.did1]; omega, .inl ⟨by rw [hrow]; omega, by rw [hcol]; omega⟩⟩
    xn := fun g hg x => by
      rw [hrow, hcol]
      by_cases c : g = p
      · subst c
        rcases hxn x with y | y
        · rcases xany (pl (s.row g) (s.col g)) with z | ⟨-, z, -, -⟩
          · rw [z]; exact h.xn g hg y
          · rw [z]; omega
        · rw [y]; omega
      · rw [R.ln g c] at x
        rcases xany (pl (s.row g) (s.col g)) with z | ⟨-, z, -, -⟩
        · rw [z]; exact h.xn g hg x
        · rw [z]; omega
    y := fun i j hij x => by
      rcases yany (pl i j) with z | ⟨z, -, z4⟩
      · rw [z] at x
        obtain ⟨u, u1, u2, u3, u4⟩ := h.y i j hij x
        refine ⟨u, u1, by have := hdid u; omega, by rw [hcol]; exact u3, ?_⟩
        rw [hrow]
        rcases u4 with ⟨a, b⟩ | a
        · left; refine ⟨a, ?_⟩
          by_cases c : u = p
          · subst c; exact hl4 b
          · rw [R.ln u c]; exact b
        · exact .inr a
      · rw [e1, e2] at z
        obtain ⟨a, b⟩ := pl_inj hij e3 z
        exact ⟨p, hp, by rw [R.did1]; omega, by rw [hcol]; omega, .inl ⟨by rw [hrow]; omega, by omega⟩⟩
    y5 := fun g hg x => by
      rw [hrow, hcol]
      by_cases c : g = p
      · subst c; exact hy4 x
      · rw [R.ln g c] at x
        rcases yany (pl (s.row g) (s.col g)) with z | ⟨-, z, -⟩
        · rw [z]; exact h.y5 g hg x
        · exact z
    s1 := fun a b ha hb hab er ec e5 => by
      rw [hrow, hrow] at er
      rw [hcol, hcol] at ec
      rw [hrow, hcol]
      by_cases ca : a = p
      · subst ca
        have cb : b ≠ a := fun e => hab e.symm
        rw [R.ln b cb]
        have hxs : t.xw (pl (s.row b) (s.col b)) = s.xw (pl (s.row b) (s.col b)) := by
          rcases xany (pl (s.row b) (s.col b)) with z | ⟨-, -, -, z⟩
          · exact z
          · omega
        rw [hxs]
        rcases h5 e5 with y | ⟨y1, y2⟩
        · exact h.s1 a b ha hb hab er ec y
        · rw [er, ec] at y2
          refine ⟨fun _ => by rw [y2]; omega, fun z => ?_⟩
          have := (h.s1 b a hb ha cb er.symm ec.symm z).1 (.inr y1)
          rw [er, ec] at this; exact this y2
      · by_cases cb : b = p
        · subst cb
          rw [R.ln a ca] at e5
          have old := h.s1 a b ha hb hab er ec e5
          have y1 := h.y5 a ha (by omega)
          rw [er, ec] at y1
          have hxs : t.ln b ≠ 2 → t.xw (pl (s.row b) (s.col b)) = s.xw (pl (s.row b) (s.col b)) := fun z0 => by
            rcases xany (pl (s.row b) (s.col b)) with z | ⟨-, -, -, z⟩
            · exact z
            · exact absurd z z0
          refine ⟨fun z => ?_, fun z => ?_⟩
          · rw [hxs (by omega)]
            rcases z with z | z
            · exact absurd y1 (h3 z)
            · exact old.1 (.inl (h34 z))
          · rcases h5 z with y | ⟨y2, y3⟩
            · exact old.2 y
            · exact old.1 (.inr y2) y3
        · rw [R.ln a ca] at e5
          rw [R.ln b cb]
          have old := h.s1 a b ha hb hab er ec e5
          refine ⟨fun z => ?_, old.2⟩
          rcases xany (pl (s.row b) (s.col b)) with y | ⟨-, y, -, -⟩
          · rw [y]; exact old.1 z
          · rw [y]; omega
    dd := fun g hg x => by
      rw [hrow, hcol]
      by_cases c : g = p
      · subst c
        obtain ⟨a, b⟩ := hdd x
        have := h.dd g hg b
        rw [R.did1]; omega
      · rw [R.ln g c] at x; rw [R.ln g c, R.did g c]; exact h.dd g hg x }

/-- Somebody else stays in p's column; or in its row. -/
def InCol (n : Nat) (s : St) (p i j : Nat) : Prop := ∃ u, u < n ∧ u ≠ p ∧ 1 ≤ s.did u ∧ s.col u = j ∧ ((s.row u = i ∧ 4 ≤ s.ln u) ∨ (i : Int) < s.row u)
def InRow (n : Nat) (s : St) (p i j : Nat) : Prop := ∃ u, u < n ∧ u ≠ p ∧ 1 ≤ s.did u ∧ s.row u = i ∧ (j : Int) ≤ s.col u
/-- Lines by which p goes one column, or one row, on. -/
theorem Inv.goes {n : Nat} {s t : St} (h : Inv n s) (h4 : n ≤ 4) {p : Nat} (hp : p < n) (R : Rest n s t p) (hx : t.xw = s.xw) (hy : t.yw = s.yw) (hl : t.ln p = 1)
    (hc : (s.ln p = 2 ∧ s.yw (pl (s.row p) (s.col p)) = 1 ∧ t.row p = s.row p ∧ t.col p = s.col p + 1) ∨ (s.ln p = 4 ∧ s.xw (pl (s.row p) (s.col p)) ≠ p + 1 ∧ t.row p = s.row p + 1 ∧ t.col p = s.col p)) : Inv n t := by
  obtain ⟨i0, j0, e1, e2, e3⟩ := h.deep h4 hp
  have hdid : ∀ g, s.did g ≤ t.did g := fun g => by
    by_cases c : g = p
    · subst c; rw [R.did1]; omega
    · rw [R.did g c]; exact Int.le_refl _
  have hpos := h.pos p hp
  -- somebody else is there who stays
  have other : (s.ln p = 2 ∧ InCol n s p i0 j0) ∨ (s.ln p = 4 ∧ InRow n s p i0 j0) := by
    rcases hc with ⟨a, b, -, -⟩ | ⟨a, b, -, -⟩
    · left
      rw [e1, e2] at b
      obtain ⟨u, u1, u2, u3, u4⟩ := h.y i0 j0 e3 b
      exact ⟨a, u, u1, fun e => by subst e; omega, u2, u3, u4⟩
    · right
      refine ⟨a, ?_⟩
      have hn := h.xn p hp (by omega)
      rw [e1, e2] at b hn
      rcases h.xz i0 j0 e3 with z | ⟨q, q1, q2, q3, q4⟩
      · exact absurd z hn
      · have hqp : q ≠ p := fun e => by subst e; exact b q2
        rcases q4 with ⟨a1, a2⟩ | ⟨u, u1, u2, u3, u4⟩
        · exact ⟨q, q1, hqp, q3, a1, a2⟩
        · exact ⟨u, u1, fun e => by subst e; omega, u2, u3, by omega⟩
  have hP : ∀ i j, P n s i j → P n t i j := by
    rintro i j ⟨q, q1, q2, q3, q4⟩
    by_cases c : q = p
    · subst c
      rcases hc with ⟨-, -, a, b⟩ | ⟨a, -, -, -⟩
      · exact ⟨q, q1, by have := hdid q; omega, by rw [a]; exact q3, by rw [b]; omega⟩
      · rcases other with ⟨x, -⟩ | ⟨-, u, u1, u2, u3, u4, u5⟩
        · omega
        · exact ⟨u, u1, by rw [R.did u u2]; exact u3, by rw [R.row u u2]; omega, by rw [R.col u u2]; omega⟩
    · exact ⟨q, q1, by rw [R.did q c]; exact q2, by rw [R.row q c]; exact q3, by rw [R.col q c]; exact q4⟩
  have hQ : ∀ i j, Q n s i j → Q n t i j := by
    rintro i j ⟨q, q1, q2, q3, q4⟩
    by_cases c : q = p
    · subst c
      rcases hc with ⟨a, -, -, -⟩ | ⟨-, -, a, b⟩
      · rcases other with ⟨-, u, u1, u2, u3, u4, u5⟩ | ⟨x, -⟩
        · exact ⟨u, u1, by rw [R.did u u2]; exact u3, by rw [R.col u u2]; omega, by rw [R.row u u2]; omega⟩
        · omega
      · exact ⟨q, q1, by have := hdid q; omega, by rw [b]; exact q3, by rw [a]; omega⟩
    · exact ⟨q, q1, by rw [R.did q c]; exact q2, by rw [R.col q c]; exact q3, by rw [R.row q c]; exact q4⟩
  exact {
    ln := fun g hg => by
      by_cases c : g = p
      · subst c; omega
      · rw [R.ln g c]; exact h.ln g hg
    pos := fun g hg => by
      have a := h.pos g hg
      have b := hdid g
      by_cases c : g = p
      · subst c; omega
      · rw [R.row g c, R.col g c]; omega
    idle := fun g hg x => by
      by_cases c : g = p
      · subst c; rw [R.did1] at x; omega
      · rw [R.ln g c, R.row g c, R.col g c]; rw [R.did g c] at x; exact h.idle g hg x
    way := fun g hg => by
      by_cases c : g = p
      · subst c
        have hw := (h.way g hg).keep hP hQ
        rcases hc with ⟨a, -, b, c⟩ | ⟨a, -, b, c⟩
        · rw [b, c, e1, e2]
          rw [e1, e2] at hw
          simp only [Int.toNat_natCast] at hw ⊢
          have ej : ((j0 : Int) + 1).toNat = j0 + 1 := by omega
          rw [ej]
          refine .right hw ?_
          rcases other with ⟨-, u, u1, u2, u3, u4, u5⟩ | ⟨x, -⟩
          · exact ⟨u, u1, by rw [R.did u u2]; exact u3, by rw [R.col u u2]; exact u4, by rw [R.row u u2]; omega⟩
          · omega
        · rw [b, c, e1, e2]
          rw [e1, e2] at hw
          simp only [Int.toNat_natCast] at hw ⊢
          have ei : ((i0 : Int) + 1).toNat = i0 + 1 := by omega
          rw [ei]
          refine .down hw ?_
          rcases other with ⟨x, -⟩ | ⟨-, u, u1, u2, u3, u4, u5⟩
          · omega
          · exact ⟨u, u1, by rw [R.did u u2]; exact u3, by rw [R.row u u2]; exact u4, by rw [R.col u u2]; exact u5⟩
      · rw [R.row g c, R.col g c]; exact (h.way g hg).keep hP hQ
    xz := fun i j hij => by
      rw [hx]
      rcases h.xz i j hij with a | ⟨q, q1, q2, q3, q4⟩
      · exact .inl a
      · refine .inr ⟨q, q1, q2, by have := hdid q; omega, ?_⟩
        have far : ∀ u, u < n → 1 ≤ s.did u → s.row u = i → (j : Int) < s.col u → ∃ u, u < n ∧ 1 ≤ t.did u ∧ t.row u = i ∧ (j : Int) < t.col u := by
          intro u u1 u2 u3 u4
          by_cases c : u = p
          · subst c
            rcases hc with ⟨-, -, a, b⟩ | ⟨a, -, -, -⟩
            · exact ⟨u, u1, by have := hdid u; omega, by rw [a]; exact u3, by rw [b]; omega⟩
            · rcases other with ⟨x, -⟩ | ⟨-, v, v1, v2, v3, v4, v5⟩
              · omega
              · exact ⟨v, v1, by rw [R.did v v2]; exact v3, by rw [R.row v v2]; omega, by rw [R.col v v2]; omega⟩
          · exact ⟨u, u1, by rw [R.did u c]; exact u2, by rw [R.row u c]; exact u3, by rw [R.col u c]; exact u4⟩
        rcases q4 with ⟨a1, a2⟩ | ⟨u, u1, u2, u3, u4⟩
        · by_cases c : q = p
          · subst c
            rcases hc with ⟨-, -, a, b⟩ | ⟨a, b, -, -⟩
            · exact .inl ⟨by rw [a]; exact a1, by rw [b]; omega⟩
            · by_cases ej : (j : Int) = s.col q
              · rw [← ej, a1] at b; exact absurd q2 b
              · exact .inr (far q hp q3 a1 (by omega))
          · exact .inl ⟨by rw [R.row q c]; exact a1, by rw [R.col q c]; exact a2⟩
        · exact .inr (far u u1 u2 u3 u4)
    xn := fun g hg x => by
      have c : g ≠ p := fun c => by subst c; omega
      rw [R.ln g c] at x
      rw [R.row g c, R.col g c, hx]; exact h.xn g hg x
    y := fun i j hij x => by
      rw [hy] at x
      obtain ⟨u, u1, u2, u3, u4⟩ := h.y i j hij x
      by_cases c : u = p
      · subst c
        rcases hc with ⟨a, -, b, d⟩ | ⟨a, -, b, d⟩
        · rcases other with ⟨-, v, v1, v2, v3, v4, v5⟩ | ⟨x, -⟩
          · exact ⟨v, v1, by rw [R.did v v2]; exact v3, by rw [R.col v v2]; omega, by rw [R.row v v2]; omega⟩
          · omega
        · exact ⟨u, u1, by have := hdid u; omega, by rw [d]; exact u3, by rw [b]; omega⟩
      · exact ⟨u, u1, by rw [R.did u c]; exact u2, by rw [R.col u c]; exact u3, by rw [R.row u c, R.ln u c]; exact u4⟩
    y5 := fun g hg x => by
      have c : g ≠ p := fun c => by subst c; omega
      rw [R.ln g c] at x
      rw [R.row g c, R.col g c, hy]; exact h.y5 g hg x
    s1 := fun a b ha hb hab er ec e5 => by
      have ca : a ≠ p := fun c => by subst c; omega
      by_cases cb : b = p
      · subst cb; exact ⟨fun z => by omega, by omega⟩
      · rw [R.row a ca, R.row b cb] at er
        rw [R.col a ca, R.col b cb] at ec
        rw [R.ln a ca] at e5
        rw [R.ln b cb, R.row b cb, R.col b cb, hx]
        exact h.s1 a b ha hb hab er ec e5
    dd := fun g hg x => by
      by_cases c : g = p
      · subst c
        rcases hc with ⟨a, -, b, d⟩ | ⟨a, -, b, d⟩
        · have := h.dd g hg (by omega)
          rw [R.did1, b, d]; omega
        · have := h.dd g hg (by omega)
          rw [R.did1, b, d]; omega
      · rw [R.ln g c] at x; rw [R.ln g c, R.did g c, R.row g c, R.col g c]; exact h.dd g hg x }

theorem Inv.step {n : Nat} {s : St} (h : Inv n s) (h4 : n ≤ 4) {p : Nat} (hp : p < n) : Inv n (stepN s p) := by
  have hl := h.ln p hp
  have hcase : s.ln p = 1 ∨ s.ln p = 2 ∨ s.ln p = 3 ∨ s.ln p = 4 ∨ s.ln p = 5 := by omega
  rcases hcase with e | e | e | e | e
  · have hst : stepN s p = { s with xw := upd s.xw (pl (s.row p) (s.col p)) (p + 1), ln := upd s.ln p 2, did := upd s.did p (s.did p + 1) } := by simp [stepN, e]
    rw [hst]
    exact h.calm h4 hp ⟨fun g c => upd_other c, fun g c => rfl, fun g c => rfl, fun g c => upd_other c, upd_same _ _ _⟩ rfl rfl (by simp only [upd_same]; omega) (by simp only [upd_same]; omega) (.inr ⟨e, upd_same _ _ _, rfl⟩) (.inl fun _ => rfl) (fun _ => .inr (upd_same _ _ _)) (by simp only [upd_same]; omega) (by simp only [upd_same]; omega) (by simp only [upd_same]; omega) (by simp only [upd_same]; omega) (by simp only [upd_same]; omega)
  · by_cases c : s.yw (pl (s.row p) (s.col p)) = 1
    · have hst : stepN s p = { s with ln := upd s.ln p 1, col := upd s.col p (s.col p + 1), did := upd s.did p (s.did p + 1) } := by simp [stepN, e, c]
      rw [hst]
      exact h.goes h4 hp ⟨fun g c => upd_other c, fun g c => rfl, fun g c => upd_other c, fun g c => upd_other c, upd_same _ _ _⟩ rfl rfl (upd_same _ _ _) (.inl ⟨e, c, rfl, upd_same _ _ _⟩)
    · have hst : stepN s p = { s with ln := upd s.ln p 3, did := upd s.did p (s.did p + 1) } := by simp [stepN, e, c]
      rw [hst]
      exact h.calm h4 hp ⟨fun g c => upd_other c, fun g c => rfl, fun g c => rfl, fun g c => upd_other c, upd_same _ _ _⟩ rfl rfl (by simp only [upd_same]; omega) (by simp only [upd_same]; omega) (.inl fun _ => rfl) (.inl fun _ => rfl) (fun _ => .inl (by omega)) (by simp only [upd_same]; omega) (by simp only [upd_same]; omega) (by simp only [upd_same]; omega) (fun _ => c) (by simp only [upd_same]; omega)
  · have hst : stepN s p = { s with yw := upd s.yw (pl (s.row p) (s.col p)) 1, ln := upd s.ln p 4, did := upd s.did p (s.did p + 1) } := by simp [stepN, e]
    rw [hst]
    exact h.calm h4 hp ⟨fun g c => upd_other c, fun g c => rfl, fun g c => rfl, fun g c => upd_other c, upd_same _ _ _⟩ rfl rfl (by simp only [upd_same]; omega) (by simp only [upd_same]; omega) (.inl fun _ => rfl) (.inr ⟨upd_same _ _ _, rfl⟩) (fun _ => .inl (by omega)) (fun _ => upd_same _ _ _) (by simp only [upd_same]; omega) (by simp only [upd_same]; omega) (by simp only [upd_same]; omega) (fun _ => e)
  · by_cases c : s.xw (pl (s.row p) (s.col p)) = p + 1
    · have hst : stepN s p = { s with ln := upd s.ln p 5, did := upd s.did p (s.did p + 1) } := by simp [stepN, e, c]
      rw [hst]
      exact h.calm h4 hp ⟨fun g c => upd_other c, fun g c => rfl, fun g c => rfl, fun g c => upd_other c, upd_same _ _ _⟩ rfl rfl (by simp only [upd_same]; omega) (by simp only [upd_same]; omega) (.inl fun _ => rfl) (.inl fun _ => rfl) (fun _ => .inl (by omega)) (fun _ => h.y5 p hp (by omega)) (by simp only [upd_same]; omega) (fun _ => .inr ⟨e, c⟩) (by simp only [upd_same]; omega) (by simp only [upd_same]; omega)
    · have hst : stepN s p = { s with ln := upd s.ln p 1, row := upd s.row p (s.row p + 1), did := upd s.did p (s.did p + 1) } := by simp [stepN, e, c]
      rw [hst]
      exact h.goes h4 hp ⟨fun g c => upd_other c, fun g c => upd_other c, fun g c => rfl, fun g c => upd_other c, upd_same _ _ _⟩ rfl rfl (upd_same _ _ _) (.inr ⟨e, c, upd_same _ _ _, rfl⟩)
  · have hst : stepN s p = { s with did := upd s.did p (s.did p + 1) } := by simp [stepN, e]
    rw [hst]
    exact h.calm h4 hp ⟨fun g c => rfl, fun g c => rfl, fun g c => rfl, fun g c => upd_other c, upd_same _ _ _⟩ rfl rfl (by simp only; omega) (fun x => x) (.inl fun _ => rfl) (.inl fun _ => rfl) (fun x => .inl x) (fun x => h.y5 p hp x) (fun x => absurd e x) (fun _ => .inl e) (fun x => by simp only at x; omega) (fun x => by simp only at x; omega)

theorem step_nat {n : Nat} (s : St) {p : Nat} (h : p < n) : step n s (p : Int) = stepN s p := by
  unfold step; rw [if_pos (by omega)]; rfl
theorem line_nat {n : Nat} (s : St) {p : Nat} (h : p < n) : line n s (p : Int) = s.ln p := by
  unfold line; rw [if_pos (by omega)]; rfl
theorem name_nat {n : Nat} (s : St) {p : Nat} (h : p < n) : name n s (p : Int) = if s.ln p = 5 then (pl (s.row p) (s.col p) : Int) else -1 := by
  unfold name; rw [line_nat s h]; rfl
theorem Reach.step {n k : Nat} {s : St} (h : Reach n k s) (p : Int) : Reach n (k + 1) (step n s p) := by
  obtain ⟨h1, h4, hi⟩ := h
  by_cases hp : 0 ≤ p ∧ p < n
  · obtain ⟨m, rfl⟩ := Int.eq_ofNat_of_zero_le hp.1
    rw [step_nat s (by omega)]
    exact ⟨h1, h4, hi.step h4 (by omega)⟩
  · unfold Split.step
    rw [if_neg hp]
    exact ⟨h1, h4, hi⟩
theorem Reach.fine {n k : Nat} {s : St} (h : Reach n k s) {p : Nat} (hp : p < n) : 1 ≤ s.ln p ∧ s.ln p ≤ 5 := h.2.2.ln p hp
/-- Names are few. -/
theorem Reach.few {n k : Nat} {s : St} (h : Reach n k s) {p : Nat} (hp : p < n) (h5 : s.ln p = 5) : ∃ m : Nat, many n s = m ∧ m ≤ 4 ∧ pl (s.row p) (s.col p) < m * (m + 1) / 2 := by
  obtain ⟨-, h4, hi⟩ := h
  have hpos := hi.pos p hp
  have hd : 1 ≤ s.did p := by
    apply Classical.byContradiction
    intro x
    have := hi.idle p hp (by omega)
    omega
  have hdep := hi.depth hp hd
  obtain ⟨i, j, e1, e2, e3⟩ := hi.deep h4 hp
  have hm := many_bd n s
  refine ⟨(many n s).toNat, by omega, by omega, ?_⟩
  rw [e1, e2]
  exact pl_low _ (by omega) i (by omega) j (by omega) (by omega)
/-- Each its own. -/
theorem Reach.own {n k : Nat} {s : St} (h : Reach n k s) {p q : Nat} (hp : p < n) (hq : q < n) (hpq : p ≠ q) (h5 : s.ln p = 5) (g5 : s.ln q = 5) : pl (s.row p) (s.col p) ≠ pl (s.row q) (s.col q) := by
  obtain ⟨-, h4, hi⟩ := h
  obtain ⟨i, j, e1, e2, e3⟩ := hi.deep h4 hp
  obtain ⟨a, b, f1, f2, f3⟩ := hi.deep h4 hq
  intro x
  rw [e1, e2, f1, f2] at x
  obtain ⟨y, z⟩ := pl_inj e3 f3 x
  exact (hi.s1 p q hp hq hpq (by omega) (by omega) h5).2 g5
/-- Who did four lines for each that began has one. -/
theorem Reach.soon {n k : Nat} {s : St} (h : Reach n k s) {p : Nat} (hp : p < n) (hm : 1 ≤ many n s) (h5 : s.ln p ≠ 5) : s.did p < 4 * many n s := by
  obtain ⟨-, h4, hi⟩ := h
  have hd := hi.dd p hp h5
  have hl := hi.ln p hp
  by_cases c : 1 ≤ s.did p
  · have := hi.depth hp c; omega
  · omega
/-- All do a line in turn: behind t lines. -/
def turns (n : Nat) (s : St) : Nat → St
  | 0 => s
  | t + 1 => step n (turns n s t) ((t % n : Nat) : Int)
theorem Reach.turns {n k : Nat} {s : St} (h : Reach n k s) (t : Nat) : Reach n (k + t) (turns n s t) := by
  induction t with
  | zero => exact h
  | succ t ih => exact ih.step _
theorem did_step {s : St} {p q : Nat} : (stepN s p).did q = if q = p then s.did p + 1 else s.did q := by
  unfold stepN
  repeat' split
  all_goals simp_all [upd]
/-- k lines of hand p. -/
def self (n : Nat) (s : St) (p : Nat) : Nat → St
  | 0 => s
  | k + 1 => step n (self n s p k) p
theorem self_reach {n k : Nat} {s : St} (h : Reach n k s) (p i : Nat) : Reach n (k + i) (self n s p i) := by
  induction i with
  | zero => exact h
  | succ i ih => exact ih.step p
theorem fact_two : name 3 (self 3 (first 3) 2 4) 2 = 0 := by decide
theorem fact_zero : name 3 (self 3 (first 3) 2 4) 0 = -1 := by decide
end Go.Proofs.YtgkfgijmccojjaaDoor.Split
