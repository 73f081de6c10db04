import Derived.Test.YtimbdjmplcgilaaDoorRfList
import Derived.Test.YtimbdjmplcgilaaDoorRfLoad
namespace Go.Proofs.YtimbdjmplcgilaaDoor.Rf
open Go.RowKit Pr SortFn
set_option linter.unusedVariables false
set_option linter.unusedSimpArgs false

/-! The states that are found: in rows by the sum of their numbers, and in a list. -/
def hash1 (k x : Int) : Int := (k * 31 + x + 7) % 1009
def hashL (l : List Int) : Int := l.foldl hash1 0
theorem hash1_range {k x : Int} (hk : 0 ≤ k) (hx : 0 ≤ x) : 0 ≤ hash1 k x ∧ hash1 k x < 1009 := by
  unfold hash1
  omega
theorem hashL_range {l : List Int} (h : ∀ x ∈ l, 0 ≤ x) : 0 ≤ hashL l ∧ hashL l < 1009 := by
  unfold hashL
  have key : ∀ (l : List Int) (k : Int), (∀ x ∈ l, 0 ≤ x) → 0 ≤ k ∧ k < 1009 → 0 ≤ l.foldl hash1 k ∧ l.foldl hash1 k < 1009 := by
    intro l
    induction l with
    | nil => intro k _ h; exact h
    | cons a r ih => intro k hl hk; exact ih _ (fun x hx => hl x (by simp [hx])) (hash1_range hk.1 (hl a (by simp)))
  exact key l 0 h (by omega)
theorem hashL_take {l : List Int} {i : Nat} (h : i < l.length) : hashL (l.take (i + 1)) = hash1 (hashL (l.take i)) (l.getD i 0) := by
  unfold hashL
  rw [List.take_add_one, List.getElem?_eq_getElem h, List.foldl_append]
  simp [List.getD_eq_getElem?_getD, h]
/-- A state, its numbers given as a list. -/
def RVL (w : World) (x : Value) (l : List Int) : Prop := RV w x (fun j => l.getD j 0)
theorem RVL.keep {w w' : World} {x : Value} {l : List Int} (h : RVL w x l) (hb : ∀ b, x.ownBlock = some b → w'.heap[b]? = w.heap[b]?) (hs : w.heap.size ≤ w'.heap.size) : RVL w' x l := by
  obtain ⟨g, cap, rfl, h1, h2, h3⟩ := h
  have e := hb g rfl
  exact ⟨g, cap, rfl, h1, Nat.lt_of_lt_of_le h2 hs, fun k hk => ⟨by rw [World.cell?_of_block (w := w) e]; exact (h3 k hk).1, by rw [World.frozen?_of_block (w := w) e]; exact (h3 k hk).2⟩⟩
theorem RVL.nums {w : World} {x : Value} {l : List Int} (h : RVL w x l) (hl : l.length = 46) : Nums w x l := by
  obtain ⟨g, cap, rfl, h1, h2, h3⟩ := h
  exact ⟨_, cap, by rw [hl], by rw [hl]; unfold maxLen; omega, fun k hk => ⟨g, 0, rfl, ⟨h2, by rw [hl]; exact h1⟩, by rw [Nat.zero_add]; exact (h3 k (by omega)).1⟩⟩
/-- A row of states that is owned; its states lie in blocks that no row owns. -/
structure OutS (w : World) (base : Nat) (tag : Nat → Nat) (v : Value) (R : List (List Int)) (vals : List Value) : Prop where
  own : w.ownsRow base 48 1 v R.length vals
  len : vals.length = R.length
  row : ∀ (j : Nat) (x : Value) (l : List Int), vals[j]? = some x → R[j]? = some l → RVL w x l ∧ l.length = 46 ∧ ∀ b, x.ownBlock = some b → tag b = 0 ∧ b < w.heap.size
/-- What is found. -/
structure FAt (w : World) (base F RB : Nat) (tag : Nat → Nat) (ss : List (List Int)) : Prop where
  lo : base ≤ F ∧ base ≤ RB ∧ base ≤ w.heap.size
  fresh : ∀ b, w.heap.size ≤ b → tag b = 0
  tF : tag F = 2000
  tR : tag RB = 2001
  ex : ∃ (vl : Value) (lv : List Value) (vr : Nat → Value) (br : Nat → List (List Int)) (lr : Nat → List Value),
    Blk w F #[.slice (some ⟨RB, 0, none⟩) 1009 1009, vl] 45 ∧ OutS w base tag vl ss lv ∧ (∀ b, vl.ownBlock = some b → tag b = 1) ∧
    ∀ k, k < 1009 → w.cell? ⟨RB, k, none⟩ = some (vr k) ∧ w.frozen? ⟨RB, k, none⟩ = false ∧ OutS w base tag (vr k) (br k) (lr k) ∧ (∀ b, (vr k).ownBlock = some b → tag b = k + 10) ∧ (br k).length ≤ ss.length ∧ ∀ x, x ∈ br k ↔ x ∈ ss ∧ hashL x = (k : Int)
theorem OutS.keep {w w' : World} {base : Nat} {tag tag' : Nat → Nat} {v : Value} {R : List (List Int)} {vals : List Value} (h : OutS w base tag v R vals) (hs : w.heap.size ≤ w'.heap.size) (hv : ∀ b, v.ownBlock = some b → w'.heap[b]? = w.heap[b]?)
    (h0 : ∀ b, b < w.heap.size → tag b = 0 → w'.heap[b]? = w.heap[b]? ∧ tag' b = 0) : OutS w' base tag' v R vals := by
  refine ⟨?_, h.len, fun j x l hx hl => ?_⟩
  · obtain ⟨h1, h2⟩ := h.own
    refine ⟨h1, ?_⟩
    rcases h2 with ⟨e, e2⟩ | ⟨g0, cap, cur, e, h2, h3, r⟩
    · exact .inl ⟨e, e2⟩
    · refine .inr ⟨g0, cap, cur, e, h2, ?_, r⟩
      subst e
      rw [hv g0 rfl]; exact h3
  · obtain ⟨a1, a2, a3⟩ := h.row j x l hx hl
    refine ⟨?_, a2, fun b hb => ?_⟩
    · exact a1.keep (fun b hb => (h0 b (a3 b hb).2 (a3 b hb).1).1) hs
    · have := a3 b hb
      exact ⟨(h0 b this.2 this.1).2, by omega⟩
/-- What else is new, or written, does not touch it. -/
theorem FAt.below {w w' : World} {base F RB : Nat} {tag : Nat → Nat} {ss : List (List Int)} (h : FAt w base F RB tag ss) (k : Below w.heap.size w w') : FAt w' base F RB tag ss := by
  obtain ⟨vl, lv, vr, br, lr, hB, hL, hT, hK⟩ := h.ex
  have hfl : F < w.heap.size := hB.lt
  have hk0 := hK 0 (by omega)
  have hRl : RB < w.heap.size := World.block_lt_of_cell? (w := w) (a := ⟨RB, 0, none⟩) hk0.1
  have hsz := k.size
  refine ⟨⟨h.lo.1, h.lo.2.1, Nat.le_trans h.lo.2.2 hsz⟩, fun b hb => h.fresh b (by omega), h.tF, h.tR, vl, lv, vr, br, lr, hB.below k hfl, ?_, hT, fun i hi => ?_⟩
  · exact hL.keep hsz (fun b hb => k.block b (hL.own.lt b hb).2) (fun b hb ht => ⟨k.block b hb, ht⟩)
  · obtain ⟨a1, a2, a3, a4, a5⟩ := hK i hi
    exact ⟨by rw [k.cell (p := ⟨RB, i, none⟩) hRl]; exact a1, by rw [k.frozen (p := ⟨RB, i, none⟩) hRl]; exact a2, a3.keep hsz (fun b hb => k.block b (a3.own.lt b hb).2) (fun b hb ht => ⟨k.block b hb, ht⟩), a4, a5⟩
/-- What an addition leaves: all that bears no tag is as it was. -/
structure Added (w : World) (base : Nat) (tag tag' : Nat → Nat) (w' : World) : Prop where
  bel : Below base w w'
  zero : ∀ b, b < w.heap.size → tag b = 0 → w'.heap[b]? = w.heap[b]? ∧ tag' b = 0

theorem own_shape {w : World} {base : Nat} {e : TypeId} {size : Nat} {v : Value} {n : Nat} {xs : List Value} (h : w.ownsRow base e size v n xs) : ∃ a c, v = .slice a n c := by
  rcases h.2 with ⟨hv, hn⟩ | ⟨g, cap, cur, hv, -⟩
  · exact ⟨none, 0, by rw [hv, hn]⟩
  · exact ⟨_, _, hv⟩
theorem outS_cell {w : World} {base : Nat} {tag : Nat → Nat} {a : Option Addr} {n c : Nat} {R : List (List Int)} {vals : List Value} (h : OutS w base tag (.slice a n c) R vals) {j : Nat} (hj : j < R.length) :
    ∃ g y, a = some ⟨g, 0, none⟩ ∧ g < w.heap.size ∧ w.cell? ⟨g, j, none⟩ = some y ∧ RVL w y (R.getD j []) ∧ (R.getD j []).length = 46 := by
  obtain ⟨g, cap, cur, e, hg, hb, hc, hs, ht⟩ := own_slice h.own (by omega)
  cases e
  obtain ⟨x, hx⟩ : ∃ x, vals[j]? = some x := ⟨_, List.getElem?_eq_getElem (by rw [h.len]; exact hj)⟩
  obtain ⟨l, hl⟩ : ∃ l, R[j]? = some l := ⟨_, List.getElem?_eq_getElem hj⟩
  obtain ⟨a1, a2, -⟩ := h.row j x l hx hl
  have e : R.getD j [] = l := by rw [List.getD_eq_getElem?_getD, hl]; rfl
  refine ⟨g, x, rfl, hb.lt, ?_, by rw [e]; exact a1, by rw [e]; exact a2⟩
  rw [hb.cell]
  rw [← ht, List.getElem?_take_of_lt (by omega)] at hx
  simpa using hx

/-- The parts of what is found. -/
structure GAt (w : World) (base F RB : Nat) (tag : Nat → Nat) (vl : Value) (sl : List (List Int)) (lv : List Value) (vr : Nat → Value) (br : Nat → List (List Int)) (lr : Nat → List Value) : Prop where
  lo : base ≤ F ∧ base ≤ RB ∧ base ≤ w.heap.size
  fresh : ∀ b, w.heap.size ≤ b → tag b = 0
  tF : tag F = 2000
  tR : tag RB = 2001
  box : Blk w F #[.slice (some ⟨RB, 0, none⟩) 1009 1009, vl] 45
  list : OutS w base tag vl sl lv
  tl : ∀ b, vl.ownBlock = some b → tag b = 1
  row : ∀ k, k < 1009 → w.cell? ⟨RB, k, none⟩ = some (vr k) ∧ w.frozen? ⟨RB, k, none⟩ = false ∧ OutS w base tag (vr k) (br k) (lr k) ∧ (∀ b, (vr k).ownBlock = some b → tag b = k + 10)
/-- What grows: the world behind an append and a store, at blocks that are not written. -/
theorem grow_facts {w w1 : World} {base n c i : Nat} {v v' x : Value} {T e : TypeId} {xs cs : List Value} (hbs : base ≤ w.heap.size) (hold : w.ownsRow base e 1 v n xs) (hg : (w.alloc (.cells #[x] T)).grownBy w1 v.ownBlock) {n' : Nat} (hown : w1.ownsRow base e 1 v' n' cs)
    (hat : v'.ownBlock = v.ownBlock ∨ v'.ownBlock = some (w.alloc (.cells #[x] T)).heap.size) (hcb : base ≤ c) :
    Below base w (w1.setCell ⟨c, i, none⟩ v') ∧ w.heap.size ≤ (w1.setCell ⟨c, i, none⟩ v').heap.size ∧ (∀ b, b < w.heap.size → v.ownBlock ≠ some b → b ≠ c → (w1.setCell ⟨c, i, none⟩ v').heap[b]? = w.heap[b]?) ∧ (∀ b, v'.ownBlock = some b → b < (w1.setCell ⟨c, i, none⟩ v').heap.size ∧ (b < w.heap.size → v.ownBlock = some b)) := by
  have hsz : (w.alloc (.cells #[x] T)).heap.size = w.heap.size + 1 := by simp
  have hsz1 := hg.size
  have hb1 : Below base w w1 := ((Below.refl _ _).alloc hbs _).grown hg (by omega) (own_base hold)
  refine ⟨hb1.setCell (p := ⟨c, i, none⟩) hcb _, by simp; omega, fun b h1 h2 h3 => ?_, fun b hb => ⟨by simpa using (hown.lt b hb).2, fun hlt => ?_⟩⟩
  · rw [Below.heap_setCell _ _ _ _ (fun e => h3 (by first | exact e | exact e.symm)), hg.block b (by omega) (fun e => h2 e.symm)]
    exact Below.heap_alloc _ _ _ h1
  · rcases hat with h | h
    · rw [← h]; exact hb
    · rw [h] at hb
      have := Option.some.inj hb
      omega
theorem OutS.push {w w1 : World} {base c i n' k : Nat} {tag tag' : Nat → Nat} {v v' x : Value} {R : List (List Int)} {l : List Int} {vals cs : List Value} {T : TypeId} (hbs : base ≤ w.heap.size) (h : OutS w base tag v R vals) (hx : RVL w x l) (hx46 : l.length = 46) (hxt : ∀ b, x.ownBlock = some b → tag b = 0 ∧ b < w.heap.size)
    (hown : w1.ownsRow base 48 1 v' n' cs) (hg : (w.alloc (.cells #[x] T)).grownBy w1 v.ownBlock) (hat : v'.ownBlock = v.ownBlock ∨ v'.ownBlock = some (w.alloc (.cells #[x] T)).heap.size) (hn : n' = R.length + 1) (hc : cs = vals ++ [x]) (hcb : base ≤ c) (hct : tag c ≠ 0) (hk : k ≠ 0) (hvt : ∀ b, v.ownBlock = some b → tag b = k)
    (htag : ∀ b, b < w.heap.size → tag b = 0 → tag' b = 0) (hcv : ∀ b, v'.ownBlock = some b → b ≠ c) :
    OutS (w1.setCell ⟨c, i, none⟩ v') base tag' v' (R ++ [l]) (vals ++ [x]) := by
  subst hn hc
  obtain ⟨f1, f2, f3, f4⟩ := grow_facts (i := i) hbs h.own hg hown hat hcb
  have keep : ∀ y m, RVL w y m → (∀ b, y.ownBlock = some b → tag b = 0 ∧ b < w.heap.size) → RVL (w1.setCell ⟨c, i, none⟩ v') y m ∧ ∀ b, y.ownBlock = some b → tag' b = 0 ∧ b < (w1.setCell ⟨c, i, none⟩ v').heap.size := by
    intro y m hy ht
    refine ⟨?_, fun b hb => ⟨htag b (ht b hb).2 (ht b hb).1, Nat.lt_of_lt_of_le (ht b hb).2 f2⟩⟩
    refine hy.keep (fun b hb => ?_) f2
    have h0 := ht b hb
    exact f3 b h0.2 (fun e => by have := hvt b e; omega) (fun e => hct (by rw [← e]; exact h0.1))
  refine ⟨?_, by simp [h.len], fun j y m hy hm => ?_⟩
  · have e : R.length + 1 = (R ++ [l]).length := by simp
    rw [← e]
    obtain ⟨h1, h2⟩ := hown
    refine ⟨h1, ?_⟩
    rcases h2 with ⟨e, e2⟩ | ⟨g0, cap, cur, e, h2, h3, r⟩
    · exact .inl ⟨e, e2⟩
    · refine .inr ⟨g0, cap, cur, e, h2, ?_, r⟩
      subst e
      exact Blk.other (b' := c) h3 (fun e => hcv g0 rfl e.symm) i _
  · by_cases hj : j < R.length
    · rw [List.getElem?_append_left (by rw [h.len]; exact hj)] at hy
      rw [List.getElem?_append_left hj] at hm
      obtain ⟨a1, a2, a3⟩ := h.row j y m hy hm
      have := keep y m a1 a3
      exact ⟨this.1, a2, this.2⟩
    · have hj' : j = R.length := by
        have := (List.getElem?_eq_some_iff.1 hm).1
        simp at this; omega
      subst hj'
      rw [List.getElem?_append_right (by rw [h.len]; exact Nat.le_refl _), h.len] at hy
      rw [List.getElem?_append_right (Nat.le_refl _)] at hm
      simp at hy hm
      subst hy hm
      have := keep _ _ hx hxt
      exact ⟨this.1, hx46, this.2⟩
def retag (tag : Nat → Nat) (v : Value) (k : Nat) : Nat → Nat := fun b => if v.ownBlock = some b then k else tag b
theorem retag_old {w : World} {tag : Nat → Nat} {v v' : Value} {k : Nat} (hvt : ∀ b, v.ownBlock = some b → tag b = k) (h : ∀ b, v'.ownBlock = some b → b < w.heap.size → v.ownBlock = some b) {b : Nat} (hb : b < w.heap.size) : retag tag v' k b = tag b := by
  unfold retag; split
  · rename_i e; exact (hvt b (h b e hb)).symm
  · rfl
theorem GAt.row_push {w w1 : World} {base F RB K n' : Nat} {tag : Nat → Nat} {vl v' x : Value} {sl : List (List Int)} {lv cs : List Value} {vr : Nat → Value} {br : Nat → List (List Int)} {lr : Nat → List Value} {l : List Int} {T : TypeId} (h : GAt w base F RB tag vl sl lv vr br lr) (hK : K < 1009)
    (hx : RVL w x l) (hx46 : l.length = 46) (hxt : ∀ b, x.ownBlock = some b → tag b = 0 ∧ b < w.heap.size)
    (hown : w1.ownsRow base 48 1 v' n' cs) (hg : (w.alloc (.cells #[x] T)).grownBy w1 (vr K).ownBlock) (hat : v'.ownBlock = (vr K).ownBlock ∨ v'.ownBlock = some (w.alloc (.cells #[x] T)).heap.size) (hn : n' = (br K).length + 1) (hc : cs = lr K ++ [x]) :
    GAt (w1.setCell ⟨RB, K, none⟩ v') base F RB (retag tag v' (K + 10)) vl sl lv (fun k => if k = K then v' else vr k) (fun k => if k = K then br K ++ [l] else br k) (fun k => if k = K then lr K ++ [x] else lr k) ∧ Added w base tag (retag tag v' (K + 10)) (w1.setCell ⟨RB, K, none⟩ v') := by
  obtain ⟨rc, rf, ro, rt⟩ := h.row K hK
  have hlo := h.lo
  obtain ⟨f1, f2, f3, f4⟩ := grow_facts (i := K) hlo.2.2 ro.own hg hown hat hlo.2.1
  have hFl : F < w.heap.size := h.box.lt
  have hRl : RB < w.heap.size := World.block_lt_of_cell? (w := w) (a := ⟨RB, K, none⟩) rc
  have old : ∀ b, b < w.heap.size → retag tag v' (K + 10) b = tag b := fun b hb => retag_old rt (fun b hb hl => (f4 b hb).2 hl) hb
  have hne : ∀ b, v'.ownBlock = some b → b ≠ RB := fun b hb e => by
    subst e
    have := rt b ((f4 b hb).2 hRl)
    rw [h.tR] at this; omega
  have hFne : (vr K).ownBlock ≠ some F := fun e => by have := rt F e; rw [h.tF] at this; omega
  have hFR : F ≠ RB := fun e => by have := h.tF; rw [e, h.tR] at this; omega
  have hRne : (vr K).ownBlock ≠ some RB := fun e => by have := rt RB e; rw [h.tR] at this; omega
  have zero : ∀ b, b < w.heap.size → tag b = 0 → (w1.setCell ⟨RB, K, none⟩ v').heap[b]? = w.heap[b]? ∧ retag tag v' (K + 10) b = 0 := fun b hb ht =>
    ⟨f3 b hb (fun e => by have := rt b e; omega) (fun e => by rw [e, h.tR] at ht; omega), by rw [old b hb]; exact ht⟩
  have hsz1 : w.heap.size + 1 ≤ w1.heap.size := by have := hg.size; simpa using this
  have hRB1 : w1.heap[RB]? = w.heap[RB]? := by
    rw [hg.block RB (by simp; omega) (fun e => hRne e.symm)]
    exact Below.heap_alloc _ _ _ hRl
  refine ⟨⟨⟨hlo.1, hlo.2.1, Nat.le_trans hlo.2.2 f2⟩, fun b hb => ?_, by rw [old F hFl]; exact h.tF, by rw [old RB hRl]; exact h.tR, ?_, ?_, fun b hb => ?_, fun k hk => ?_⟩, ⟨f1, zero⟩⟩
  · unfold retag; split
    · rename_i e; have := (f4 b e).1; omega
    · exact h.fresh b (by omega)
  · have := h.box
    unfold Blk at *
    rw [f3 F hFl hFne hFR]; exact this
  · refine h.list.keep f2 (fun b hb => ?_) zero
    have hb1 := (h.list.own.lt b hb).2
    have := h.tl b hb
    exact f3 b hb1 (fun e => by have := rt b e; omega) (fun e => by rw [e, h.tR] at this; omega)
  · rw [old b (h.list.own.lt b hb).2]; exact h.tl b hb
  · by_cases hkK : k = K
    · subst hkK
      simp only [if_true]
      refine ⟨World.cell?_setCell_same _ _ _ (u := vr k) (by rw [World.cell?_of_block (w := w) hRB1]; exact rc), ?_, ro.push hlo.2.2 hx hx46 hxt hown hg hat hn hc hlo.2.1 (by rw [h.tR]; omega) (k := k + 10) (by omega) rt (fun b hb ht => (zero b hb ht).2) hne, fun b hb => ?_⟩
      · rw [World.frozen?_setCell, World.frozen?_of_block (w := w) hRB1]; exact rf
      · unfold retag; rw [if_pos hb]
    · simp only [if_neg hkK]
      obtain ⟨c1, c2, c3, c4⟩ := h.row k hk
      refine ⟨?_, ?_, c3.keep f2 (fun b hb => ?_) zero, fun b hb => ?_⟩
      · rw [World.cell?_setCell_other _ _ _ _ (by intro e; exact hkK (by injection e; first | assumption | (symm; assumption))), World.cell?_of_block (w := w) hRB1]; exact c1
      · rw [World.frozen?_setCell, World.frozen?_of_block (w := w) hRB1]; exact c2
      · have hb1 := (c3.own.lt b hb).2
        have := c4 b hb
        exact f3 b hb1 (fun e => by have := rt b e; omega) (fun e => by rw [e, h.tR] at this; omega)
      · rw [old b (c3.own.lt b hb).2]; exact c4 b hb
theorem GAt.list_push {w w1 : World} {base F RB n' : Nat} {tag : Nat → Nat} {vl v' x : Value} {sl : List (List Int)} {lv cs : List Value} {vr : Nat → Value} {br : Nat → List (List Int)} {lr : Nat → List Value} {l : List Int} {T : TypeId} (h : GAt w base F RB tag vl sl lv vr br lr)
    (hx : RVL w x l) (hx46 : l.length = 46) (hxt : ∀ b, x.ownBlock = some b → tag b = 0 ∧ b < w.heap.size)
    (hown : w1.ownsRow base 48 1 v' n' cs) (hg : (w.alloc (.cells #[x] T)).grownBy w1 vl.ownBlock) (hat : v'.ownBlock = vl.ownBlock ∨ v'.ownBlock = some (w.alloc (.cells #[x] T)).heap.size) (hn : n' = sl.length + 1) (hc : cs = lv ++ [x]) :
    GAt (w1.setCell ⟨F, 1, none⟩ v') base F RB (retag tag v' 1) v' (sl ++ [l]) (lv ++ [x]) vr br lr ∧ Added w base tag (retag tag v' 1) (w1.setCell ⟨F, 1, none⟩ v') := by
  have hlo := h.lo
  have ro := h.list
  have rt := h.tl
  obtain ⟨f1, f2, f3, f4⟩ := grow_facts (i := 1) hlo.2.2 ro.own hg hown hat hlo.1
  have hFl : F < w.heap.size := h.box.lt
  have hRl : RB < w.heap.size := World.block_lt_of_cell? (w := w) (a := ⟨RB, 0, none⟩) (h.row 0 (by omega)).1
  have old : ∀ b, b < w.heap.size → retag tag v' 1 b = tag b := fun b hb => retag_old rt (fun b hb hl => (f4 b hb).2 hl) hb
  have hne : ∀ b, v'.ownBlock = some b → b ≠ F := fun b hb e => by
    subst e
    have := rt b ((f4 b hb).2 hFl)
    rw [h.tF] at this; omega
  have hFne : vl.ownBlock ≠ some F := fun e => by have := rt F e; rw [h.tF] at this; omega
  have hFR : RB ≠ F := fun e => by have := h.tF; rw [← e, h.tR] at this; omega
  have hRne : vl.ownBlock ≠ some RB := fun e => by have := rt RB e; rw [h.tR] at this; omega
  have zero : ∀ b, b < w.heap.size → tag b = 0 → (w1.setCell ⟨F, 1, none⟩ v').heap[b]? = w.heap[b]? ∧ retag tag v' 1 b = 0 := fun b hb ht =>
    ⟨f3 b hb (fun e => by have := rt b e; omega) (fun e => by rw [e, h.tF] at ht; omega), by rw [old b hb]; exact ht⟩
  have hsz1 : w.heap.size + 1 ≤ w1.heap.size := by have := hg.size; simpa using this
  refine ⟨⟨⟨hlo.1, hlo.2.1, Nat.le_trans hlo.2.2 f2⟩, fun b hb => ?_, by rw [old F hFl]; exact h.tF, by rw [old RB hRl]; exact h.tR, ?_, ?_, fun b hb => ?_, fun k hk => ?_⟩, ⟨f1, zero⟩⟩
  · unfold retag; split
    · rename_i e; have := (f4 b e).1; omega
    · exact h.fresh b (by omega)
  · have hB1 : Blk w1 F #[.slice (some ⟨RB, 0, none⟩) 1009 1009, vl] 45 := by
      have := h.box
      unfold Blk at *
      rw [hg.block F (by simp; omega) (fun e => hFne e.symm), Below.heap_alloc _ _ _ hFl]; exact this
    exact hB1.set 1 v'
  · exact ro.push hlo.2.2 hx hx46 hxt hown hg hat hn hc hlo.1 (by rw [h.tF]; omega) (k := 1) (by omega) rt (fun b hb ht => (zero b hb ht).2) hne
  · unfold retag; rw [if_pos hb]
  · obtain ⟨c1, c2, c3, c4⟩ := h.row k hk
    have hR2 := f3 RB hRl hRne hFR
    refine ⟨by rw [World.cell?_of_block (w := w) hR2]; exact c1, by rw [World.frozen?_of_block (w := w) hR2]; exact c2, c3.keep f2 (fun b hb => ?_) zero, fun b hb => ?_⟩
    · have hb1 := (c3.own.lt b hb).2
      have := c4 b hb
      exact f3 b hb1 (fun e => by have := rt b e; omega) (fun e => by rw [e, h.tF] at this; omega)
    · rw [old b (c3.own.lt b hb).2]; exact c4 b hb
theorem Added.rvl {w w' : World} {base : Nat} {tag tag' : Nat → Nat} {v : Value} {l : List Int} (k : Added w base tag tag' w') (hs : w.heap.size ≤ w'.heap.size) (h : RVL w v l) (ht : ∀ b, v.ownBlock = some b → tag b = 0 ∧ b < w.heap.size) :
    RVL w' v l ∧ ∀ b, v.ownBlock = some b → tag' b = 0 ∧ b < w'.heap.size :=
  ⟨h.keep (fun b hb => (k.zero b (ht b hb).2 (ht b hb).1).1) hs, fun b hb => ⟨(k.zero b (ht b hb).2 (ht b hb).1).2, Nat.lt_of_lt_of_le (ht b hb).2 hs⟩⟩
theorem Added.trans {w w1 w2 : World} {base : Nat} {t t1 t2 : Nat → Nat} (h : Added w base t t1 w1) (hs : w.heap.size ≤ w1.heap.size) (k : Added w1 base t1 t2 w2) : Added w base t t2 w2 :=
  ⟨h.bel.trans k.bel, fun b hb ht => by
    obtain ⟨e1, e2⟩ := h.zero b hb ht
    obtain ⟨e3, e4⟩ := k.zero b (by omega) e2
    exact ⟨e3.trans e1, e4⟩⟩
theorem OutS.drewN {w : World} {base : Nat} {tag : Nat → Nat} {v : Value} {R : List (List Int)} {vals : List Value} (h : OutS w base tag v R vals) (m : Nat) : OutS (w.drewN m) base tag v R vals := ⟨h.own, h.len, h.row⟩
theorem GAt.drewN {w : World} {base F RB : Nat} {tag : Nat → Nat} {vl : Value} {sl : List (List Int)} {lv : List Value} {vr : Nat → Value} {br : Nat → List (List Int)} {lr : Nat → List Value} (h : GAt w base F RB tag vl sl lv vr br lr) (m : Nat) : GAt (w.drewN m) base F RB tag vl sl lv vr br lr :=
  ⟨h.lo, h.fresh, h.tF, h.tR, h.box, h.list.drewN m, h.tl, fun k hk => by obtain ⟨a, b, c, d⟩ := h.row k hk; exact ⟨a, b, c.drewN m, d⟩⟩
/-- The end of an addition. -/
theorem GAt.found {w : World} {base F RB K : Nat} {tag : Nat → Nat} {vl v' : Value} {ss : List (List Int)} {lv ls : List Value} {vr : Nat → Value} {br : Nat → List (List Int)} {lr : Nat → List Value} {x : List Int}
    (h : GAt w base F RB tag vl (ss ++ [x]) lv (fun k => if k = K then v' else vr k) (fun k => if k = K then br K ++ [x] else br k) (fun k => if k = K then ls else lr k)) (hK : hashL x = (K : Int)) (hx : x ∉ ss)
    (hm : ∀ k, k < 1009 → (br k).length ≤ ss.length ∧ ∀ y, y ∈ br k ↔ y ∈ ss ∧ hashL y = (k : Int)) : FAt w base F RB tag (Bfs.add ss x) := by
  have he : Bfs.add ss x = ss ++ [x] := by unfold Bfs.add; rw [if_neg hx]
  rw [he]
  refine ⟨h.lo, h.fresh, h.tF, h.tR, vl, lv, (fun k => if k = K then v' else vr k), (fun k => if k = K then br K ++ [x] else br k), (fun k => if k = K then ls else lr k), h.box, h.list, h.tl, fun k hk => ?_⟩
  obtain ⟨a1, a2, a3, a4⟩ := h.row k hk
  refine ⟨a1, a2, a3, a4, ?_, fun y => ?_⟩
  · have h1 := (hm k hk).1
    by_cases e : k = K
    · subst e; simp; exact h1
    · simp only [if_neg e, List.length_append]; omega
  · have h2 := (hm k hk).2 y
    by_cases e : k = K
    · subst e
      simp only [if_true, List.mem_append, List.mem_singleton, h2]
      constructor
      · rintro (⟨q1, q2⟩ | rfl)
        · exact ⟨.inl q1, q2⟩
        · exact ⟨.inr rfl, hK⟩
      · rintro ⟨q1 | rfl, q2⟩
        · exact .inl ⟨q1, q2⟩
        · exact .inr rfl
    · simp only [if_neg e, List.mem_append, List.mem_singleton, h2]
      constructor
      · rintro ⟨q1, q2⟩; exact ⟨.inl q1, q2⟩
      · rintro ⟨q1 | rfl, q2⟩
        · exact ⟨q1, q2⟩
        · rw [hK] at q2; omega
end Go.Proofs.YtimbdjmplcgilaaDoor.Rf
