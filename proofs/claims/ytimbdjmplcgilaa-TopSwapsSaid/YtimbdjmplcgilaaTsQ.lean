import Derived.Test.YtimbdjmplcgilaaTsFact
namespace Go.Proofs.Ytimbdjmplcgilaa.Tso
open Go.RowKit Pr SortFn
set_option linter.unusedVariables false

/-- Two programs in boxes. -/
structure TwoProg (B1 B2 : Nat) (w wy : World) (words : Int) (u1 u2 : Value) (p1 p2 : List (List Ln)) : Prop where
  bel : Below w.heap.size w wy
  lt : B1 < wy.heap.size ∧ B2 < wy.heap.size
  b1 : Blk wy B1 #[.int .i64 words, u1] 26
  b2 : Blk wy B2 #[.int .i64 words, u2] 26
  p1' : IsProg wy u1 p1
  p2' : IsProg wy u2 p2
theorem TwoProg.below {B1 B2 : Nat} {w wy w' : World} {words : Int} {u1 u2 : Value} {p1 p2 : List (List Ln)} (h : TwoProg B1 B2 w wy words u1 u2 p1 p2) (k : Below wy.heap.size wy w') : TwoProg B1 B2 w w' words u1 u2 p1 p2 :=
  ⟨h.bel.trans (k.mono h.bel.size), ⟨Nat.lt_of_lt_of_le h.lt.1 k.size, Nat.lt_of_lt_of_le h.lt.2 k.size⟩, h.b1.below k h.lt.1, h.b2.below k h.lt.2, h.p1'.below k, h.p2'.below k⟩

theorem own_form {w : World} {base : Nat} {e : TypeId} {size : Nat} {v : Value} {n : Nat} {xs : List Value} (h : w.ownsRow base e size v n xs) : ∃ a m cap, v = .slice a m cap := by
  rcases h.2 with ⟨hv, -⟩ | ⟨g, cap, cur, hv, -⟩
  · exact ⟨_, _, _, hv⟩
  · exact ⟨_, _, _, hv⟩
theorem infoHand : (Try.prog.info? 22).map (fun i => (i.zero, i.size, i.bytes)) = some (some (.slice none 0 0), 1, 24) := by kernel_rfl

/-- The second program amid: its box, and its hands in new memory. -/
structure IX (w : World) (words : Int) (u : Value) (Bq : Nat) (v : Value) (n : Nat) (cs : List Value) (wr : World) : Prop where
  bel : Below w.heap.size w wr
  lt : w.heap.size < Bq
  size : Bq + 1 ≤ wr.heap.size
  box : Blk wr w.heap.size #[.int .i64 words, u] 26
  q : Blk wr Bq #[.int .i64 words, v] 26
  own : wr.ownsRow (Bq + 1) 22 1 v n cs
theorem IX.since {w : World} {words : Int} {u : Value} {Bq : Nat} {v : Value} {n : Nat} {cs : List Value} {wr wa w1 : World} (h : IX w words u Bq v n cs wr) (ha : Below (Bq + 1) wr wa) (hg : wa.grownBy w1 v.ownBlock) : Below (Bq + 1) wr w1 :=
  ha.grown hg (Nat.le_trans h.size ha.size) (own_base h.own)
theorem IX.put {w : World} {words : Int} {u : Value} {Bq : Nat} {v v' : Value} {n n' : Nat} {cs cs' : List Value} {wr w1 : World} (h : IX w words u Bq v n cs wr) (hb : Below (Bq + 1) wr w1) (hown : w1.ownsRow (Bq + 1) 22 1 v' n' cs') : IX w words u Bq v' n' cs' (w1.setCell ⟨Bq, 1, none⟩ v') := by
  have hlt := h.lt
  refine ⟨(h.bel.trans (hb.mono (by omega))).setCell (p := ⟨Bq, 1, none⟩) (by show _ ≤ Bq; omega) _, hlt, by have := h.size; have := hb.size; simp; omega, (h.box.below hb (by omega)).other (by omega) _ _, ?_, ownsRow_setCell_below hown (by show Bq < _; omega) _⟩
  exact Blk.eq ((h.q.below hb (by omega)).set 1 v') (by simp)


/-- What is owned stays as it is where nothing that was there is written. -/
theorem own_below {w w' : World} {base : Nat} {e : TypeId} {size : Nat} {v : Value} {n : Nat} {xs : List Value} (h : w.ownsRow base e size v n xs) (k : Below w.heap.size w w') : w'.ownsRow base e size v n xs := by
  have lt := h.lt
  obtain ⟨h1, h2⟩ := h
  refine ⟨h1, ?_⟩
  rcases h2 with ⟨e, e2⟩ | ⟨g0, cap, cur, e, h2, h3, r⟩
  · exact .inl ⟨e, e2⟩
  · refine .inr ⟨g0, cap, cur, e, h2, ?_, r⟩
    subst e
    rw [k.block g0 (lt g0 rfl).2]; exact h3
/-- A second program that is made hand by hand. -/
structure QX (w : World) (words : Int) (u : Value) (Bq : Nat) (v : Value) (cs : List Value) (q : List (List Ln)) (wr : World) : Prop where
  ix : IX w words u Bq v q.length cs wr
  len : cs.length = q.length
  hands : ∀ j x, cs[j]? = some x → HandAt wr x (lines q j) ∧ ∀ g, x.ownBlock = some g → v.ownBlock ≠ some g ∧ g ≠ Bq ∧ g < wr.heap.size
theorem IX.below {w : World} {words : Int} {u : Value} {Bq : Nat} {v : Value} {n : Nat} {cs : List Value} {wr w' : World} (h : IX w words u Bq v n cs wr) (k : Below wr.heap.size wr w') : IX w words u Bq v n cs w' := by
  have hlt := h.lt
  have hs := h.size
  exact ⟨h.bel.trans (k.mono (by omega)), h.lt, Nat.le_trans hs k.size, h.box.below k (by omega), h.q.below k (by omega), own_below h.own k⟩
theorem QX.below {w : World} {words : Int} {u : Value} {Bq : Nat} {v : Value} {cs : List Value} {q : List (List Ln)} {wr w' : World} (h : QX w words u Bq v cs q wr) (k : Below wr.heap.size wr w') : QX w words u Bq v cs q w' :=
  ⟨h.ix.below k, h.len, fun j x hx => ⟨(h.hands j x hx).1.below k, fun g hg => by
    obtain ⟨a, b, c⟩ := (h.hands j x hx).2 g hg
    exact ⟨a, b, Nat.lt_of_lt_of_le c k.size⟩⟩⟩
theorem lines_snoc (q : List (List Ln)) (l : List Ln) (j : Nat) : lines (q ++ [l]) j = if j < q.length then lines q j else if j = q.length then l else [] := by
  unfold lines
  simp only [List.getD_eq_getElem?_getD]
  split
  · rw [List.getElem?_append_left (by assumption)]
  · rename_i h
    rw [List.getElem?_append_right (by omega)]
    split
    · subst_vars; simp
    · rw [List.getElem?_eq_none (by simp; omega)]; rfl
theorem HandAt.grown {w w' : World} {b : Option Nat} {x : Value} {ls : List Ln} (h : HandAt w x ls) (k : w.grownBy w' b) (hne : ∀ g, x.ownBlock = some g → b ≠ some g) : HandAt w' x ls := by
  obtain ⟨a, cap, rfl, hl, hj⟩ := h
  refine ⟨a, cap, rfl, hl, fun j hj' => ?_⟩
  obtain ⟨g, o, rfl, hg, x0, x1, x2, x3⟩ := hj j hj'
  have hb : w'.heap[g]? = w.heap[g]? := k.block g hg (fun e => hne g rfl e.symm)
  have ne : ∀ k x, w.cell? ⟨g, k, none⟩ = some x → w'.cell? ⟨g, k, none⟩ = some x := fun k x hx => by
    rw [World.cell?_of_block (w := w) hb]; exact hx
  exact ⟨g, o, rfl, Nat.lt_of_lt_of_le hg k.size, ne _ _ x0, ne _ _ x1, ne _ _ x2, ne _ _ x3⟩
/-- One hand more. -/
theorem QX.push {w : World} {words : Int} {u : Value} {Bq : Nat} {v v' x : Value} {cs : List Value} {q : List (List Ln)} {l : List Ln} {w2 w1 : World} {T : TypeId} {n : Nat} {cs' : List Value} (h : QX w words u Bq v cs q w2)
    (hx : HandAt w2 x l) (hxo : ∀ g, x.ownBlock = some g → v.ownBlock ≠ some g ∧ g ≠ Bq ∧ g < w2.heap.size)
    (hown : w1.ownsRow (Bq + 1) 22 1 v' n cs') (hg : (w2.alloc (.cells #[x] T)).grownBy w1 v.ownBlock) (hat : v'.ownBlock = v.ownBlock ∨ v'.ownBlock = some (w2.alloc (.cells #[x] T)).heap.size) (hn : n = q.length + 1) (hc : cs' = cs ++ [x]) :
    QX w words u Bq v' (cs ++ [x]) (q ++ [l]) (w1.setCell ⟨Bq, 1, none⟩ v') := by
  subst hn hc
  have hs := h.ix.size
  have hsz : (w2.alloc (.cells #[x] T)).heap.size = w2.heap.size + 1 := by simp
  have hb : Below (Bq + 1) w2 w1 := h.ix.since ((Below.refl _ _).alloc hs _) hg
  have hix := h.ix.put hb hown
  have halloc : Below w2.heap.size w2 (w2.alloc (.cells #[x] T)) := (Below.refl _ _).alloc (Nat.le_refl _) _
  have hv : ∀ g, g < w2.heap.size → v.ownBlock ≠ some g → v'.ownBlock ≠ some g := fun g hgl e1 e => by
    rcases hat with h1 | h1
    · exact e1 (by rw [← h1]; exact e)
    · rw [h1] at e
      have := Option.some.inj e
      omega
  have hsz1 : w2.heap.size ≤ (w1.setCell ⟨Bq, 1, none⟩ v').heap.size := by have := hg.size; simp; omega
  have keep : ∀ y ls, HandAt w2 y ls → (∀ g, y.ownBlock = some g → v.ownBlock ≠ some g ∧ g ≠ Bq ∧ g < w2.heap.size) → HandAt (w1.setCell ⟨Bq, 1, none⟩ v') y ls ∧ ∀ g, y.ownBlock = some g → v'.ownBlock ≠ some g ∧ g ≠ Bq ∧ g < (w1.setCell ⟨Bq, 1, none⟩ v').heap.size := by
    intro y ls hy hne
    have hy2 := HandAt.grown (hy.below halloc) hg (fun g e => (hne g e).1)
    refine ⟨?_, fun g e => ?_⟩
    · obtain ⟨a, cap, rfl, hl, hj⟩ := hy2
      refine ⟨a, cap, rfl, hl, fun j hj' => ?_⟩
      obtain ⟨g, o, rfl, hgl, x0, x1, x2, x3⟩ := hj j hj'
      have ne : ∀ k x, w1.cell? ⟨g, k, none⟩ = some x → (w1.setCell ⟨Bq, 1, none⟩ v').cell? ⟨g, k, none⟩ = some x := fun k x hx => by
        rw [World.cell?_setCell_other]
        · exact hx
        · intro e; exact (hne g rfl).2.1 (congrArg Addr.block e).symm
      exact ⟨g, o, rfl, by simpa using hgl, ne _ _ x0, ne _ _ x1, ne _ _ x2, ne _ _ x3⟩
    · obtain ⟨a, b, c⟩ := hne g e
      exact ⟨hv g c a, b, by omega⟩
  refine ⟨by simpa using hix, by simp [h.len], fun j y hy => ?_⟩
  rw [lines_snoc]
  by_cases hj : j < q.length
  · rw [if_pos hj]
    rw [List.getElem?_append_left (by rw [h.len]; exact hj)] at hy
    obtain ⟨a1, a2⟩ := h.hands j y hy
    exact keep y _ a1 a2
  · have hj' : j = q.length := by
      have := (List.getElem?_eq_some_iff.1 hy).1
      have := h.len
      simp at *; omega
    subst hj'
    rw [if_neg hj, if_pos rfl]
    rw [List.getElem?_append_right (by rw [h.len]; exact Nat.le_refl _), h.len] at hy
    simp at hy
    subst hy
    exact keep _ _ hx hxo
/-- At last it is a program. -/
theorem QX.prog {w : World} {words : Int} {u : Value} {Bq : Nat} {v : Value} {cs : List Value} {q : List (List Ln)} {wr : World} (h : QX w words u Bq v cs q wr) (hl : q.length ≤ maxLen) : IsProg wr v q := by
  have hown := h.ix.own
  by_cases h0 : q.length = 0
  · have hq : q = [] := by simpa using h0
    subst hq
    rcases hown.2 with ⟨hv, -⟩ | ⟨g, cap, cur, hv, -⟩
    · rw [hv]; exact ⟨none, 0, rfl, by simp, fun k hk => by simp at hk⟩
    · rw [hv]; exact ⟨_, cap, rfl, by simp, fun k hk => by simp at hk⟩
  · obtain ⟨g, cap, cur, rfl, hg, hb, hc, hs, ht⟩ := own_slice hown h0
    refine ⟨_, cap, rfl, hl, fun i hi => ⟨g, 0, rfl, hb.lt, ?_⟩⟩
    obtain ⟨y, hy⟩ : ∃ y, cs[i]? = some y := ⟨_, List.getElem?_eq_getElem (by rw [h.len]; exact hi)⟩
    refine ⟨y, ?_, (h.hands i y hy).1⟩
    rw [hb.cell, Nat.zero_add]
    rw [← ht, List.getElem?_take_of_lt (by omega)] at hy
    simpa using hy
theorem hand_own {w : World} {base : Nat} {v : Value} {ls : List Ln} (h : w.ownsRow base 44 4 v ls.length (handCells ls)) (hl : ls.length ≤ maxLen) :
    HandAt w v ls ∧ (∀ g, v.ownBlock = some g → base ≤ g ∧ g < w.heap.size) := by
  by_cases h0 : ls.length = 0
  · have hq : ls = [] := by simpa using h0
    subst hq
    refine ⟨?_, h.lt⟩
    rcases h.2 with ⟨hv, -⟩ | ⟨g, cap, cur, hv, -⟩
    · rw [hv]; exact ⟨none, 0, rfl, by simp, fun k hk => by simp at hk⟩
    · rw [hv]; exact ⟨_, cap, rfl, by simp, fun k hk => by simp at hk⟩
  · exact own_hand h h0 hl
end Go.Proofs.Ytimbdjmplcgilaa.Tso
