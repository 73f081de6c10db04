import Derived.Test.YtimbdjmplcgilaaDoorSQ
import Derived.Test.YtimbdjmplcgilaaDoorScLaw
import Derived.Test.YtimbdjmplcgilaaDoorSortW
import Derived.Deep.CutRange
namespace Go.Proofs.YtimbdjmplcgilaaDoor.Sc
open Go.RowKit Pr SortFn SQ
set_option linter.unusedVariables false

theorem Reach.bd {words : Int} {p : List (List Ln)} (hf : Fine words p) {f : St} (h : Reach p f) : ∀ j, 0 ≤ f j ∧ f j ≤ 1000 := by
  have hn := hf.n
  induction h with
  | zero => intro j; simp [St.zero]
  | @step f h hr hh hm ih =>
    intro j
    obtain ⟨ho, hc⟩ := hr.fine hf
    have hg := hf.line (ho.at0 h (by omega)).1 hm
    by_cases hj : j < 4
    · have := ((Reach.step hr hh hm).fine hf).1.at0 j hj; omega
    · have e3 : ∀ (g : St) v, upd g h v j = g j := fun g v => upd_other (by omega)
      have e4 : ∀ (g : St) i v, (0 ≤ g j ∧ g j ≤ 1000) → (0 ≤ v ∧ v ≤ 1000) → 0 ≤ upd g i v j ∧ upd g i v j ≤ 1000 := fun g i v h1 h2 => by
        unfold upd; split
        · exact h2
        · exact h1
      have e5 : ∀ v, 0 ≤ upd f h v j ∧ upd f h v j ≤ 1000 := fun v => by rw [e3]; exact ih j
      unfold Pr.done
      repeat' split
      · exact e4 _ _ _ (e5 _) (hg.v0 (by assumption))
      · exact e4 _ _ _ (e5 _) (ih _)
      · exact e4 _ _ _ (e5 _) (ih _)
      · exact e4 _ _ _ (e4 _ _ _ (e5 _) (ih _)) (ih _)
      all_goals exact e5 _
theorem wf_vec {words : Int} {p : List (List Ln)} (hf : Fine words p) {f : St} (h : Reach p f) : SQ.Wf (vec f) :=
  ⟨vec_len f, small_of (fun x hx => by
    unfold vec at hx
    obtain ⟨j, -, rfl⟩ := List.mem_map.1 hx
    have := h.bd hf j; omega)⟩
theorem ints_vec (f : St) {j : Nat} (hj : j < 16) : (ints (vec f)).toArray[j]? = some (.int .i64 (f j)) := by
  simp [ints, vec, hj]
/-- A state in a box. -/
theorem st_box {w : World} {L : Nat} {f : St} (h : Blk w L (ints (vec f)).toArray 67) : StAt w L f := fun j hj =>
  ⟨by rw [h.cell]; exact ints_vec f hj, h.free _⟩
/-- .. and back. -/
theorem box_st {w : World} {L : Nat} {f g : St} (h : StAt w L g) : (Instr.loadAt 67 (.pointer (some ⟨L, 0, none⟩))).run Tryd.prog w = .ok (stVal (vec g)) w := by
  have := run_loadAt_mid (P := Tryd.prog) w L 0 67 (ints (vec g)) _ (fun j v hv => by
    have hj : j < 16 := by
      have := (List.getElem?_eq_some_iff.1 hv).1
      simpa [ints, vec] using this
    rw [Nat.zero_add, (h j hj).1]
    have := ints_vec g hj
    simp only [List.getElem?_toArray] at this
    rw [this] at hv
    exact hv) Tryd.underlying67 rfl (by rw [infoK]; simp [ints, vec])
  exact this
theorem zero_val : stVal (vec St.zero) = .agg (List.toArray (Value.int .i64 0 :: Value.int .i64 0 :: Value.int .i64 0 :: Value.int .i64 0 :: Value.int .i64 0 :: Value.int .i64 0 :: Value.int .i64 0 :: Value.int .i64 0 :: Value.int .i64 0 :: Value.int .i64 0 :: Value.int .i64 0 :: Value.int .i64 0 :: Value.int .i64 0 :: Value.int .i64 0 :: Value.int .i64 0 :: Value.int .i64 0 :: [])) := rfl

/-- The search amid: the box of the program, the queue, and what came of it so far. -/
structure SX (w : World) (words : Int) (u : Value) (Q B g : Nat) (ss : List (List Int)) (v : Value) (R : List (List Int)) (vals : List Value) (wr : World) : Prop where
  bel : Below w.heap.size w wr
  size : w.heap.size + 1 ≤ wr.heap.size
  box : Blk wr w.heap.size #[.int .i64 words, u] 24
  qw : w.heap.size < Q ∧ w.heap.size < B ∧ w.heap.size < g
  q : QAt wr Q B g ss
  out : OutAt wr (w.heap.size + 1) [Q, B, g] v R vals
theorem SX.below {w wr w' : World} {words : Int} {u : Value} {Q B g : Nat} {ss : List (List Int)} {v : Value} {R : List (List Int)} {vals : List Value} (h : SX w words u Q B g ss v R vals wr) (k : Below wr.heap.size wr w') : SX w words u Q B g ss v R vals w' :=
  ⟨h.bel.trans (k.mono (by have := h.size; omega)), Nat.le_trans h.size k.size, h.box.below k (by have := h.size; omega), h.qw, h.q.new k, h.out.below k⟩
theorem SX.add {w wr w' : World} {words : Int} {u : Value} {Q B g g' : Nat} {ss ss' : List (List Int)} {v : Value} {R : List (List Int)} {vals : List Value} (h : SX w words u Q B g ss v R vals wr) (hq : QAt w' Q B g' ss') (k : OnlyG [Q, B, g] wr w') (hg : g' = g ∨ wr.heap.size ≤ g') : SX w words u Q B g' ss' v R vals w' := by
  have hqw := h.qw
  have hsz := h.size
  exact ⟨h.bel.trans (k.below (by simp; omega) (by omega)), Nat.le_trans h.size k.size_le, k.blk (by simp; omega) h.box, by omega, hq, h.out.add k hg⟩
theorem SX.pg {w wr : World} {words : Int} {u : Value} {Q B g : Nat} {ss : List (List Int)} {v : Value} {R : List (List Int)} {vals : List Value} {p : List (List Ln)} (h : SX w words u Q B g ss v R vals wr) (hp : IsProg w u p) : IsProg wr u p := hp.below h.bel
theorem gave_nums {w w' : World} {R : List Int} {v : Value} (h : Gave R w v w') (hl : R.length ≤ maxLen) : Nums w' v R ∧ ∃ b, v.ownBlock = some b ∧ w.heap.size ≤ b ∧ b < w'.heap.size := by
  obtain ⟨g, cap, rfl, h1, h2, hr⟩ := h
  exact ⟨⟨_, cap, rfl, hl, fun k hk => ⟨g, 0, rfl, ⟨h2, h1.2⟩, by have := (hr k hk).1; simpa using this⟩⟩, g, rfl, h1.1, h2⟩
theorem SX.push {w wr w2 w1 : World} {words : Int} {u : Value} {Q B g n : Nat} {ss : List (List Int)} {v v' x : Value} {R : List (List Int)} {vals cs : List Value} {l : List Int} {T : TypeId} (h : SX w words u Q B g ss v R vals wr) (k : Below wr.heap.size wr w2)
    (hG : Nums w2 x l ∧ ∃ b, x.ownBlock = some b ∧ wr.heap.size ≤ b ∧ b < w2.heap.size)
    (hown : w1.ownsRow (w.heap.size + 1) 47 1 v' n cs) (hg : (w2.alloc (.cells #[x] T)).grownBy w1 v.ownBlock) (hat : v'.ownBlock = v.ownBlock ∨ v'.ownBlock = some (w2.alloc (.cells #[x] T)).heap.size) (hn : n = R.length + 1) (hc : cs = vals ++ [x]) :
    SX w words u Q B g ss v' (R ++ [l]) (vals ++ [x]) w1 := by
  obtain ⟨hx, b, hb, hb1, hb2⟩ := hG
  have h2 := h.below k
  have hqw := h2.qw
  have hQ := h2.q.qlt
  have hB := h2.q.set.lt
  have hgl := h2.q.glt
  have hQ0 := h.q.qlt
  have hB0 := h.q.set.lt
  have hg0 := h.q.glt
  have hlt := h.out.own.lt
  have hvb := fun e => (hlt b e).2
  have hsz : (w2.alloc (.cells #[x] T)).heap.size = w2.heap.size + 1 := by simp
  have hsz1 := hg.size
  have kb : ∀ b, b < w2.heap.size → v.ownBlock ≠ some b → w1.heap[b]? = w2.heap[b]? := fun b h1 h3 => by
    rw [hg.block b (by omega) (fun e => h3 e.symm)]
    exact Below.heap_alloc _ _ _ h1
  have hout := h2.out.out
  have nQ : ∀ b, b ∈ [Q, B, g] → v.ownBlock ≠ some b := fun b hm e => hout b e hm
  have hbase : ∀ k, v.ownBlock = some k → w.heap.size + 1 ≤ k := fun k e => (h2.out.own.lt k e).1
  have hbl : Below (w.heap.size + 1) w2 w1 := ((Below.refl _ _).alloc h2.size _).grown hg (by have := h2.size; simp; omega) hbase
  refine ⟨h2.bel.trans (hbl.mono (by omega)), by have := h2.size; omega, h2.box.below hbl (by omega), h2.qw, h2.q.keep (kb Q hQ (nQ Q (by simp))) (kb B hB (nQ B (by simp))) (kb g hgl (nQ g (by simp))), ?_⟩
  exact h2.out.push (fun b hm => by simp at hm; omega) hx hb (by simp; omega) (fun e => by have := hvb e; omega) hb2 hown hg hat hn hc
theorem infoRow : (Tryd.prog.info? 47).map (fun i => (i.zero, i.size, i.bytes)) = some (some (.slice none 0 0), 1, 24) := by kernel_rfl

/-- What sc.Results tells. -/
inductive Told (words : Int) (p : List (List Ln)) (w : World) (w' : World) : Ending → Prop
  | err : check words p ≠ 0 → Told words p w w' (.returned (.tuple #[.slice none 0 0, .iface 74 (.int .i64 (check words p))]))
  | ok {v : Value} {R : List (List Int)} : check words p = 0 → Mat w' v R → Res words p R → R.length ≤ 21523360 → Told words p w w' (.returned (.tuple #[v, .nilIface]))
end Go.Proofs.YtimbdjmplcgilaaDoor.Sc
