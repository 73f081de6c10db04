import Derived.Test.YtimbdjmplcgilaaTQ4
import Derived.Test.YtimbdjmplcgilaaTsFlush
import Derived.Test.YtimbdjmplcgilaaTsStep
import Derived.Test.YtimbdjmplcgilaaTsCov
import Derived.Test.YtimbdjmplcgilaaScRes
import Derived.Test.YtimbdjmplcgilaaSorted
import Derived.Deep.CutRange
namespace Go.Proofs.Ytimbdjmplcgilaa.Tso
open Go.RowKit Pr SortFn TQ
set_option linter.unusedVariables false

theorem wf_vec {words : Int} {p : List (List Ln)} (hf : Fine words p) {s : TS} (h : Reach p s) : TQ.Wf (vec s) :=
  ⟨vec_len s, small_of (fun x hx => by
    unfold vec at hx
    obtain ⟨j, -, rfl⟩ := List.mem_map.1 hx
    have := enc_bd hf h j; omega)⟩
theorem ints_vec (s : TS) {j : Nat} (hj : j < 60) : (ints (vec s)).toArray[j]? = some (.int .i64 (enc s j)) := by
  simp [ints, vec, hj]
/-- A state in a box. -/
theorem st_box {w : World} {L : Nat} {s : TS} (h : Blk w L (ints (vec s)).toArray 77) : TAt w L s := fun j hj =>
  ⟨by rw [h.cell]; exact ints_vec s hj, h.free _⟩
/-- The search amid: the box of the program, the queue, and what came of it so far. -/
structure SX (w : World) (words : Int) (u : Value) (Q B g : Nat) (ss : List (List Int)) (v : Value) (R : List (List Int)) (vals : List Value) (wr : World) : Prop where
  bel : Below w.heap.size w wr
  size : w.heap.size + 1 ≤ wr.heap.size
  box : Blk wr w.heap.size #[.int .i64 words, u] 26
  qw : w.heap.size < Q ∧ w.heap.size < B ∧ w.heap.size < g
  q : QAt wr Q B g ss
  out : OutAt wr (w.heap.size + 1) [Q, B, g] v R vals
theorem SX.below {w wr w' : World} {words : Int} {u : Value} {Q B g : Nat} {ss : List (List Int)} {v : Value} {R : List (List Int)} {vals : List Value} (h : SX w words u Q B g ss v R vals wr) (k : Below wr.heap.size wr w') : SX w words u Q B g ss v R vals w' :=
  ⟨h.bel.trans (k.mono (by have := h.size; omega)), Nat.le_trans h.size k.size, h.box.below k (by have := h.size; omega), h.qw, h.q.new k, h.out.below k⟩
theorem SX.add {w wr w' : World} {words : Int} {u : Value} {Q B g g' : Nat} {ss ss' : List (List Int)} {v : Value} {R : List (List Int)} {vals : List Value} (h : SX w words u Q B g ss v R vals wr) (hq : QAt w' Q B g' ss') (k : OnlyG [Q, B, g] wr w') (hg : g' = g ∨ wr.heap.size ≤ g') : SX w words u Q B g' ss' v R vals w' := by
  have hqw := h.qw
  have hsz := h.size
  exact ⟨h.bel.trans (k.below (by simp; omega) (by omega)), Nat.le_trans h.size k.size_le, k.blk (by simp; omega) h.box, by omega, hq, h.out.add k hg⟩
theorem SX.pg {w wr : World} {words : Int} {u : Value} {Q B g : Nat} {ss : List (List Int)} {v : Value} {R : List (List Int)} {vals : List Value} {p : List (List Ln)} (h : SX w words u Q B g ss v R vals wr) (hp : IsProg w u p) : IsProg wr u p := hp.below h.bel
theorem gave_nums {w w' : World} {R : List Int} {v : Value} (h : Gave R w v w') (hl : R.length ≤ maxLen) : Nums w' v R ∧ ∃ b, v.ownBlock = some b ∧ w.heap.size ≤ b ∧ b < w'.heap.size := by
  obtain ⟨g, cap, rfl, h1, h2, hr⟩ := h
  exact ⟨⟨_, cap, rfl, hl, fun k hk => ⟨g, 0, rfl, ⟨h2, h1.2⟩, by have := (hr k hk).1; simpa using this⟩⟩, g, rfl, h1.1, h2⟩
theorem SX.push {w wr w2 w1 : World} {words : Int} {u : Value} {Q B g n : Nat} {ss : List (List Int)} {v v' x : Value} {R : List (List Int)} {vals cs : List Value} {l : List Int} {T : TypeId} (h : SX w words u Q B g ss v R vals wr) (k : Below wr.heap.size wr w2)
    (hG : Nums w2 x l ∧ ∃ b, x.ownBlock = some b ∧ wr.heap.size ≤ b ∧ b < w2.heap.size)
    (hown : w1.ownsRow (w.heap.size + 1) 34 1 v' n cs) (hg : (w2.alloc (.cells #[x] T)).grownBy w1 v.ownBlock) (hat : v'.ownBlock = v.ownBlock ∨ v'.ownBlock = some (w2.alloc (.cells #[x] T)).heap.size) (hn : n = R.length + 1) (hc : cs = vals ++ [x]) :
    SX w words u Q B g ss v' (R ++ [l]) (vals ++ [x]) w1 := by
  obtain ⟨hx, b, hb, hb1, hb2⟩ := hG
  have h2 := h.below k
  have hqw := h2.qw
  have hQ := h2.q.qlt
  have hB := h2.q.set.lt
  have hgl := h2.q.glt
  have hQ0 := h.q.qlt
  have hB0 := h.q.set.lt
  have hg0 := h.q.glt
  have hlt := h.out.own.lt
  have hvb := fun e => (hlt b e).2
  have hsz : (w2.alloc (.cells #[x] T)).heap.size = w2.heap.size + 1 := by simp
  have hsz1 := hg.size
  have kb : ∀ b, b < w2.heap.size → v.ownBlock ≠ some b → w1.heap[b]? = w2.heap[b]? := fun b h1 h3 => by
    rw [hg.block b (by omega) (fun e => h3 e.symm)]
    exact Below.heap_alloc _ _ _ h1
  have hout := h2.out.out
  have nQ : ∀ b, b ∈ [Q, B, g] → v.ownBlock ≠ some b := fun b hm e => hout b e hm
  have hbase : ∀ k, v.ownBlock = some k → w.heap.size + 1 ≤ k := fun k e => (h2.out.own.lt k e).1
  have hbl : Below (w.heap.size + 1) w2 w1 := ((Below.refl _ _).alloc h2.size _).grown hg (by have := h2.size; simp; omega) hbase
  refine ⟨h2.bel.trans (hbl.mono (by omega)), by have := h2.size; omega, h2.box.below hbl (by omega), h2.qw, h2.q.keep (kb Q hQ (nQ Q (by simp))) (kb B hB (nQ B (by simp))) (kb g hgl (nQ g (by simp))), ?_⟩
  exact h2.out.push (fun b hm => by simp at hm; omega) hx hb (by simp; omega) (fun e => by have := hvb e; omega) hb2 hown hg hat hn hc
theorem infoRow : (Try.prog.info? 34).map (fun i => (i.zero, i.size, i.bytes)) = some (some (.slice none 0 0), 1, 24) := by kernel_rfl

/-- What tso.Results tells. -/
inductive Told (words : Int) (p : List (List Ln)) (w : World) (w' : World) : Ending → Prop
  | err : check words p ≠ 0 → Told words p w w' (.returned (.tuple #[.slice none 0 0, .iface 81 (.int .i64 (check words p))]))
  | ok {v : Value} {R : List (List Int)} : check words p = 0 → Mat w' v R → Res words p R → R.length ≤ 72832127856 → Told words p w w' (.returned (.tuple #[v, .nilIface]))
end Go.Proofs.Ytimbdjmplcgilaa.Tso
