import Derived.Test.YtgkfgijmccojjaaDoorMach
import Derived.Deep.AppendLies
import Derived.Deep.RegionLaw
namespace Go.Proofs.YtgkfgijmccojjaaDoor
open Go.RowKit
set_option linter.unusedVariables false

/-- The machine at the start: all at line 1. -/
def first1 (f : Nat → Int) : MS := { wd := f, at_ := fun _ => 1, ow := fun _ _ => 0 }

theorem own_keep {w w' : World} {base : Nat} {e : TypeId} {size : Nat} {v : Value} {n : Nat} {xs : List Value} (h : w.ownsRow base e size v n xs) (hk : ∀ g, v.ownBlock = some g → w'.heap[g]? = w.heap[g]?) : w'.ownsRow base e size v n xs := by
  refine ⟨h.1, ?_⟩
  rcases h.2 with h2 | ⟨g, cap, cur, rfl, h3, h4, h5⟩
  · exact .inl h2
  · exact .inr ⟨g, cap, cur, rfl, h3, by rw [hk g rfl]; exact h4, h5⟩
theorem own_lt {w : World} {base : Nat} {e : TypeId} {size : Nat} {v : Value} {n : Nat} {xs : List Value} (h : w.ownsRow base e size v n xs) {g : Nat} (hg : v.ownBlock = some g) : base ≤ g ∧ g < w.heap.size := by
  rcases h.2 with ⟨rfl, -⟩ | ⟨g', cap, cur, rfl, h3, h4, -⟩
  · simp [Value.ownBlock] at hg
  · simp [Value.ownBlock] at hg
    subst hg
    refine ⟨h3, ?_⟩
    rcases Nat.lt_or_ge g' w.heap.size with x | x
    · exact x
    · rw [Array.getElem?_eq_none x] at h4; exact absurd h4 (by simp)

def ones (k : Nat) : List Value := (List.range k).map fun _ => .int .i64 1
theorem ones_succ (k : Nat) : ones (k + 1) = ones k ++ [.int .i64 1] := by simp [ones, List.range_succ]
theorem refCells_succ (no : Nat) (ob oc : Nat → Nat) (k b c : Nat) : refCells no (fun q => if q = k then b else ob q) (fun q => if q = k then c else oc q) (k + 1) = refCells no ob oc k ++ [.slice (some ⟨b, 0, none⟩) no c] := by
  unfold refCells
  rw [List.range_succ, List.map_append]
  congr 1
  · apply List.map_congr_left
    intro q hq
    have : q < k := by simpa using hq
    simp [show q ≠ k by omega]
  · simp

/-- What holds at each round's head, k hands laid. -/
structure Laying (w : World) (n nw no bW cW : Nat) (f : Nat → Int) (k : Nat) (vA vO : Value) (ob oc : Nat → Nat) (wr : World) : Prop where
  bel : Below w.heap.size w wr
  size : w.heap.size + 2 ≤ wr.heap.size
  out : Blk wr w.heap.size #[.int .i64 0, .slice none 0 0, .slice none 0 0, .slice none 0 0] 27
  box : Blk wr (w.heap.size + 1) #[.int .i64 n, .slice (some ⟨bW, 0, none⟩) nw cW, vA, vO] 27
  ownA : wr.ownsRow (w.heap.size + 2) 3 1 vA k (ones k)
  ownO : wr.ownsRow (w.heap.size + 2) 22 1 vO k (refCells no ob oc k)
  apart : ∀ g, vA.ownBlock = some g → vO.ownBlock ≠ some g ∧ ∀ p, p < k → ob p ≠ g
  apartO : ∀ g, vO.ownBlock = some g → ∀ p, p < k → ob p ≠ g
  rows : ∀ p, p < k → w.heap.size + 2 ≤ ob p ∧ ob p < wr.heap.size ∧ Row wr (ob p) no (fun j => j) (fun _ => 0)

theorem Laying.begin (w : World) (n nw no bW cW : Nat) (f : Nat → Int) :
    Laying w n nw no bW cW f 0 (.slice none 0 0) (.slice none 0 0) (fun _ => 0) (fun _ => 0)
      ((w.alloc (.cells #[.int .i64 0, .slice none 0 0, .slice none 0 0, .slice none 0 0] 27)).alloc (.cells #[.int .i64 n, .slice (some ⟨bW, 0, none⟩) nw cW, .slice none 0 0, .slice none 0 0] 27)) := by
  have h := Blk.new (w.alloc (.cells #[.int .i64 0, .slice none 0 0, .slice none 0 0, .slice none 0 0] 27)) #[.int .i64 n, .slice (some ⟨bW, 0, none⟩) nw cW, .slice none 0 0, .slice none 0 0] 27
  exact ⟨((Below.refl _ _).alloc (Nat.le_refl _) _).alloc (by simp) _, by simp, (Blk.new _ _ _).alloc _, by simpa using h, ⟨rfl, .inl ⟨rfl, rfl⟩⟩, ⟨rfl, .inl ⟨rfl, rfl⟩⟩,
    fun g hg => by simp [Value.ownBlock] at hg, fun g hg => by simp [Value.ownBlock] at hg, fun p hp => by omega⟩

/-- Behind the first append of a round: the box's third cell is not yet written. -/
theorem Laying.stepA {w : World} {n nw no bW cW : Nat} {f : Nat → Int} {k : Nat} {vA vO : Value} {ob oc : Nat → Nat} {wr w1 : World} (h : Laying w n nw no bW cW f k vA vO ob oc wr) {g cap : Nat}
    (hown : w1.ownsRow (w.heap.size + 2) 3 1 (.slice (some ⟨g, 0, none⟩) (k + 1) cap) (k + 1) (ones k ++ [.int .i64 1])) (o : Obj) (hgrow : (wr.alloc o).grownBy w1 vA.ownBlock) (hat : vA.ownBlock = some g ∨ g = wr.heap.size + 1) :
    Below w.heap.size w (w1.setCell ⟨w.heap.size + 1, 2, none⟩ (.slice (some ⟨g, 0, none⟩) (k + 1) cap)) ∧
    w.heap.size + 2 ≤ w1.heap.size ∧
    Blk (w1.setCell ⟨w.heap.size + 1, 2, none⟩ (.slice (some ⟨g, 0, none⟩) (k + 1) cap)) w.heap.size #[.int .i64 0, .slice none 0 0, .slice none 0 0, .slice none 0 0] 27 ∧
    Blk w1 (w.heap.size + 1) #[.int .i64 n, .slice (some ⟨bW, 0, none⟩) nw cW, vA, vO] 27 ∧
    (w1.setCell ⟨w.heap.size + 1, 2, none⟩ (.slice (some ⟨g, 0, none⟩) (k + 1) cap)).ownsRow (w.heap.size + 2) 3 1 (.slice (some ⟨g, 0, none⟩) (k + 1) cap) (k + 1) (ones (k + 1)) ∧
    (w1.setCell ⟨w.heap.size + 1, 2, none⟩ (.slice (some ⟨g, 0, none⟩) (k + 1) cap)).ownsRow (w.heap.size + 2) 22 1 vO k (refCells no ob oc k) ∧
    (vO.ownBlock ≠ some g ∧ ∀ p, p < k → ob p ≠ g) ∧
    (∀ p, p < k → w.heap.size + 2 ≤ ob p ∧ ob p < w1.heap.size ∧ Row (w1.setCell ⟨w.heap.size + 1, 2, none⟩ (.slice (some ⟨g, 0, none⟩) (k + 1) cap)) (ob p) no (fun j => j) (fun _ => 0)) := by
  have hs1 : wr.heap.size + 1 ≤ w1.heap.size := by simpa using hgrow.size
  have hk : ∀ q, q < wr.heap.size → some q ≠ vA.ownBlock → w1.heap[q]? = wr.heap[q]? := fun q hq hne => by
    rw [hgrow.block q (by simp; omega) hne, Below.heap_alloc _ _ _ hq]
  have hbase : ∀ q, vA.ownBlock = some q → w.heap.size + 2 ≤ q := fun q hq => (own_lt h.ownA hq).1
  have hset : ∀ q, q ≠ w.heap.size + 1 → (w1.setCell ⟨w.heap.size + 1, 2, none⟩ (.slice (some ⟨g, 0, none⟩) (k + 1) cap)).heap[q]? = w1.heap[q]? := fun q hq => Below.heap_setCell _ _ _ _ (by intro e; first | exact hq e | exact hq e.symm)
  have hsz := h.size
  have hnb : ∀ q, q < w.heap.size + 2 → some q ≠ vA.ownBlock := fun q hq e => by have := hbase q e.symm; omega
  have hbel1 : Below w.heap.size w w1 := ⟨hgrow.os.trans h.bel.os, hgrow.tape.trans h.bel.tape, hgrow.output.trans h.bel.output, Nat.le_trans h.bel.size (by omega), fun q hq => (hk q (by omega) (hnb q (by omega))).trans (h.bel.block q hq)⟩
  have hg2 : w.heap.size + 2 ≤ g := (own_lt hown (g := g) rfl).1
  have hO := fun q (hq : vO.ownBlock = some q) => (own_lt h.ownO hq)
  refine ⟨hbel1.setCell (p := ⟨w.heap.size + 1, 2, none⟩) (by simp) _, by omega, ?_, ?_, ?_, ?_, ?_, ?_⟩
  · have := h.out
    unfold Blk at *
    rw [hset _ (by omega), hk _ (by omega) (hnb _ (by omega))]; exact this
  · have := h.box
    unfold Blk at *
    rw [hk _ (by omega) (hnb _ (by omega))]; exact this
  · rw [ones_succ]
    exact own_keep hown (fun q hq => hset q (by have := (own_lt hown hq).1; omega))
  · refine own_keep h.ownO (fun q hq => ?_)
    rw [hset q (by have := (hO q hq).1; omega)]
    exact hk q (hO q hq).2 (fun e => (h.apart q e.symm).1 hq)
  · rcases hat with e | e
    · exact h.apart g e
    · exact ⟨fun x => by have := (hO g x).2; omega, fun p hp => by have := (h.rows p hp).2.1; omega⟩
  · intro p hp
    obtain ⟨h1, h2, h3⟩ := h.rows p hp
    refine ⟨h1, by omega, h3.keep ?_⟩
    rw [hset _ (by omega)]
    exact hk _ h2 (fun e => (h.apart _ e.symm).2 p hp rfl)

/-- Between a round's two appends. -/
structure Midst (w : World) (n nw no bW cW k g cap : Nat) (vO : Value) (ob oc : Nat → Nat) (w2 : World) : Prop where
  bel : Below w.heap.size w w2
  size : w.heap.size + 2 ≤ w2.heap.size
  out : Blk w2 w.heap.size #[.int .i64 0, .slice none 0 0, .slice none 0 0, .slice none 0 0] 27
  box : Blk w2 (w.heap.size + 1) #[.int .i64 n, .slice (some ⟨bW, 0, none⟩) nw cW, .slice (some ⟨g, 0, none⟩) (k + 1) cap, vO] 27
  ownA : w2.ownsRow (w.heap.size + 2) 3 1 (.slice (some ⟨g, 0, none⟩) (k + 1) cap) (k + 1) (ones (k + 1))
  ownO : w2.ownsRow (w.heap.size + 2) 22 1 vO k (refCells no ob oc k)
  apart : vO.ownBlock ≠ some g ∧ ∀ p, p < k → ob p ≠ g
  apartO : ∀ g, vO.ownBlock = some g → ∀ p, p < k → ob p ≠ g
  rows : ∀ p, p < k → w.heap.size + 2 ≤ ob p ∧ ob p < w2.heap.size ∧ Row w2 (ob p) no (fun j => j) (fun _ => 0)
theorem Laying.midst {w : World} {n nw no bW cW : Nat} {f : Nat → Int} {k : Nat} {vA vO : Value} {ob oc : Nat → Nat} {wr w1 : World} (h : Laying w n nw no bW cW f k vA vO ob oc wr) {g cap : Nat}
    (hown : w1.ownsRow (w.heap.size + 2) 3 1 (.slice (some ⟨g, 0, none⟩) (k + 1) cap) (k + 1) (ones k ++ [.int .i64 1])) (o : Obj) (hgrow : (wr.alloc o).grownBy w1 vA.ownBlock) (hat : vA.ownBlock = some g ∨ g = wr.heap.size + 1) :
    Midst w n nw no bW cW k g cap vO ob oc (w1.setCell ⟨w.heap.size + 1, 2, none⟩ (.slice (some ⟨g, 0, none⟩) (k + 1) cap)) := by
  obtain ⟨s1, s2, s3, s4, s5, s6, s7, s8⟩ := h.stepA hown o hgrow hat
  refine ⟨s1, by simpa using s2, s3, (s4.set 2 _).eq (by simp), s5, s6, s7, h.apartO, fun p hp => ?_⟩
  obtain ⟨x, y, z⟩ := s8 p hp
  exact ⟨x, by simpa using y, z⟩

theorem Midst.stepB {w : World} {n nw no bW cW k g cap : Nat} {f : Nat → Int} {vO : Value} {ob oc : Nat → Nat} {w2 w4 : World} (h : Midst w n nw no bW cW k g cap vO ob oc w2) {g2 cap2 : Nat} {T T' : TypeId}
    (hown : w4.ownsRow (w.heap.size + 2) 22 1 (.slice (some ⟨g2, 0, none⟩) (k + 1) cap2) (k + 1) (refCells no ob oc k ++ [.slice (some ⟨w2.heap.size, 0, none⟩) no no])) {c : Array Value}
    (hgrow : (((w2.alloc (.cells (zeros no) T)).alloc (.cells c T')).drew).grownBy w4 vO.ownBlock) (hat : vO.ownBlock = some g2 ∨ g2 = w2.heap.size + 2) :
    Laying w n nw no bW cW f (k + 1) (.slice (some ⟨g, 0, none⟩) (k + 1) cap) (.slice (some ⟨g2, 0, none⟩) (k + 1) cap2) (fun q => if q = k then w2.heap.size else ob q) (fun q => if q = k then no else oc q)
      (w4.setCell ⟨w.heap.size + 1, 3, none⟩ (.slice (some ⟨g2, 0, none⟩) (k + 1) cap2)) := by
  have hs1 : w2.heap.size + 2 ≤ w4.heap.size := by simpa using hgrow.size
  have hheap : (((w2.alloc (.cells (zeros no) T)).alloc (.cells c T')).drew).heap = ((w2.alloc (.cells (zeros no) T)).alloc (.cells c T')).heap := rfl
  have hk : ∀ q, q < w2.heap.size → some q ≠ vO.ownBlock → w4.heap[q]? = w2.heap[q]? := fun q hq hne => by
    rw [hgrow.block q (by rw [hheap]; simp; omega) hne, hheap, Below.heap_alloc _ _ _ (by simp; omega), Below.heap_alloc _ _ _ hq]
  have hO := fun q (hq : vO.ownBlock = some q) => (own_lt h.ownO hq)
  have hA := own_lt h.ownA (g := g) rfl
  have hz : w4.heap[w2.heap.size]? = (w2.alloc (.cells (zeros no) T)).heap[w2.heap.size]? := by
    rw [hgrow.block w2.heap.size (by rw [hheap]; simp; omega) (fun e => by have := (hO _ e.symm).2; omega), hheap, Below.heap_alloc _ _ _ (by simp)]
  have hsz := h.size
  have hnb : ∀ q, q < w.heap.size + 2 → some q ≠ vO.ownBlock := fun q hq e => by have := (hO q e.symm).1; omega
  have hset : ∀ q, q ≠ w.heap.size + 1 → (w4.setCell ⟨w.heap.size + 1, 3, none⟩ (.slice (some ⟨g2, 0, none⟩) (k + 1) cap2)).heap[q]? = w4.heap[q]? := fun q hq => Below.heap_setCell _ _ _ _ (by intro e; first | exact hq e | exact hq e.symm)
  have hbel1 : Below w.heap.size w w4 := ⟨hgrow.os.trans h.bel.os, hgrow.tape.trans h.bel.tape, hgrow.output.trans h.bel.output, Nat.le_trans h.bel.size (by omega), fun q hq => (hk q (by omega) (hnb q (by omega))).trans (h.bel.block q hq)⟩
  have hg2 := own_lt hown (g := g2) rfl
  have hgg : g2 ≠ g := by
    rcases hat with e | e
    · intro x; subst x; exact h.apart.1 e
    · omega
  have hgr : ∀ p, p < k → ob p ≠ g2 := by
    intro p hp
    rcases hat with e | e
    · exact h.apartO g2 e p hp
    · have := (h.rows p hp).2.1; omega
  have hgz : w2.heap.size ≠ g2 := by
    rcases hat with e | e
    · have := (hO g2 e).2; omega
    · omega
  refine ⟨hbel1.setCell (p := ⟨w.heap.size + 1, 3, none⟩) (by simp) _, by simp; omega, ?_, ?_, ?_, ?_, ?_, ?_, ?_⟩
  · have := h.out
    unfold Blk at *
    rw [hset _ (by omega), hk _ (by omega) (hnb _ (by omega))]; exact this
  · have : Blk w4 (w.heap.size + 1) #[.int .i64 n, .slice (some ⟨bW, 0, none⟩) nw cW, .slice (some ⟨g, 0, none⟩) (k + 1) cap, vO] 27 := by
      have := h.box
      unfold Blk at *
      rw [hk _ (by omega) (hnb _ (by omega))]; exact this
    exact (this.set 3 _).eq (by simp)
  · refine own_keep h.ownA (fun q hq => ?_)
    simp [Value.ownBlock] at hq
    subst hq
    rw [hset _ (by omega)]
    exact hk _ hA.2 (fun e => h.apart.1 e.symm)
  · rw [refCells_succ]
    refine own_keep hown (fun q hq => ?_)
    simp [Value.ownBlock] at hq
    subst hq
    exact hset _ (by omega)
  · intro q hq
    simp [Value.ownBlock] at hq
    subst hq
    refine ⟨by simp [Value.ownBlock]; exact hgg, fun p hp => ?_⟩
    by_cases e : p = k
    · simp only [e, if_true]; omega
    · simp only [e, if_false]; exact h.apart.2 p (by omega)
  · intro q hq p hp
    simp [Value.ownBlock] at hq
    subst hq
    by_cases e : p = k
    · simp only [e, if_true]; exact hgz
    · simp only [e, if_false]; exact hgr p (by omega)
  · intro p hp
    by_cases e : p = k
    · simp only [e, if_true]
      refine ⟨by omega, by simp; omega, ?_⟩
      have hr : Row (w2.alloc (.cells (zeros no) T)) w2.heap.size no (fun j => j) (fun _ => 0) := zeros_row (Blk.new _ _ _)
      exact hr.keep (by rw [hset _ (by omega), hz])
    · simp only [e, if_false]
      obtain ⟨x, y, z⟩ := h.rows p (by omega)
      refine ⟨x, by simp; omega, z.keep ?_⟩
      rw [hset _ (by omega)]
      exact hk _ y (fun e => h.apartO _ e.symm p (by omega) rfl)

theorem Midst.keptBox {w : World} {n nw no bW cW k g cap : Nat} {vO : Value} {ob oc : Nat → Nat} {w2 w4 : World} (h : Midst w n nw no bW cW k g cap vO ob oc w2) {T T' : TypeId} {c : Array Value}
    (hgrow : (((w2.alloc (.cells (zeros no) T)).alloc (.cells c T')).drew).grownBy w4 vO.ownBlock) : Blk w4 (w.heap.size + 1) #[.int .i64 n, .slice (some ⟨bW, 0, none⟩) nw cW, .slice (some ⟨g, 0, none⟩) (k + 1) cap, vO] 27 := by
  have hheap : (((w2.alloc (.cells (zeros no) T)).alloc (.cells c T')).drew).heap = ((w2.alloc (.cells (zeros no) T)).alloc (.cells c T')).heap := rfl
  have hsz := h.size
  have := h.box
  unfold Blk at *
  rw [hgrow.block _ (by rw [hheap]; simp; omega) (fun e => by have := (own_lt h.ownO e.symm).1; omega), hheap, Below.heap_alloc _ _ _ (by simp; omega), Below.heap_alloc _ _ _ (by omega)]
  exact this

set_option maxHeartbeats 4000000 in
set_option maxRecDepth 100000 in
theorem mnew_any {w : World} {A : Nat → Prop} {n nw no bW cW : Nat} {N NO : Int} {f : Nat → Int} (hN : N = (n : Int)) (hNO : NO = (no : Int)) (hW : Row w bW nw (fun j => j) f) (hAW : A bW) (hA : ∀ k, w.heap.size ≤ k → A k) (h1 : 1 ≤ n) (h2 : n ≤ 4) (h3 : no ≤ 100) (h4 : 1 ≤ nw) :
    Calls Tryd.prog 14 #[.int .i64 N, .slice (some ⟨bW, 0, none⟩) nw cW, .int .i64 NO] w (Next A n nw no (first1 f) w) := by
  subst hN
  subst hNO
  have HW := Lib.hid hW
  have HA := Lib.hid hA
  obtain ⟨i0, hi0, hz0, hz1, hz2⟩ := info_parts infoRow
  obtain ⟨j0, hj0, hy0, hy1, hy2⟩ := info_parts infoInt
  have hmk := fun w => make_ints (no : Int) (by omega) (by omega) w
  simp only [Int.toNat_natCast] at hmk
  clear hW hA
  go_enter Tryd.func14, Tryd.ntmps14
  go_wp2_with fail
  go_loopw [8] (fun i wr => ∃ (k : Nat) (vA vO : Value) (ob oc : Nat → Nat), k ≤ n ∧ i = .int .i64 k ∧ Laying w n nw no bW cW f k vA vO ob oc wr) (fun i _ => n - (intOf i).toNat)
  case atStart => exact ⟨0, _, _, _, _, by omega, rfl, Laying.begin w n nw no bW cW f⟩
  case round =>
    obtain ⟨k, vA, vO, ob, oc, hk, rfl, hL⟩ := hrel
    have HL := Lib.hid hL
    by_cases hkn : k < n
    · have c2 : wr.cell? ⟨w.heap.size + 1, 2, none⟩ = some vA := hL.box.cell 2
      have f2 := hL.box.free 2
      have ne1 := World.new_ne wr _ c2
      have hownA := hL.ownA
      have hsz := hL.size
      clear hL
      go_wp2_with (at_builtin; refine wpList_append_lies _ rfl _ _ 22 rfl (w.heap.size + 2) 3 j0 (.int .i64 0) 1 8 Tryd.underlying22 hj0 hy0 hy1 hy2 rfl (by decide) vA k (ones k) rfl (hownA.alloc _) ⟨wr.heap.size, 0, none⟩ 1 1 [.int .i64 1] rfl rfl ?c1 ?c2 (by omega) ?c3 ?c4 ?c5 (wr.heap.size + 1) ?c6 ?_)
      case c2 => rfl
      case c3 => unfold maxLen; omega
      case c4 => omega
      case c5 => omega
      intro g cap w1 hown1 hgrow hat hlt
      have HM := Lib.hid (HL.out.midst hown1 _ hgrow hat)
      have hS := HL.out.stepA hown1 _ hgrow hat
      have c2' : w1.cell? ⟨w.heap.size + 1, 2, none⟩ = some vA := hS.2.2.2.1.cell 2
      have f2' := hS.2.2.2.1.free 2
      clear hownA hgrow hat hown1 hS c2 f2 ne1 hlt HL hsz
      go_wp2_with fail
      generalize w1.setCell ⟨w.heap.size + 1, 2, none⟩ (.slice (some ⟨g, 0, none⟩) (k + 1) cap) = w2 at HM ⊢
      have c3 : w2.cell? ⟨w.heap.size + 1, 3, none⟩ = some vO := HM.out.box.cell 3
      have f3 := HM.out.box.free 3
      have hsz := HM.out.size
      have c3a : (w2.alloc (.cells (zeros no) 3)).cell? ⟨w.heap.size + 1, 3, none⟩ = some vO := by rw [World.cell?_alloc_lt _ _ ⟨w.heap.size + 1, 3, none⟩ (by show w.heap.size + 1 < w2.heap.size; omega)]; exact c3
      have c3b : ((w2.alloc (.cells (zeros no) 3)).alloc (.cells #[.slice (some ⟨w2.heap.size, 0, none⟩) no no] 22)).cell? ⟨w.heap.size + 1, 3, none⟩ = some vO := by rw [World.cell?_alloc_lt _ _ ⟨w.heap.size + 1, 3, none⟩ (by show w.heap.size + 1 < (w2.alloc (.cells (zeros no) 3)).heap.size; simp; omega)]; exact c3a
      have HO : Hid (((w2.alloc (.cells (zeros no) 3)).alloc (.cells #[.slice (some ⟨w2.heap.size, 0, none⟩) no no] 22)).drew.ownsRow (w.heap.size + 2) 22 1 vO k (refCells no ob oc k)) := (HM.out.ownO.alloc _).alloc _
      have HN : Hid (∀ j u, ([.slice (some ⟨w2.heap.size, 0, none⟩) no no] : List Value)[j]? = some u → ((w2.alloc (.cells (zeros no) 3)).alloc (.cells #[.slice (some ⟨w2.heap.size, 0, none⟩) no no] 22)).drew.cell? ((⟨w2.heap.size + 1, 0, none⟩ : Addr).add j) = some u) := by
        intro j u hu
        have := news_cell (w2.alloc (.cells (zeros no) 3)) [.slice (some ⟨w2.heap.size, 0, none⟩) no no] 22 j u hu
        simpa using this
      have H1 : Hid (∀ u ∈ ([.slice (some ⟨w2.heap.size, 0, none⟩) no no] : List Value), u.oneCell' = true) := by intro u hu; simp at hu; subst hu; rfl
      have HB : Hid (w.heap.size + 2 ≤ ((w2.alloc (.cells (zeros no) 3)).alloc (.cells #[.slice (some ⟨w2.heap.size, 0, none⟩) no no] 22)).drew.heap.size) := by show w.heap.size + 2 ≤ ((w2.alloc (.cells (zeros no) 3)).alloc (.cells #[.slice (some ⟨w2.heap.size, 0, none⟩) no no] 22)).heap.size; simp; omega
      have HH : Hid (((w2.alloc (.cells (zeros no) 3)).alloc (.cells #[.slice (some ⟨w2.heap.size, 0, none⟩) no no] 22)).drew.heap.size = w2.heap.size + 2) := by show ((w2.alloc (.cells (zeros no) 3)).alloc (.cells #[.slice (some ⟨w2.heap.size, 0, none⟩) no no] 22)).heap.size = w2.heap.size + 2; simp
      have e63 : k + 1 ≤ maxLen := by unfold maxLen; omega
      have eby : (k + 1) * 24 ≤ 140737488355328 := by omega
      go_region_law ((refine step_append_lies _ (by rfl) (.tmp 23) (.tmp 26) 25 (by rfl) (w.heap.size + 2) 22 i0 (.slice none 0 0) 1 24 Tryd.underlying25 hi0 hz0 hz1 hz2 rfl (by decide) vO k (refCells no ob oc k) (by rfl) HO.out ⟨w2.heap.size + 1, 0, none⟩ 1 1 [.slice (some ⟨w2.heap.size, 0, none⟩) no no] (by rfl) rfl HN.out H1.out (by omega) e63 eby HB.out (w2.heap.size + 2) HH.out ?_; intro g2 cap2 w4 hown4 hgrow4 hat4 hlt4; have hc4 := HM.out.keptBox hgrow4; have c3' := hc4.cell 3; have f3' := hc4.free 3; simp only [List.getElem?_toArray, List.getElem?_cons_zero, List.getElem?_cons_succ] at c3'; have HLn := Lib.hid (HM.out.stepB (f := f) hown4 hgrow4 hat4); clear hc4 hgrow4 hat4 hown4 hlt4))
      all_goals go_wp2_with fail
      all_goals exact ⟨⟨k + 1, _, _, _, _, by omega, by go_num, HLn.out⟩, by simp [intOf]; omega⟩
    · obtain rfl : k = n := by omega
      obtain ⟨g, cap, hv, hg, hlt, hrow⟩ := own_row (f := fun _ => 1) hL.ownA (by omega)
      obtain ⟨g2, cap2, hv2, hg2, hlt2, hrow2⟩ := own_rows hL.ownO (by omega)
      subst hv
      subst hv2
      have c0 : wr.cell? ⟨w.heap.size + 1, 0, none⟩ = some (.int .i64 k) := hL.box.cell 0
      have c1 : wr.cell? ⟨w.heap.size + 1, 1, none⟩ = some (.slice (some ⟨bW, 0, none⟩) nw cW) := hL.box.cell 1
      have c2 : wr.cell? ⟨w.heap.size + 1, 2, none⟩ = some (.slice (some ⟨g, 0, none⟩) k cap) := hL.box.cell 2
      have c3 : wr.cell? ⟨w.heap.size + 1, 3, none⟩ = some (.slice (some ⟨g2, 0, none⟩) k cap2) := hL.box.cell 3
      have q0 : wr.cell? ⟨w.heap.size, 0, none⟩ = some (.int .i64 0) := hL.out.cell 0
      have q1 : wr.cell? ⟨w.heap.size, 1, none⟩ = some (.slice none 0 0) := hL.out.cell 1
      have q2 : wr.cell? ⟨w.heap.size, 2, none⟩ = some (.slice none 0 0) := hL.out.cell 2
      have q3 : wr.cell? ⟨w.heap.size, 3, none⟩ = some (.slice none 0 0) := hL.out.cell 3
      have f0 := hL.out.free 0
      have f1 := hL.out.free 1
      have f2 := hL.out.free 2
      have f3 := hL.out.free 3
      have Hr := Lib.hid hrow
      have Hr2 := Lib.hid hrow2
      have Hg := Lib.hid hg
      have Hg2 := Lib.hid hg2
      clear hL hrow hrow2 hg hg2 hlt hlt2 hmk
      go_wp2_with fail
      have kF := out4 HL.out.out (.int .i64 k) (.slice (some ⟨bW, 0, none⟩) nw cW) (.slice (some ⟨g, 0, none⟩) k cap) (.slice (some ⟨g2, 0, none⟩) k cap2)
      have hbel := HL.out.bel
      have nN : ¬ (A w.heap.size ∧ w.heap.size ≠ w.heap.size) := by omega
      have hm : MBlk wr (fun q => A q ∧ q ≠ w.heap.size) k nw no ⟨bW, cW, g, cap, g2, cap2, ob, oc⟩ (first1 f) := by
        have hbW : bW < w.heap.size := World.block_lt_of_cell? (w := w) (a := ⟨bW, 0, none⟩) (HW.out 0 (by omega)).1
        refine ⟨⟨hAW, by show bW ≠ _; omega⟩, ⟨HA.out g (by have := Hg.out; omega), by have := Hg.out; show g ≠ _; omega⟩, ⟨HA.out g2 (by have := Hg2.out; omega), by have := Hg2.out; show g2 ≠ _; omega⟩, HW.out.stay (fun h => hbel.block _ h), Hr.out, fun p hp => ?_⟩
        have hr := HL.out.rows p hp
        exact ⟨(Hr2.out p hp).1, (Hr2.out p hp).2, fun _ => (show A (ob p) ∧ ob p ≠ w.heap.size from ⟨HA.out _ (by omega), by omega⟩), hr.2.2⟩
      refine ret_mach rfl rfl (kF.cell 0) (kF.cell 1) (kF.cell 2) (kF.cell 3) rfl ?_
      exact ⟨_, rfl, ⟨⟨bW, cW, g, cap, g2, cap2, ob, oc⟩, rfl, ((((hm.put nN _ _).put nN _ _).put nN _ _).put nN _ _).weak (fun q hq => hq.1)⟩,
        (((hbel.setCell (p := ⟨w.heap.size, 0, none⟩) (Nat.le_refl _) _).setCell (p := ⟨w.heap.size, 1, none⟩) (Nat.le_refl _) _).setCell (p := ⟨w.heap.size, 2, none⟩) (Nat.le_refl _) _).setCell (p := ⟨w.heap.size, 3, none⟩) (Nat.le_refl _) _⟩

theorem zeros_any {w : World} {N : Int} {n : Nat} (hN : N = (n : Int)) (h2 : n ≤ 1000) : Calls Tryd.prog 15 #[.int .i64 N] w (Cloned n (fun _ => 0) w) := by
  subst hN
  have hmk := fun w => make_ints (n : Int) (by omega) (by omega) w
  simp only [Int.toNat_natCast] at hmk
  go_enter Tryd.func15, Tryd.ntmps15
  go_wp2_with fail
  go_ret
  exact ⟨w.heap.size, n, rfl, Nat.le_refl _, by simp, zeros_row (Blk.new _ _ _), (Below.refl _ _).alloc (Nat.le_refl _) _⟩

set_option maxHeartbeats 2000000 in
set_option maxRecDepth 100000 in
/-- The statements' Ints: two rows of the same numbers. -/
theorem ints_same {w : World} {n b1 c1 b2 c2 : Nat} {f : Nat → Int} (h1 : Row w b1 n (fun j => j) f) (h2 : Row w b2 n (fun j => j) f) (hn : n ≤ 1000) :
    Calls Tryd.prog 20 #[.slice (some ⟨b1, 0, none⟩) n c1, .slice (some ⟨b2, 0, none⟩) n c2] w fun e w' => e = .returned (.bool true) ∧ ∃ k, w' = w.drewN k := by
  have H1 := Lib.hid h1
  have H2 := Lib.hid h2
  have e0 : ((n : Int) != (n : Int)) = false := by simp
  clear h1 h2
  go_enter Tryd.func20, Tryd.ntmps20
  go_wp2_with fail
  go_loopw [5] (fun i wr => ∃ k m : Nat, k ≤ n ∧ i = .int .i64 k ∧ wr = w.drewN m) (fun i _ => n - (intOf i).toNat)
  case atStart => exact ⟨0, 0, by omega, rfl, rfl⟩
  case round =>
    obtain ⟨k, m, hk, rfl, rfl⟩ := hrel
    by_cases hkn : k < n
    · have c1 := (H1.out k hkn).1
      have c2 := (H2.out k hkn).1
      have e1 : (f k != f k) = false := by simp
      simp only at c1 c2
      go_wp2_with fail
      go_quiet (fail)
      go_wp2_with fail
      go_roundw
      case rel => exact ⟨k + 1, m + nq, by omega, by go_num, rfl⟩
      case measure => simp [intOf]; omega
    · go_wp2_with fail
      go_ret
      exact ⟨rfl, m, rfl⟩
end Go.Proofs.YtgkfgijmccojjaaDoor
