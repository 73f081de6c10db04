import Derived.Test.YtgkfgijmccojjaaDoorBarStep
import Derived.Test.YtgkfgijmccojjaaDoorInts
import Derived.Test.YtgkfgijmccojjaaDoorHands
namespace Go.Proofs.YtgkfgijmccojjaaDoor.Bar
open Go.RowKit
set_option linter.unusedVariables false

theorem infoHand : (Tryd.prog.info? 86).map (fun i => (i.zero, i.size, i.bytes)) = some (some (.agg #[.int .i64 0, .int .i64 0, .int .i64 0]), 3, 24) := by kernel_rfl

def handCells (k : Nat) : List Value := (List.range k).flatMap fun _ : Nat => [.int .i64 1, .int .i64 0, .int .i64 0]
theorem handCells_succ (k : Nat) : handCells (k + 1) = handCells k ++ [.int .i64 1, .int .i64 0, .int .i64 0] := by
  simp [handCells, List.range_succ]
theorem handCells_len (k : Nat) : (handCells k).length = k * 3 := by
  induction k with
  | zero => rfl
  | succ k ih => rw [handCells_succ, List.length_append, ih]; simp; omega
theorem handCells_get {n j : Nat} (h : j < n) : (handCells n)[j * 3]? = some (.int .i64 1) ∧ (handCells n)[j * 3 + 1]? = some (.int .i64 0) ∧ (handCells n)[j * 3 + 2]? = some (.int .i64 0) := by
  induction n with
  | zero => omega
  | succ n ih =>
    have hl := handCells_len n
    rw [handCells_succ]
    by_cases e : j = n
    · subst e
      rw [List.getElem?_append_right (by omega), List.getElem?_append_right (by omega), List.getElem?_append_right (by omega), hl]
      simp
    · have := ih (by omega)
      rw [List.getElem?_append_left (by omega), List.getElem?_append_left (by omega), List.getElem?_append_left (by omega)]
      exact this
def NewRel (w : World) (n : Nat) (i : Value) (wr : World) : Prop :=
  ∃ (k : Nat) (v : Value), k ≤ n ∧ i = .int .i64 k ∧ Blk wr w.heap.size #[.int .i64 n, .int .i64 0, v] 84 ∧
    wr.ownsRow (w.heap.size + 1) 86 3 v k (handCells k) ∧ Below w.heap.size w wr ∧ w.heap.size + 1 ≤ wr.heap.size

set_option maxHeartbeats 1000000 in
set_option maxRecDepth 100000 in
theorem new_any (n : Nat) (h1 : 1 ≤ n) (h4 : n ≤ 4) (w : World) : Calls Tryd.prog 28 #[.int .i64 n] w (Made n w) := by
  have hn1 : 1 ≤ (n : Int) := by omega
  have hn4 : (n : Int) ≤ 4 := by omega
  go_enter Tryd.func28, Tryd.ntmps28
  go_wp2_with fail
  refine (hands_ok hn1 hn4).mono ?_
  rintro e w' ⟨rfl, rfl⟩
  go_wp2_with fail
  obtain ⟨i0, hi, hz0, hz1, hz2⟩ := info_parts infoHand
  have hB0 : Blk (w.alloc (.cells #[.int .i64 n, .int .i64 0, .slice none 0 0] 84)) w.heap.size #[.int .i64 n, .int .i64 0, .slice none 0 0] 84 := Blk.new _ _ _
  have hbel0 : Below w.heap.size w (w.alloc (.cells #[.int .i64 n, .int .i64 0, .slice none 0 0] 84)) := (Below.refl _ _).alloc (Nat.le_refl _) _
  have hs0 : w.heap.size + 1 ≤ (w.alloc (.cells #[.int .i64 n, .int .i64 0, .slice none 0 0] 84)).heap.size := by simp
  generalize w.alloc (.cells #[.int .i64 n, .int .i64 0, .slice none 0 0] 84) = w0 at hB0 hbel0 hs0 ⊢
  go_loopw [15] (fun i wr => NewRel w n i wr) (fun i _ => n - (intOf i).toNat)
  case atStart => exact ⟨0, _, by omega, rfl, hB0, ⟨rfl, .inl ⟨rfl, rfl⟩⟩, hbel0, hs0⟩
  case round =>
    obtain ⟨k, v, hk, rfl, hB, hown, hbel, hsz⟩ := hrel
    clear hB0 hbel0 hs0
    by_cases hkn : k < n
    · have c2 := hB.cell 2
      have f2 := hB.free 2
      simp only [List.getElem?_toArray, List.getElem?_cons_zero, List.getElem?_cons_succ] at c2
      go_wp2_with (at_builtin; refine wpList_append_own _ rfl _ _ 82 rfl (w.heap.size + 1) 86 i0 (.agg #[.int .i64 0, .int .i64 0, .int .i64 0]) 3 24 Tryd.underlying82 hi hz0 hz1 hz2 rfl (by decide) _ _ _ rfl (hown.alloc _) ⟨wr.heap.size, 0, none⟩ 1 1 [.int .i64 1, .int .i64 0, .int .i64 0] rfl rfl ?c1 ?c2 ?c3 ?c4 ?c5 ?_)
      case c1 => exact fun j u h => news_cell wr _ _ j u h
      case c2 => simp [Value.oneCell']
      case c3 => unfold maxLen; omega
      case c4 => omega
      case c5 => simp; omega
      intro v' w1 hown' hgrow _
      obtain ⟨g, cap, cur, hv, hg, -⟩ := own_slice hown' (by omega)
      have hbel1 : Below (w.heap.size + 1) wr w1 := ((Below.refl _ _).alloc hsz _).grown hgrow (by simp; omega) (own_base hown)
      have hB' := hB.below hbel1 (by omega)
      have hbel' := hbel.trans (hbel1.mono (B' := w.heap.size) (by omega))
      have hsz' : w.heap.size + 1 ≤ w1.heap.size := Nat.le_trans hsz hbel1.size
      have c2' := hB'.cell 2
      have f2' := hB'.free 2
      simp only [List.getElem?_toArray, List.getElem?_cons_zero, List.getElem?_cons_succ] at c2'
      rw [hv] at hown' ⊢
      clear c2 f2 hgrow hbel1 hown hB hbel hsz hv
      go_wp2_with fail
      go_roundw
      case rel => exact ⟨k + 1, _, by omega, by go_num, (hB'.set 2 _).eq rfl, by rw [handCells_succ]; exact ownsRow_setCell_below hown' (by simp) _, hbel'.setCell (Nat.le_refl _) _, by simpa using hsz'⟩
      case measure => simp [intOf]; omega
    · obtain rfl : k = n := by omega
      obtain ⟨g, cap, cur, hv, hg, hcur, hcap, hsize, htake⟩ := own_slice hown (by omega)
      go_wp2_with fail
      go_ret2
      have hcell : ∀ i, i < k * 3 → wr.cell? ⟨g, i, none⟩ = (handCells k)[i]? := by
        intro i hi
        rw [hcur.cell, ← htake, List.getElem?_take_of_lt hi]
        simp
      rw [hv] at hB
      refine ⟨w.heap.size, [w.heap.size, g], rfl, ⟨g, cap, rfl, hcap, by omega, hB, fun j hj => ?_, fun j hj => ?_, fun j hj => ?_⟩, hbel, ?_⟩
      · exact ⟨(hcell (j * 3) (by omega)).trans (handCells_get hj).1, hcur.free _⟩
      · exact ⟨(hcell (j * 3 + 1) (by omega)).trans (handCells_get hj).2.1, hcur.free _⟩
      · exact ⟨(hcell (j * 3 + 2) (by omega)).trans (handCells_get hj).2.2, hcur.free _⟩
      · have := hcur.lt
        intro x hx
        simp at hx
        omega

theorem new_no (n : Int) (h : n < 1 ∨ 4 < n) (w : World) : Calls Tryd.prog 28 #[.int .i64 n] w fun e w' => e = .returned (.tuple #[.pointer none, .iface 77 (.int .i64 1)]) ∧ w = w' := by
  by_cases h1 : n < 1
  · clear h
    go_enter Tryd.func28, Tryd.ntmps28
    go_wp2
    go_ret2
    exact ⟨rfl, rfl⟩
  · have h1' : 1 ≤ n := by omega
    have h4 : decide (n ≤ 4) = false := by simp; omega
    clear h h1
    go_enter Tryd.func28, Tryd.ntmps28
    go_wp2
    go_ret2
    exact ⟨rfl, rfl⟩
end Go.Proofs.YtgkfgijmccojjaaDoor.Bar
