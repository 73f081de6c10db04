import Derived.Test.YtgkfgijmccojjaaDoorClhStep
import Derived.Test.YtgkfgijmccojjaaDoorInts
namespace Go.Proofs.YtgkfgijmccojjaaDoor.Clh
open Go.RowKit
set_option linter.unusedVariables false

theorem infoHand : (Tryd.prog.info? 93).map (fun i => (i.zero, i.size, i.bytes)) = some (some (.agg #[.int .i64 0, .int .i64 0, .int .i64 0]), 3, 24) := by kernel_rfl

def handCells (k : Nat) : List Value := (List.range k).flatMap fun j : Nat => [.int .i64 1, .int .i64 (j : Int), .int .i64 0]
theorem handCells_succ (k : Nat) : handCells (k + 1) = handCells k ++ [.int .i64 1, .int .i64 k, .int .i64 0] := by
  simp [handCells, List.range_succ]
theorem handCells_len (k : Nat) : (handCells k).length = k * 3 := by
  induction k with
  | zero => rfl
  | succ k ih => rw [handCells_succ, List.length_append, ih]; simp; omega
theorem handCells_get {n j : Nat} (h : j < n) : (handCells n)[j * 3]? = some (.int .i64 1) ∧ (handCells n)[j * 3 + 1]? = some (.int .i64 j) ∧ (handCells n)[j * 3 + 2]? = some (.int .i64 0) := by
  induction n with
  | zero => omega
  | succ n ih =>
    have hl := handCells_len n
    rw [handCells_succ]
    by_cases e : j = n
    · subst e
      rw [List.getElem?_append_right (by omega), List.getElem?_append_right (by omega), List.getElem?_append_right (by omega), hl]
      simp
    · have := ih (by omega)
      rw [List.getElem?_append_left (by omega), List.getElem?_append_left (by omega), List.getElem?_append_left (by omega)]
      exact this
def NewRel (w : World) (n : Nat) (i : Value) (wr : World) : Prop :=
  ∃ (k : Nat) (v : Value), k ≤ n ∧ i = .int .i64 k ∧ Blk wr (w.heap.size + 1) #[.int .i64 n, .slice (some ⟨w.heap.size, 0, none⟩) (n + 2) (n + 2), v] 91 ∧
    wr.ownsRow (w.heap.size + 2) 93 3 v k (handCells k) ∧ Row wr w.heap.size (n + 2) (fun j => j) (first n).wd ∧ Below w.heap.size w wr ∧ w.heap.size + 2 ≤ wr.heap.size

set_option maxHeartbeats 1000000 in
set_option maxRecDepth 100000 in
theorem new_any (n : Nat) (h1 : 1 ≤ n) (h4 : n ≤ 4) (w : World) : Calls Tryd.prog 34 #[.int .i64 n] w (Made n w) := by
  have hmk := fun w => make_ints ((n : Int) + 2) (by omega) (by omega) w
  have etn : ((n : Int) + 2).toNat = n + 2 := by omega
  simp only [etn] at hmk
  have hn1 : 1 ≤ (n : Int) := by omega
  have hn4 : (n : Int) ≤ 4 := by omega
  clear etn
  go_enter Tryd.func34, Tryd.ntmps34
  go_wp2
  obtain ⟨i0, hi, hz0, hz1, hz2⟩ := info_parts infoHand
  have hB0 : Blk ((w.alloc (.cells ((zeros (n + 2)).setIfInBounds 0 (.int .i64 n)) 3)).alloc (.cells #[.int .i64 n, .slice (some ⟨w.heap.size, 0, none⟩) (n + 2) (n + 2), .slice none 0 0] 91)) (w.heap.size + 1) #[.int .i64 n, .slice (some ⟨w.heap.size, 0, none⟩) (n + 2) (n + 2), .slice none 0 0] 91 := by
    have := Blk.new (w.alloc (.cells ((zeros (n + 2)).setIfInBounds 0 (.int .i64 n)) 3)) #[.int .i64 n, .slice (some ⟨w.heap.size, 0, none⟩) (n + 2) (n + 2), .slice none 0 0] 91
    simpa using this
  have hW0 : Row ((w.alloc (.cells ((zeros (n + 2)).setIfInBounds 0 (.int .i64 n)) 3)).alloc (.cells #[.int .i64 n, .slice (some ⟨w.heap.size, 0, none⟩) (n + 2) (n + 2), .slice none 0 0] 91)) w.heap.size (n + 2) (fun j => j) (first n).wd := by
    have hb := (Blk.new w ((zeros (n + 2)).setIfInBounds 0 (.int .i64 n)) 3).alloc (.cells #[.int .i64 n, .slice (some ⟨w.heap.size, 0, none⟩) (n + 2) (n + 2), .slice none 0 0] 91)
    intro j hj
    refine ⟨?_, hb.free j⟩
    rw [hb.cell]
    by_cases h0 : j = 0
    · subst h0; simp [zeros, first]
    · simp [zeros, first, h0, hj, Ne.symm h0]
  have hbel0 : Below w.heap.size w ((w.alloc (.cells ((zeros (n + 2)).setIfInBounds 0 (.int .i64 n)) 3)).alloc (.cells #[.int .i64 n, .slice (some ⟨w.heap.size, 0, none⟩) (n + 2) (n + 2), .slice none 0 0] 91)) :=
    ((Below.refl _ _).alloc (Nat.le_refl _) _).alloc (by simp) _
  have hs0 : w.heap.size + 2 ≤ ((w.alloc (.cells ((zeros (n + 2)).setIfInBounds 0 (.int .i64 n)) 3)).alloc (.cells #[.int .i64 n, .slice (some ⟨w.heap.size, 0, none⟩) (n + 2) (n + 2), .slice none 0 0] 91)).heap.size := by simp
  generalize (w.alloc (.cells ((zeros (n + 2)).setIfInBounds 0 (.int .i64 n)) 3)).alloc (.cells #[.int .i64 n, .slice (some ⟨w.heap.size, 0, none⟩) (n + 2) (n + 2), .slice none 0 0] 91) = w0 at hB0 hW0 hbel0 hs0 ⊢
  go_loopw [25] (fun i wr => NewRel w n i wr) (fun i _ => n - (intOf i).toNat)
  case atStart => exact ⟨0, _, by omega, rfl, hB0, ⟨rfl, .inl ⟨rfl, rfl⟩⟩, hW0, hbel0, hs0⟩
  case round =>
    obtain ⟨k, v, hk, rfl, hB, hown, hW, hbel, hsz⟩ := hrel
    clear hB0 hW0 hbel0 hs0 hmk
    by_cases hkn : k < n
    · have c2 := hB.cell 2
      have f2 := hB.free 2
      simp only [List.getElem?_toArray, List.getElem?_cons_zero, List.getElem?_cons_succ] at c2
      go_wp2_with (at_builtin; refine wpList_append_own _ rfl _ _ 89 rfl (w.heap.size + 2) 93 i0 (.agg #[.int .i64 0, .int .i64 0, .int .i64 0]) 3 24 Tryd.underlying89 hi hz0 hz1 hz2 rfl (by decide) _ _ _ rfl (hown.alloc _) ⟨wr.heap.size, 0, none⟩ 1 1 [.int .i64 1, .int .i64 k, .int .i64 0] rfl rfl ?c1 ?c2 ?c3 ?c4 ?c5 ?_)
      case c1 => exact fun j u h => news_cell wr _ _ j u h
      case c2 => simp [Value.oneCell']
      case c3 => unfold maxLen; omega
      case c4 => omega
      case c5 => simp; omega
      intro v' w1 hown' hgrow _
      obtain ⟨g, cap, cur, hv, hg, -⟩ := own_slice hown' (by omega)
      have hbel1 : Below (w.heap.size + 2) wr w1 := ((Below.refl _ _).alloc hsz _).grown hgrow (by simp; omega) (own_base hown)
      have hB' := hB.below hbel1 (by omega)
      have hW' := hW.keep (hbel1.block w.heap.size (by omega))
      have hbel' := hbel.trans (hbel1.mono (B' := w.heap.size) (by omega))
      have hsz' : w.heap.size + 2 ≤ w1.heap.size := Nat.le_trans hsz hbel1.size
      have c2' := hB'.cell 2
      have f2' := hB'.free 2
      simp only [List.getElem?_toArray, List.getElem?_cons_zero, List.getElem?_cons_succ] at c2'
      rw [hv] at hown' ⊢
      clear c2 f2 hgrow hbel1 hown hB hW hbel hsz hv
      go_wp2_with fail
      go_roundw
      case rel => exact ⟨k + 1, _, by omega, by go_num, (hB'.set 2 _).eq rfl, by rw [handCells_succ]; exact ownsRow_setCell_below hown' (by simp) _, hW'.other _ (.inl (by omega)), hbel'.setCell (by simp) _, by simpa using hsz'⟩
      case measure => simp [intOf]; omega
    · obtain rfl : k = n := by omega
      obtain ⟨g, cap, cur, hv, hg, hcur, hcap, hsize, htake⟩ := own_slice hown (by omega)
      go_wp2_with fail
      go_ret2
      have hcell : ∀ i, i < k * 3 → wr.cell? ⟨g, i, none⟩ = (handCells k)[i]? := by
        intro i hi
        rw [hcur.cell, ← htake, List.getElem?_take_of_lt hi]
        simp
      rw [hv] at hB
      refine ⟨w.heap.size + 1, [w.heap.size + 1, w.heap.size, g], rfl, ⟨w.heap.size, g, cap, rfl, hcap, by omega, by omega, by omega, hB, hW, fun j hj => ?_, fun j hj => ?_, fun j hj => ?_⟩, hbel, ?_⟩
      · exact ⟨(hcell (j * 3) (by omega)).trans (handCells_get hj).1, hcur.free _⟩
      · exact ⟨(hcell (j * 3 + 1) (by omega)).trans (handCells_get hj).2.1, hcur.free _⟩
      · exact ⟨(hcell (j * 3 + 2) (by omega)).trans (handCells_get hj).2.2, hcur.free _⟩
      · have := hcur.lt
        intro x hx
        simp at hx
        omega

theorem new_no (n : Int) (h : n < 1 ∨ 4 < n) (w : World) : Calls Tryd.prog 34 #[.int .i64 n] w fun e w' => e = .returned (.tuple #[.pointer none, .iface 77 (.int .i64 1)]) ∧ w = w' := by
  by_cases h1 : n < 1
  · clear h
    go_enter Tryd.func34, Tryd.ntmps34
    go_wp2
    go_ret2
    exact ⟨rfl, rfl⟩
  · have h1' : 1 ≤ n := by omega
    have h4 : decide (n ≤ 4) = false := by simp; omega
    clear h h1
    go_enter Tryd.func34, Tryd.ntmps34
    go_wp2
    go_ret2
    exact ⟨rfl, rfl⟩
end Go.Proofs.YtgkfgijmccojjaaDoor.Clh
