import Derived.Test.YtgkfgijmccojjaaDoorSplitStep
import Derived.Test.YtgkfgijmccojjaaDoorSplitRep
import Derived.Test.YtgkfgijmccojjaaDoorHands
import Derived.Test.YtgkfgijmccojjaaDoorInts
import Derived.Deep.RegionWith
import Derived.IntWalk
namespace Go.Proofs.YtgkfgijmccojjaaDoor.Split
open Go.RowKit
set_option linter.unusedVariables false

theorem step_no {w : World} {n L : Nat} {fb : List Nat} {s : St} {p : Int} (h : Rep w n L fb s) (hn : n ≤ 4) (hp : p < 0 ∨ n ≤ p) :
    Calls Tryd.prog 47 #[.pointer (some ⟨L, 0, none⟩), .int .i64 p] w fun e w' => e = .returned (.iface 77 (.int .i64 1)) ∧ w = w' := by
  obtain ⟨M, bX, bY, bH, cap, rfl, hcap, hM, hLX, hLY, hLH, hXY, hXH, hYH, hB, -⟩ := h
  have c0 := hB.cell 2
  simp only [List.getElem?_toArray, List.getElem?_cons_zero, List.getElem?_cons_succ] at c0
  clear hM
  by_cases hq : p < 0
  · clear hp
    go_enter Tryd.func47, Tryd.ntmps47
    go_wp2
    go_ret
    exact ⟨rfl, rfl⟩
  · have h1 : decide (p ≤ (n : Int) - 1) = false := by simp; omega
    have h0 : 0 ≤ p := by omega
    clear hp hq
    go_enter Tryd.func47, Tryd.ntmps47
    go_wp2
    go_ret
    exact ⟨rfl, rfl⟩

theorem at_any {w : World} {n L : Nat} {fb : List Nat} {s : St} (p : Int) (h : Rep w n L fb s) (hn : n ≤ 4) :
    Calls Tryd.prog 49 #[.pointer (some ⟨L, 0, none⟩), .int .i64 p] w fun e w' => e = .returned (.int .i64 (line n s p)) ∧ w = w' := by
  obtain ⟨M, bX, bY, bH, cap, rfl, hcap, hM, hLX, hLY, hLH, hXY, hXH, hYH, hB, rX, rY, rL, -⟩ := h
  have c2 := hB.cell 2
  simp only [List.getElem?_toArray, List.getElem?_cons_zero, List.getElem?_cons_succ] at c2
  clear hM
  by_cases hp : 0 ≤ p ∧ p < n
  · obtain ⟨m, rfl⟩ := Int.eq_ofNat_of_zero_le hp.1
    rw [line_nat s (by omega)]
    have e := (rL m (by omega)).1
    have h0 : (m : Int) ≤ (n : Int) - 1 := by omega
    have h1 : m < n := by omega
    clear hp
    go_enter Tryd.func49, Tryd.ntmps49
    go_wp2
    go_ret
    exact ⟨rfl, rfl⟩
  · have e : line n s p = 0 := by unfold line; rw [if_neg hp]
    rw [e]
    by_cases hq : p < 0
    · clear hp
      go_enter Tryd.func49, Tryd.ntmps49
      go_wp2
      go_ret
      exact ⟨rfl, rfl⟩
    · have h1 : decide (p ≤ (n : Int) - 1) = false := by simp; omega
      have h0 : 0 ≤ p := by omega
      clear hp hq
      go_enter Tryd.func49, Tryd.ntmps49
      go_wp2
      go_ret
      exact ⟨rfl, rfl⟩

theorem at_of {w : World} {n L : Nat} {fb : List Nat} {s : St} {p k : Int} (hb : Rep w n L fb s) (hn : n ≤ 4) (hk : line n s p = k) :
    Calls Tryd.prog 49 #[.pointer (some ⟨L, 0, none⟩), .int .i64 p] w fun e w' => e = .returned (.int .i64 k) ∧ w = w' := by
  subst hk; exact at_any p hb hn

def Named (k : Int) (w : World) (e : Ending) (w' : World) : Prop := e = .returned (.int .i64 k) ∧ ∃ m, w' = w.drewN m
set_option maxRecDepth 100000 in
theorem name_any {w : World} {n L : Nat} {fb : List Nat} {s : St} (p : Int) (h : Rep w n L fb s) (hn : n ≤ 4) (hi : Inv n s) :
    Calls Tryd.prog 50 #[.pointer (some ⟨L, 0, none⟩), .int .i64 p] w (Named (name n s p) w) := by
  have h' := h
  by_cases h5 : line n s p = 5
  · have hp : 0 ≤ p ∧ p < n := by
      apply Classical.byContradiction
      intro x
      unfold line at h5; rw [if_neg x] at h5; omega
    obtain ⟨m, rfl⟩ := Int.eq_ofNat_of_zero_le hp.1
    have hm : m < n := by omega
    have hpos := hi.pos m hm
    obtain ⟨i, j, e1, e2, e3⟩ := hi.deep hn hm
    have hr0 : 0 ≤ s.row m := hpos.1
    have hc0 : 0 ≤ s.col m := hpos.2.1
    have hrc : s.row m + s.col m ≤ 3 := by omega
    have en : name n s (m : Int) = pl (s.row m) (s.col m) := by unfold name; rw [if_pos h5]; rfl
    rw [en]
    obtain ⟨M, bX, bY, bH, cap, rfl, hcap, hM, hLX, hLY, hLH, hXY, hXH, hYH, hB, rX, rY, rL, rR, rC⟩ := h
    have c2 := hB.cell 2
    simp only [List.getElem?_toArray, List.getElem?_cons_zero, List.getElem?_cons_succ] at c2
    have er := (rR m hm).1
    have ec := (rC m hm).1
    have hmn : (m : Int) < n := by omega
    have hm0 : 0 ≤ (m : Int) := by omega
    clear hM hp hpos e1 e2 e3 en
    have H5 := Lib.hid h5
    clear h5
    go_enter Tryd.func50, Tryd.ntmps50
    go_wp2_with fail
    refine (at_of (k := 5) h' hn H5.out).mono ?_
    rintro e w' ⟨rfl, rfl⟩
    go_wp2_with fail
    go_quiet ((go_at_call 83; exact place_q hr0 hc0 hrc))
    go_wp2_with fail
    go_ret
    exact ⟨rfl, _, rfl⟩
  · have en : name n s p = -1 := by unfold name; rw [if_neg h5]
    have ht : (line n s p != 5) = true := by simp [h5]
    rw [en]
    clear h h5 en
    go_enter Tryd.func50, Tryd.ntmps50
    go_wp2_with fail
    refine (at_of (k := line n s p) h' hn rfl).mono ?_
    rintro e w' ⟨rfl, rfl⟩
    go_wp2_with fail
    go_ret
    exact ⟨rfl, 0, rfl⟩
theorem name_of {w : World} {n L : Nat} {fb : List Nat} {s : St} {p k : Int} (h : Rep w n L fb s) (hn : n ≤ 4) (hi : Inv n s) (hk : name n s p = k) :
    Calls Tryd.prog 50 #[.pointer (some ⟨L, 0, none⟩), .int .i64 p] w (Named k w) := by
  subst hk; exact name_any p h hn hi

theorem Reach.place {n k : Nat} {s : St} (h : Reach n k s) {p : Nat} (hp : p < n) : 0 ≤ s.row p ∧ 0 ≤ s.col p ∧ s.row p + s.col p ≤ 3 ∧ pl (s.row p) (s.col p) < n * (n + 1) / 2 := by
  obtain ⟨h1, h4, hi⟩ := h
  have hpos := hi.pos p hp
  obtain ⟨i, j, e1, e2, e3⟩ := hi.deep h4 hp
  refine ⟨hpos.1, hpos.2.1, by omega, ?_⟩
  rw [e1, e2]
  refine pl_low n (by omega) i (by omega) j (by omega) ?_
  by_cases hd : 1 ≤ s.did p
  · have := hi.depth hp hd
    have := (many_bd n s).2
    omega
  · have := hi.idle p hp (by omega); omega
theorem step_any {w : World} {n k L : Nat} {fb : List Nat} {s : St} (p : Int) (hb : Rep w n L fb s) (hs : Reach n k s) :
    Calls Tryd.prog 47 #[.pointer (some ⟨L, 0, none⟩), .int .i64 p] w (Post n L fb w (told n p) (step n s p)) := by
  by_cases hp : 0 ≤ p ∧ p < n
  · obtain ⟨m, rfl⟩ := Int.eq_ofNat_of_zero_le hp.1
    have hm : m < n := by omega
    have ht : told n (m : Int) = .nilIface := by unfold told; rw [if_pos hp]
    rw [step_nat s hm, ht]
    have hln := hs.fine hm
    have hn := hs.2.1
    obtain ⟨a, b, c, d⟩ := hs.place hm
    obtain hl | hl | hl | hl | hl : s.ln m = 1 ∨ s.ln m = 2 ∨ s.ln m = 3 ∨ s.ln m = 4 ∨ s.ln m = 5 := by omega
    · exact line1 hb hm hn a b c d hl
    · by_cases h0 : s.yw (pl (s.row m) (s.col m)) = 1
      · exact line21 hb hm hn a b c d hl h0
      · exact line20 hb hm hn a b c d hl h0
    · exact line3 hb hm hn a b c d hl
    · by_cases h0 : s.xw (pl (s.row m) (s.col m)) = m + 1
      · exact line41 hb hm hn a b c d hl h0
      · exact line40 hb hm hn a b c d hl h0
    · exact line5 hb hm hn a b c d hl
  · refine (step_no hb hs.2.1 (by omega)).mono ?_
    rintro e w' ⟨rfl, rfl⟩
    exact ⟨by unfold told; rw [if_neg hp], by unfold step; rw [if_neg hp]; exact hb, Only.refl _ _⟩
theorem step_of {w : World} {n k L : Nat} {fb : List Nat} {s s' : St} {p : Int} {r : Value} (hb : Rep w n L fb s) (hs : Reach n k s) (hr : told n p = r) (he : step n s p = s') :
    Calls Tryd.prog 47 #[.pointer (some ⟨L, 0, none⟩), .int .i64 p] w (Post n L fb w r s') := by
  subst hr; subst he; exact step_any p hb hs
theorem told_nil {n : Nat} {p : Nat} (hp : p < n) : told n (p : Int) = .nilIface := by
  unfold told; rw [if_pos (by omega)]

theorem filled_row {w : World} {g n : Nat} {cur : Array Value} {T : TypeId} (hb : Blk w g cur T) (hf : Filled el n cur) :
    Row w g n (fun j => j * 3) (fun _ => 1) ∧ Row w g n (fun j => j * 3 + 1) (fun _ => 0) ∧ Row w g n (fun j => j * 3 + 2) (fun _ => 0) := by
  have hl : el.length = 3 := rfl
  refine ⟨fun j hj => ⟨?_, hb.free _⟩, fun j hj => ⟨?_, hb.free _⟩, fun j hj => ⟨?_, hb.free _⟩⟩
  · rw [hb.cell, hf (j * 3) (by rw [hl]; omega), hl, show j * 3 % 3 = 0 from by omega]; rfl
  · rw [hb.cell, hf (j * 3 + 1) (by rw [hl]; omega), hl, show (j * 3 + 1) % 3 = 1 from by omega]; rfl
  · rw [hb.cell, hf (j * 3 + 2) (by rw [hl]; omega), hl, show (j * 3 + 2) % 3 = 2 from by omega]; rfl

theorem new_no (n : Int) (h : n < 1 ∨ 4 < n) (w : World) : Calls Tryd.prog 45 #[.int .i64 n] w fun e w' => e = .returned (.tuple #[.pointer none, .iface 77 (.int .i64 1)]) ∧ w = w' := by
  by_cases h1 : n < 1
  · clear h
    go_enter Tryd.func45, Tryd.ntmps45
    go_wp2
    go_ret2
    exact ⟨rfl, rfl⟩
  · have h1' : 1 ≤ n := by omega
    have h4 : decide (n ≤ 4) = false := by simp; omega
    clear h h1
    go_enter Tryd.func45, Tryd.ntmps45
    go_wp2
    go_ret2
    exact ⟨rfl, rfl⟩
end Go.Proofs.YtgkfgijmccojjaaDoor.Split
