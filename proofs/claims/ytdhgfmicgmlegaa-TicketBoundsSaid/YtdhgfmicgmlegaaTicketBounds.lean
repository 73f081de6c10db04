import Derived.Test.YtdhgfmicgmlegaaTicketFact
import Derived.Test.YtdhgfmicgmlegaaClone
import Derived.Test.YtdhgfmicgmlegaaIn2
namespace Go.Proofs.Ytdhgfmicgmlegaa.Ticket
open Go.RowKit
set_option linter.unusedVariables false

theorem words_any {w : World} {n L : Nat} {fb : List Nat} {s : St} (h : Rep w n L fb s) :
    Calls Try.prog 12 #[.pointer (some ⟨L, 0, none⟩)] w (Cloned 2 s.wd w) := by
  obtain ⟨bH, cap, rfl, hcap, hLH, hB, -⟩ := h
  have rW : Row w L 2 (fun j => j) s.wd := by
    intro j hj
    refine ⟨?_, hB.free _⟩
    obtain rfl | rfl : j = 0 ∨ j = 1 := by omega
    · exact hB.cell 0
    · exact hB.cell 1
  clear hB
  go_enter Try.func12, Try.ntmps12
  go_wp2_with fail
  refine (clone_any (by omega) (by omega) rW).mono ?_
  rintro e w' ⟨g, cp, rfl, hg, hlt, hrow, hbel⟩
  clear rW
  go_wp2_with fail
  go_ret
  exact ⟨g, cp, rfl, hg, hlt, hrow, hbel⟩

def BoundRel (n L : Nat) (fb : List Nat) (w : World) (i : Value) (wr : World) : Prop :=
  ∃ (k : Nat) (s : St), k ≤ 400 ∧ i = .int .i64 k ∧ Reach n k s ∧ Rep wr n L fb s ∧ Below w.heap.size w wr ∧ (∀ k ∈ fb, k < wr.heap.size)

theorem belowN {B : Nat} {a w : World} (h : Below B a w) (n : Nat) : Below B a (w.drewN n) := ⟨h.os, h.tape, h.output, h.size, h.block⟩

set_option maxHeartbeats 4000000 in
set_option maxRecDepth 100000 in
theorem bounds_walk (n : Nat) (hn1 : 1 ≤ n) (hn4 : n ≤ 4) (a0 : Option Addr) (len0 cap0 : Nat) (z0 : List Int) (w : World) (w0 : IsRow .i64 w a0 len0 cap0 z0) :
    Calls Try.prog 6 #[.int .i64 n, .slice a0 len0 cap0] w fun e w' => e = .returned (.bool true) ∧ Below w.heap.size w w' := by
  have hle := w0.le
  have hat := Lib.hid (w0.at)
  clear w0
  unfold maxLen at hle
  have hnn : 0 ≤ (n : Int) := by omega
  have hnn4 : (n : Int) ≤ 4 := by omega
  go_enter Try.func6, Try.ntmps6
  go_wp2_with fail
  refine (fact_any _).mono ?_
  rintro e w1 ⟨rfl, h1⟩
  go_wp2_with fail
  refine (new_any n hn1 hn4 _).mono ?_
  rintro e w2 ⟨L, fb, rfl, hL, hbel0, hfb⟩
  have hbel1 := h1.trans (hbel0.mono h1.size)
  have Hfb : Hid (∀ k ∈ fb, w.heap.size ≤ k) := fun k hk => Nat.le_trans h1.size (hfb k hk).1
  have Hlt : Hid (∀ k ∈ fb, k < w2.heap.size) := fun k hk => (hfb k hk).2
  clear hfb hbel0 h1
  go_wp2_with fail
  go_loopw [8] (fun i wr => BoundRel n L fb w i wr) (fun i _ => 400 - (intOf i).toNat)
  case atStart => exact ⟨0, first n, by omega, rfl, Reach.first n hn1 hn4, hL, hbel1, Hlt.out⟩
  case round =>
    obtain ⟨k, s, hk, rfl, hf, hb, hbel, hsz⟩ := hrel
    have Hsz := Lib.hid hsz
    clear hL hbel1 Hlt hsz
    by_cases hlt : k < len0 ∧ k < 400
    · obtain ⟨hk1, hk2⟩ := hlt
      obtain ⟨b, off, p, rfl, hb0, hc, -, -⟩ := hat.out k hk1
      have hc' : wr.cell? ⟨b, off + k, none⟩ = some (.int .i64 p) := by
        rw [hbel.cell (p := ⟨b, off + k, none⟩) hb0]; exact hc
      clear hat hc hb0
      go_wp2_with fail
      refine (step_any p hb hf (by omega)).mono ?_
      rintro e w' ⟨rfl, hb', ho⟩
      have hr := hf.step p
      have hbel' := hbel.trans (ho.below Hfb.out)
      have Hsz' : Hid (∀ k ∈ fb, k < w'.heap.size) := by rw [ho.size]; exact Hsz.out
      generalize Ticket.step n s p = s' at hb' hr
      clear ho hb hf hc' hbel Hsz
      go_wp2_with fail
      refine (words_any hb').mono ?_
      rintro e w3 ⟨g, cp, rfl, hg, hgl, hrow, hbel3⟩
      have hb3 := hb'.keep (w' := w3) (fun x hx => hbel3.block x (Hsz'.out x hx))
      have hbel4 := hbel'.trans (hbel3.mono hbel'.size)
      have Hsz3 : Hid (∀ k ∈ fb, k < w3.heap.size) := fun x hx => Nat.lt_of_lt_of_le (Hsz'.out x hx) hbel3.size
      have hbd := hr.bounds
      have Hr0 := Lib.hid (hrow 0 (by omega)).1
      have Hr1 := Lib.hid (hrow 1 (by omega)).1
      have hq0 := hbd.1.1
      have hq1 := hbd.1.2.1
      have hq2 : s'.wd 0 ≤ 401 := by have := hbd.1.2.2; omega
      have hne : (s'.wd 0 - s'.wd 1 != cnt (fun h => decide (2 ≤ s'.ln h)) n) = false := by rw [hbd.2]; simp
      have Hne := Lib.hid hne
      clear hbel3 hbel' hb' Hsz' hbd hg hgl hrow hne
      go_wp2_with fail
      go_loop [10, 11] (fun m q => ∃ j : Nat, j ≤ n ∧ q = .int .i64 j ∧ m = .int .i64 (cnt (fun h => decide (2 ≤ s'.ln h)) j)) (fun _ q => n - (intOf q).toNat)
      case atStart => exact ⟨0, by omega, rfl, rfl⟩
      case round =>
        obtain ⟨j, hj, rfl, rfl⟩ := hrel
        by_cases hj2 : j < n
        · have hbd := cnt_bd (fun h => decide (2 ≤ s'.ln h)) j
          have hfine := hr.fine hj2
          go_wp2_with fail
          refine (at_of (hn := hn4) (p := j) (k := s'.ln j) hb3 (line_nat s' hj2)).mono ?_
          rintro e w' ⟨rfl, rfl⟩
          by_cases h2 : 2 ≤ s'.ln j
          · have hk := cnt_hit (f := fun h => decide (2 ≤ s'.ln h)) (j := j) (by simpa using h2)
            have ht : (s'.ln j != 1) = true := by simp; omega
            clear h2 hfine
            go_wp2_with fail
            go_round
            case rel => exact ⟨j + 1, by omega, by go_num, by rw [hk]⟩
            case measure => simp [intOf]; omega
          · have hk := cnt_miss (f := fun h => decide (2 ≤ s'.ln h)) (j := j) (by simpa using h2)
            have ht : (s'.ln j != 1) = false := by simp; omega
            clear h2 hfine
            go_wp2_with fail
            go_round
            case rel => exact ⟨j + 1, by omega, by go_num, by rw [hk]⟩
            case measure => simp [intOf]; omega
        · have ej : j = n := by omega
          subst ej
          have e0 := Hr0.out
          have e1 := Hr1.out
          have hne := Hne.out
          go_wp2_with fail
          go_quiet (fail)
          go_wp2_with fail
          go_roundw
          case rel => exact ⟨k + 1, s', by omega, by go_num, hr, hb3.keep (fun _ _ => rfl), belowN hbel4 _, Hsz3.out⟩
          case measure => simp [intOf]; omega
    · clear hat
      go_wp2_with fail
      all_goals
        go_ret
        exact ⟨rfl, hbel⟩

set_option maxHeartbeats 1000000 in
set_option maxRecDepth 100000 in
theorem bounds_bad (n : Int) (h : n < 1 ∨ 4 < n) (v : Value) (w : World) :
    Calls Try.prog 6 #[.int .i64 n, v] w fun e w' => e = .returned (.bool true) ∧ Below w.heap.size w w' := by
  by_cases h1 : n < 1
  · clear h
    have H := Lib.hid h1
    go_enter Try.func6, Try.ntmps6
    go_wp2_with fail
    refine (fact_any _).mono ?_
    rintro e w1 ⟨rfl, hb⟩
    go_wp2_with fail
    refine (new_no _ (.inl H.out) _).mono ?_
    rintro e w2 ⟨rfl, rfl⟩
    go_wp2_with fail
    go_ret
    exact ⟨rfl, hb⟩
  · have h2 : 4 < n := by omega
    have h3 : 1 ≤ n := by omega
    have H := Lib.hid h2
    clear h h1
    go_enter Try.func6, Try.ntmps6
    go_wp2_with fail
    refine (fact_any _).mono ?_
    rintro e w1 ⟨rfl, hb⟩
    go_wp2_with fail
    refine (new_no _ (.inr H.out) _).mono ?_
    rintro e w2 ⟨rfl, rfl⟩
    go_wp2_with fail
    go_ret
    exact ⟨rfl, hb⟩

theorem bounds_any (n : Int) (a0 : Option Addr) (len0 cap0 : Nat) (z0 : List Int) (w : World) (w0 : IsRow .i64 w a0 len0 cap0 z0) :
    Calls Try.prog 6 #[.int .i64 n, .slice a0 len0 cap0] w fun e w' => e = .returned (.bool true) ∧ Below w.heap.size w w' := by
  by_cases h : 1 ≤ n ∧ n ≤ 4
  · obtain ⟨m, rfl⟩ := Int.eq_ofNat_of_zero_le (show 0 ≤ n by omega)
    exact bounds_walk m (by omega) (by omega) a0 len0 cap0 z0 w w0
  · exact bounds_bad n (by omega) _ w
end Go.Proofs.Ytdhgfmicgmlegaa.Ticket
