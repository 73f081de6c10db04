import Derived.Test.YtgolkmddncanhaaBakeryFact
namespace Go.Proofs.Ytgolkmddncanhaa.Bakery
open Go.RowKit
set_option linter.unusedVariables false

theorem one_in {n k : Nat} {s : St} (h : Reach n k s) : cnt (isIn n s) n ≤ 1 := cnt_one fun i j hi hj h1 h2 => h.one i j hi hj h1 h2

def OneRel (n L : Nat) (fb : List Nat) (w : World) (i : Value) (wr : World) : Prop :=
  ∃ (k : Nat) (s : St), k ≤ 400 ∧ i = .int .i64 k ∧ Reach n k s ∧ Rep wr n L fb s ∧ Below w.heap.size w wr

set_option maxHeartbeats 2000000 in
set_option maxRecDepth 100000 in
theorem one_walk (n : Nat) (hn1 : 1 ≤ n) (hn4 : n ≤ 4) (a0 : Option Addr) (len0 cap0 : Nat) (z0 : List Int) (w : World) (w0 : IsRow .i64 w a0 len0 cap0 z0) :
    Calls Try.prog 3 #[.int .i64 n, .slice a0 len0 cap0] w fun e w' => e = .returned (.bool true) ∧ Below w.heap.size w w' := by
  have hle := w0.le
  have hat := Lib.hid (w0.at)
  clear w0
  unfold maxLen at hle
  have hnn : 0 ≤ (n : Int) := by omega
  go_enter Try.func3, Try.ntmps3
  go_wp2_with fail
  refine (fact_any _).mono ?_
  rintro e w1 ⟨rfl, h1⟩
  go_wp2_with fail
  refine (new_any n hn1 hn4 _).mono ?_
  rintro e w2 ⟨L, fb, rfl, hL, hbel0, hfb⟩
  have hbel1 := h1.trans (hbel0.mono h1.size)
  have Hfb : Hid (∀ k ∈ fb, w.heap.size ≤ k) := fun k hk => Nat.le_trans h1.size (hfb k hk).1
  clear hfb hbel0 h1
  go_wp2_with fail
  go_loopw [8] (fun i wr => OneRel n L fb w i wr) (fun i _ => 400 - (intOf i).toNat)
  case atStart => exact ⟨0, first n, by omega, rfl, Reach.first n hn1 hn4, hL, hbel1⟩
  case round =>
    obtain ⟨k, s, hk, rfl, hf, hb, hbel⟩ := hrel
    clear hL hbel1
    by_cases hlt : k < len0 ∧ k < 400
    · obtain ⟨hk1, hk2⟩ := hlt
      obtain ⟨b, off, p, rfl, hb0, hc, -, -⟩ := hat.out k hk1
      have hc' : wr.cell? ⟨b, off + k, none⟩ = some (.int .i64 p) := by
        rw [hbel.cell (p := ⟨b, off + k, none⟩) hb0]; exact hc
      clear hat hc
      go_wp2_with fail
      refine (step_any p hb hf (by omega)).mono ?_
      rintro e w' ⟨rfl, hb', ho⟩
      have hr := hf.step p
      have hbel' := hbel.trans (ho.bel Hfb.out hbel.size)
      generalize Bakery.step n s p = s' at hb' hr
      clear ho hb hf hc' hbel
      go_wp2_with fail
      go_loop [9, 10] (fun m q => ∃ j : Nat, j ≤ n ∧ q = .int .i64 j ∧ m = .int .i64 (cnt (isIn n s') j)) (fun _ q => n - (intOf q).toNat)
      case atStart => exact ⟨0, by omega, rfl, rfl⟩
      case round =>
        obtain ⟨j, hj, rfl, rfl⟩ := hrel
        have hbd := cnt_bd (isIn n s') j
        by_cases hj2 : j < n
        · go_wp2_with fail
          refine (at_of (hn := hn4) (p := j) (k := line n s' j) hb' rfl).mono ?_
          rintro e w' ⟨rfl, rfl⟩
          go_wp2_with fail
          · have hh : isIn n s' j = true := by unfold isIn; assumption
            have hk := cnt_hit hh
            go_round
            case rel => exact ⟨j + 1, by omega, by go_num, by rw [hk]⟩
            case measure => simp [intOf]; omega
          · have hh : isIn n s' j = false := by unfold isIn; assumption
            have hk := cnt_miss hh
            go_round
            case rel => exact ⟨j + 1, by omega, by go_num, by rw [hk]⟩
            case measure => simp [intOf]; omega
        · have hone := one_in hr
          obtain rfl : n = j := by omega
          go_wp2_with fail
          go_roundw
          case rel => exact ⟨k + 1, s', by omega, by go_num, hr, hb', hbel'⟩
          case measure => simp [intOf]; omega
    · clear hat
      go_wp2_with fail
      all_goals
        go_ret
        exact ⟨rfl, hbel⟩

set_option maxHeartbeats 1000000 in
set_option maxRecDepth 100000 in
theorem one_bad (n : Int) (h : n < 1 ∨ 4 < n) (v : Value) (w : World) :
    Calls Try.prog 3 #[.int .i64 n, v] w fun e w' => e = .returned (.bool true) ∧ Below w.heap.size w w' := by
  by_cases h1 : n < 1
  · clear h
    have H := Lib.hid h1
    go_enter Try.func3, Try.ntmps3
    go_wp2_with fail
    refine (fact_any _).mono ?_
    rintro e w1 ⟨rfl, hb⟩
    go_wp2_with fail
    refine (new_no _ (.inl H.out) _).mono ?_
    rintro e w2 ⟨rfl, rfl⟩
    go_wp2_with fail
    go_ret
    exact ⟨rfl, hb⟩
  · have h2 : 4 < n := by omega
    have h3 : 1 ≤ n := by omega
    have H := Lib.hid h2
    clear h h1
    go_enter Try.func3, Try.ntmps3
    go_wp2_with fail
    refine (fact_any _).mono ?_
    rintro e w1 ⟨rfl, hb⟩
    go_wp2_with fail
    refine (new_no _ (.inr H.out) _).mono ?_
    rintro e w2 ⟨rfl, rfl⟩
    go_wp2_with fail
    go_ret
    exact ⟨rfl, hb⟩

theorem one_any (n : Int) (a0 : Option Addr) (len0 cap0 : Nat) (z0 : List Int) (w : World) (w0 : IsRow .i64 w a0 len0 cap0 z0) :
    Calls Try.prog 3 #[.int .i64 n, .slice a0 len0 cap0] w fun e w' => e = .returned (.bool true) ∧ Below w.heap.size w w' := by
  by_cases h : 1 ≤ n ∧ n ≤ 4
  · obtain ⟨m, rfl⟩ := Int.eq_ofNat_of_zero_le (show 0 ≤ n by omega)
    exact one_walk m (by omega) (by omega) a0 len0 cap0 z0 w w0
  · exact one_bad n (by omega) _ w
end Go.Proofs.Ytgolkmddncanhaa.Bakery
