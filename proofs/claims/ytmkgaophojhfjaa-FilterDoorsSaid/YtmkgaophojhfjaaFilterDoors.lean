import Derived.Test.YtmkgaophojhfjaaFilterWords
namespace Go.Proofs.Ytmkgaophojhfjaa.Filter
open Go.RowKit
set_option linter.unusedVariables false

def DoorsRel (n L : Nat) (fb : List Nat) (w : World) (i : Value) (wr : World) : Prop :=
  ∃ (k : Nat) (s : St), k ≤ 400 ∧ i = .int .i64 k ∧ Reach n k s ∧ Rep wr n L fb s ∧ Below w.heap.size w wr ∧ (∀ k ∈ fb, k < wr.heap.size)

set_option maxHeartbeats 4000000 in
set_option maxRecDepth 100000 in
theorem doors_walk (n : Nat) (hn1 : 1 ≤ n) (hn4 : n ≤ 4) (a0 : Option Addr) (len0 cap0 : Nat) (z0 : List Int) (w : World) (w0 : IsRow .i64 w a0 len0 cap0 z0) :
    Calls Try.prog 5 #[.int .i64 n, .slice a0 len0 cap0] w fun e w' => e = .returned (.bool true) ∧ Below w.heap.size w w' := by
  have hle := w0.le
  have hat := Lib.hid (w0.at)
  clear w0
  unfold maxLen at hle
  have hnn : 0 ≤ (n : Int) := by omega
  have hnn4 : (n : Int) ≤ 4 := by omega
  go_enter Try.func5, Try.ntmps5
  go_wp2_with fail
  refine (fact_any _).mono ?_
  rintro e w1 ⟨rfl, h1⟩
  go_wp2_with fail
  refine (new_any n hn1 hn4 _).mono ?_
  rintro e w2 ⟨L, fb, rfl, hL, hbel0, hfb⟩
  have hbel1 := h1.trans (hbel0.mono h1.size)
  have Hfb : Hid (∀ k ∈ fb, w.heap.size ≤ k) := fun k hk => Nat.le_trans h1.size (hfb k hk).1
  have Hlt : Hid (∀ k ∈ fb, k < w2.heap.size) := fun k hk => (hfb k hk).2
  clear hfb hbel0 h1
  go_wp2_with fail
  go_loopw [8] (fun i wr => DoorsRel n L fb w i wr) (fun i _ => 400 - (intOf i).toNat)
  case atStart => exact ⟨0, first n, by omega, rfl, Reach.first n hn1 hn4, hL, hbel1, Hlt.out⟩
  case round =>
    obtain ⟨k, s, hk, rfl, hf, hb, hbel, hsz⟩ := hrel
    have Hsz := Lib.hid hsz
    clear hL hbel1 Hlt hsz
    by_cases hlt : k < len0 ∧ k < 400
    · obtain ⟨hk1, hk2⟩ := hlt
      obtain ⟨b, off, p, rfl, hb0, hc, -, -⟩ := hat.out k hk1
      have hc' : wr.cell? ⟨b, off + k, none⟩ = some (.int .i64 p) := by
        rw [hbel.cell (p := ⟨b, off + k, none⟩) hb0]; exact hc
      clear hat hc hb0
      go_wp2_with fail
      refine (step_any p hb hf (by omega)).mono ?_
      rintro e w' ⟨rfl, hb', ho⟩
      have hr := hf.step p
      have hbel' := hbel.trans (ho.bel Hfb.out hbel.size)
      have Hsz' : Hid (∀ k ∈ fb, k < w'.heap.size) := fun k hk => Nat.lt_of_lt_of_le (Hsz.out k hk) ho.size_le
      generalize Filter.step n s p = s' at hb' hr
      clear ho hb hf hc' hbel Hsz
      go_wp2_with fail
      refine (words_any hb' hn1 hn4).mono ?_
      rintro e w3 ⟨g, cp, rfl, hg, hgl, hrow, hbel3⟩
      have hb3 := hb'.keep (w' := w3) (fun x hx => hbel3.block x (Hsz'.out x hx))
      have hbel4 := hbel'.trans (hbel3.mono hbel'.size)
      have Hsz3 : Hid (∀ k ∈ fb, k < w3.heap.size) := fun x hx => Nat.lt_of_lt_of_le (Hsz'.out x hx) hbel3.size
      have Hrow := Lib.hid hrow
      clear hbel3 hbel' hb' Hsz' hg hgl hrow
      have el : ((((2 * n : Nat)) : Int) != 2 * (n : Int)) = false := by simp
      go_wp2_with fail
      go_loop [10] (fun jv => ∃ j : Nat, 1 ≤ j ∧ j ≤ n ∧ jv = .int .i64 j) (fun jv => n - (intOf jv).toNat)
      case atStart => exact ⟨1, by omega, hn1, rfl⟩
      case round =>
        obtain ⟨j, hj1, hj, rfl⟩ := hrel
        by_cases hj2 : j < n
        · have hd := hr.doors j hj1 hj2
          go_wp2_with fail
          go_loop [11, 12] (fun m q => ∃ i : Nat, i ≤ n ∧ q = .int .i64 i ∧ m = .int .i64 (cnt (fun q => decide ((j : Int) < s'.wd q)) i)) (fun _ q => n - (intOf q).toNat)
          case atStart => exact ⟨0, by omega, rfl, rfl⟩
          case round =>
            obtain ⟨i, hi, rfl, rfl⟩ := hrel
            have hbd := cnt_bd (fun q => decide ((j : Int) < s'.wd q)) i
            by_cases hi2 : i < n
            · have hcell := (Hrow.out i (by omega)).1
              simp only at hcell
              by_cases hh : (j : Int) < s'.wd i
              · have hk := cnt_hit (f := fun q => decide ((j : Int) < s'.wd q)) (j := i) (by simpa using hh)
                have Hk := Lib.hid hk
                clear hk
                go_wp2_with fail
                go_round
                case rel => exact ⟨i + 1, by omega, by go_num, by rw [Hk.out]⟩
                case measure => simp [intOf]; omega
              · have hk := cnt_miss (f := fun q => decide ((j : Int) < s'.wd q)) (j := i) (by simpa using hh)
                have Hk := Lib.hid hk
                have ht : decide ((j : Int) < s'.wd i) = false := by simpa using hh
                clear hk hh
                go_wp2_with fail
                go_round
                case rel => exact ⟨i + 1, by omega, by go_num, by rw [Hk.out]⟩
                case measure => simp [intOf]; omega
            · obtain rfl : i = n := by omega
              have hle2 : cnt (fun q => decide ((j : Int) < s'.wd q)) i ≤ (i : Int) - j := hd
              have ht : decide ((i : Int) - j < cnt (fun q => decide ((j : Int) < s'.wd q)) i) = false := by simp; omega
              clear hd
              go_wp2_with fail
              go_round
              case rel => exact ⟨j + 1, by omega, by omega, by go_num⟩
              case measure => simp [intOf]; omega
        · go_wp2_with fail
          go_roundw
          case rel => exact ⟨k + 1, s', by omega, by go_num, hr, hb3, hbel4, Hsz3.out⟩
          case measure => simp [intOf]; omega
    · clear hat
      go_wp2_with fail
      all_goals
        go_ret
        exact ⟨rfl, hbel⟩

set_option maxHeartbeats 1000000 in
set_option maxRecDepth 100000 in
theorem doors_bad (n : Int) (h : n < 1 ∨ 4 < n) (v : Value) (w : World) :
    Calls Try.prog 5 #[.int .i64 n, v] w fun e w' => e = .returned (.bool true) ∧ Below w.heap.size w w' := by
  by_cases h1 : n < 1
  · clear h
    have H := Lib.hid h1
    go_enter Try.func5, Try.ntmps5
    go_wp2_with fail
    refine (fact_any _).mono ?_
    rintro e w1 ⟨rfl, hb⟩
    go_wp2_with fail
    refine (new_no _ (.inl H.out) _).mono ?_
    rintro e w2 ⟨rfl, rfl⟩
    go_wp2_with fail
    go_ret
    exact ⟨rfl, hb⟩
  · have h2 : 4 < n := by omega
    have h3 : 1 ≤ n := by omega
    have H := Lib.hid h2
    clear h h1
    go_enter Try.func5, Try.ntmps5
    go_wp2_with fail
    refine (fact_any _).mono ?_
    rintro e w1 ⟨rfl, hb⟩
    go_wp2_with fail
    refine (new_no _ (.inr H.out) _).mono ?_
    rintro e w2 ⟨rfl, rfl⟩
    go_wp2_with fail
    go_ret
    exact ⟨rfl, hb⟩

theorem doors_any (n : Int) (a0 : Option Addr) (len0 cap0 : Nat) (z0 : List Int) (w : World) (w0 : IsRow .i64 w a0 len0 cap0 z0) :
    Calls Try.prog 5 #[.int .i64 n, .slice a0 len0 cap0] w fun e w' => e = .returned (.bool true) ∧ Below w.heap.size w w' := by
  by_cases h : 1 ≤ n ∧ n ≤ 4
  · obtain ⟨m, rfl⟩ := Int.eq_ofNat_of_zero_le (show 0 ≤ n by omega)
    exact doors_walk m (by omega) (by omega) a0 len0 cap0 z0 w w0
  · exact doors_bad n (by omega) _ w
end Go.Proofs.Ytmkgaophojhfjaa.Filter
