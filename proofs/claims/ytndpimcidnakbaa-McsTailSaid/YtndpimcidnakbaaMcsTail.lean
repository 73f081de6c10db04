import Derived.Test.YtndpimcidnakbaaMcsWords
import Derived.Test.YtndpimcidnakbaaIn2
namespace Go.Proofs.Ytndpimcidnakbaa.Mcs
open Go.RowKit
set_option linter.unusedVariables false

def TailRel (n L : Nat) (fb : List Nat) (w : World) (i : Value) (wr : World) : Prop :=
  ∃ (k : Nat) (s : St), k ≤ 400 ∧ i = .int .i64 k ∧ Reach n k s ∧ Rep wr n L fb s ∧ Below w.heap.size w wr ∧ (∀ k ∈ fb, k < wr.heap.size)
/-- Does anybody of the first j stand in line, or have the lock? -/
def some3 (s : St) : Nat → Bool
  | 0 => false
  | j + 1 => some3 s j || decide (3 ≤ s.ln j)
theorem some3_no {s : St} {n : Nat} (h : ∀ g, g < n → s.ln g ≤ 2) : some3 s n = false := by
  induction n with
  | zero => rfl
  | succ n ih =>
    have := h n (by omega)
    simp only [some3, ih (fun g hg => h g (by omega)), Bool.false_or, decide_eq_false_iff_not]; omega
theorem some3_yes {s : St} {n a : Nat} (ha : a < n) (h : 3 ≤ s.ln a) : some3 s n = true := by
  induction n with
  | zero => omega
  | succ n ih =>
    by_cases e : a = n
    · subst e; simp [some3, h]
    · simp [some3, ih (by omega)]

set_option maxHeartbeats 4000000 in
set_option maxRecDepth 100000 in
theorem tail_walk (n : Nat) (hn1 : 1 ≤ n) (hn4 : n ≤ 4) (a0 : Option Addr) (len0 cap0 : Nat) (z0 : List Int) (w : World) (w0 : IsRow .i64 w a0 len0 cap0 z0) :
    Calls Try.prog 6 #[.int .i64 n, .slice a0 len0 cap0] w fun e w' => e = .returned (.bool true) ∧ Below w.heap.size w w' := by
  have hle := w0.le
  have hat := Lib.hid (w0.at)
  clear w0
  unfold maxLen at hle
  have hnn : 0 ≤ (n : Int) := by omega
  have hnn4 : (n : Int) ≤ 4 := by omega
  go_enter Try.func6, Try.ntmps6
  go_wp2_with fail
  refine (fact_any _).mono ?_
  rintro e w1 ⟨rfl, h1⟩
  go_wp2_with fail
  refine (new_any n hn1 hn4 _).mono ?_
  rintro e w2 ⟨L, fb, rfl, hL, hbel0, hfb⟩
  have hbel1 := h1.trans (hbel0.mono h1.size)
  have Hfb : Hid (∀ k ∈ fb, w.heap.size ≤ k) := fun k hk => Nat.le_trans h1.size (hfb k hk).1
  have Hlt : Hid (∀ k ∈ fb, k < w2.heap.size) := fun k hk => (hfb k hk).2
  clear hfb hbel0 h1
  go_wp2_with fail
  go_loopw [8] (fun i wr => TailRel n L fb w i wr) (fun i _ => 400 - (intOf i).toNat)
  case atStart => exact ⟨0, first n, by omega, rfl, Reach.first n hn1 hn4, hL, hbel1, Hlt.out⟩
  case round =>
    obtain ⟨k, s, hk, rfl, hf, hb, hbel, hsz⟩ := hrel
    have Hsz := Lib.hid hsz
    clear hL hbel1 Hlt hsz
    by_cases hlt : k < len0 ∧ k < 400
    · obtain ⟨hk1, hk2⟩ := hlt
      obtain ⟨b, off, p, rfl, hb0, hc, -, -⟩ := hat.out k hk1
      have hc' : wr.cell? ⟨b, off + k, none⟩ = some (.int .i64 p) := by
        rw [hbel.cell (p := ⟨b, off + k, none⟩) hb0]; exact hc
      clear hat hc hb0
      go_wp2_with fail
      refine (step_any p hb hf (by omega)).mono ?_
      rintro e w' ⟨rfl, hb', ho⟩
      have hr := hf.step p
      have hbel' := hbel.trans (ho.bel Hfb.out hbel.size)
      have Hsz' : Hid (∀ k ∈ fb, k < w'.heap.size) := fun k hk => Nat.lt_of_lt_of_le (Hsz.out k hk) ho.size_le
      generalize Mcs.step n s p = s' at hb' hr
      clear ho hb hf hc' hbel Hsz
      go_wp2_with fail
      refine (words_any hb' hn1 hn4).mono ?_
      rintro e w3 ⟨g, cp, rfl, hg, hgl, hrow, hbel3⟩
      have hb3 := hb'.keep (w' := w3) (fun x hx => hbel3.block x (Hsz'.out x hx))
      have hbel4 := hbel'.trans (hbel3.mono hbel'.size)
      have Hsz3 : Hid (∀ k ∈ fb, k < w3.heap.size) := fun x hx => Nat.lt_of_lt_of_le (Hsz'.out x hx) hbel3.size
      have Hrow := Lib.hid hrow
      clear hbel3 hbel' hb' Hsz' hg hgl hrow
      have el : ((((1 + 2 * n : Nat)) : Int) != 1 + 2 * (n : Int)) = false := by simp
      have hw0 := (Hrow.out 0 (by omega)).1
      simp only at hw0
      have htl := hr.tail
      have hq0 : 0 ≤ s'.wd 0 := by rcases htl with ⟨h, -⟩ | ⟨a, ha, h, -⟩ <;> omega
      have hq1 : s'.wd 0 ≤ n := by rcases htl with ⟨h, -⟩ | ⟨a, ha, h, -⟩ <;> omega
      have Htl := Lib.hid htl
      clear htl
      go_wp2_with fail
      refine (in2_yes hq0 hq1).mono ?_
      rintro e w' ⟨rfl, rfl⟩
      go_wp2_with fail
      go_loop [10, 11] (fun m q => ∃ j : Nat, j ≤ n ∧ q = .int .i64 j ∧ m = .bool (some3 s' j)) (fun _ q => n - (intOf q).toNat)
      case atStart => exact ⟨0, by omega, rfl, rfl⟩
      case round =>
        obtain ⟨j, hj, rfl, rfl⟩ := hrel
        by_cases hj2 : j < n
        · have hfine := hr.fine hj2
          have hs1 : some3 s' (j + 1) = (some3 s' j || decide (3 ≤ s'.ln j)) := rfl
          have Hs1 := Lib.hid hs1
          clear hs1
          cases hsj : some3 s' j with
          | true =>
            have Hsj := Lib.hid hsj
            clear hsj hfine
            go_wp2_with fail
            go_round
            case rel => exact ⟨j + 1, by omega, by go_num, by rw [Hs1.out, Hsj.out]; rfl⟩
            case measure => simp [intOf]; omega
          | false =>
            have Hsj := Lib.hid hsj
            clear hsj
            go_wp2_with fail
            refine (at_of (hn := hn4) (p := j) (k := s'.ln j) hb3 (line_nat s' hj2)).mono ?_
            rintro e w' ⟨rfl, rfl⟩
            go_wp2_with fail
            by_cases h3 : 3 ≤ s'.ln j
            · refine (in2_yes h3 hfine.2).mono ?_
              rintro e w' ⟨rfl, rfl⟩
              have H3 : Hid (decide (3 ≤ s'.ln j) = true) := (show decide (3 ≤ s'.ln j) = true by simpa using h3)
              clear h3 hfine
              go_wp2_with fail
              go_round
              case rel => exact ⟨j + 1, by omega, by go_num, by rw [Hs1.out, Hsj.out, H3.out]; rfl⟩
              case measure => simp [intOf]; omega
            · refine (in2_no (by omega)).mono ?_
              rintro e w' ⟨rfl, rfl⟩
              have H3 : Hid (decide (3 ≤ s'.ln j) = false) := (show decide (3 ≤ s'.ln j) = false by simpa using h3)
              clear h3 hfine
              go_wp2_with fail
              go_round
              case rel => exact ⟨j + 1, by omega, by go_num, by rw [Hs1.out, Hsj.out, H3.out]; rfl⟩
              case measure => simp [intOf]; omega
        · obtain rfl : j = n := by omega
          rcases Htl.out with ⟨h0, hall⟩ | ⟨a, ha, h0, h3⟩
          · rw [some3_no hall]
            rw [h0] at hw0
            clear hq0 hq1 hall h0
            go_wp2_with fail
            go_roundw
            case rel => exact ⟨k + 1, s', by omega, by go_num, hr, hb3, hbel4, Hsz3.out⟩
            case measure => simp [intOf]; omega
          · rw [some3_yes ha h3]
            rw [h0] at hw0
            clear hq0 hq1 h0
            have hfine := hr.fine ha
            go_wp2_with fail
            refine (at_of (hn := hn4) (p := (a : Int)) (k := s'.ln a) hb3 (line_nat s' ha)).mono ?_
            rintro e w' ⟨rfl, rfl⟩
            go_wp2_with fail
            refine (in2_yes h3 hfine.2).mono ?_
            rintro e w' ⟨rfl, rfl⟩
            clear h3 hfine
            go_wp2_with fail
            go_roundw
            case rel => exact ⟨k + 1, s', by omega, by go_num, hr, hb3, hbel4, Hsz3.out⟩
            case measure => simp [intOf]; omega
    · clear hat
      go_wp2_with fail
      all_goals
        go_ret
        exact ⟨rfl, hbel⟩

set_option maxHeartbeats 1000000 in
set_option maxRecDepth 100000 in
theorem tail_bad (n : Int) (h : n < 1 ∨ 4 < n) (v : Value) (w : World) :
    Calls Try.prog 6 #[.int .i64 n, v] w fun e w' => e = .returned (.bool true) ∧ Below w.heap.size w w' := by
  by_cases h1 : n < 1
  · clear h
    have H := Lib.hid h1
    go_enter Try.func6, Try.ntmps6
    go_wp2_with fail
    refine (fact_any _).mono ?_
    rintro e w1 ⟨rfl, hb⟩
    go_wp2_with fail
    refine (new_no _ (.inl H.out) _).mono ?_
    rintro e w2 ⟨rfl, rfl⟩
    go_wp2_with fail
    go_ret
    exact ⟨rfl, hb⟩
  · have h2 : 4 < n := by omega
    have h3 : 1 ≤ n := by omega
    have H := Lib.hid h2
    clear h h1
    go_enter Try.func6, Try.ntmps6
    go_wp2_with fail
    refine (fact_any _).mono ?_
    rintro e w1 ⟨rfl, hb⟩
    go_wp2_with fail
    refine (new_no _ (.inr H.out) _).mono ?_
    rintro e w2 ⟨rfl, rfl⟩
    go_wp2_with fail
    go_ret
    exact ⟨rfl, hb⟩

theorem tail_any (n : Int) (a0 : Option Addr) (len0 cap0 : Nat) (z0 : List Int) (w : World) (w0 : IsRow .i64 w a0 len0 cap0 z0) :
    Calls Try.prog 6 #[.int .i64 n, .slice a0 len0 cap0] w fun e w' => e = .returned (.bool true) ∧ Below w.heap.size w w' := by
  by_cases h : 1 ≤ n ∧ n ≤ 4
  · obtain ⟨m, rfl⟩ := Int.eq_ofNat_of_zero_le (show 0 ≤ n by omega)
    exact tail_walk m (by omega) (by omega) a0 len0 cap0 z0 w w0
  · exact tail_bad n (by omega) _ w
end Go.Proofs.Ytndpimcidnakbaa.Mcs
