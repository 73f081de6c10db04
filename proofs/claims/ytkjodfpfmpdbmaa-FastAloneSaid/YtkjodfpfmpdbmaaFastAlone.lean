import Derived.Test.YtkjodfpfmpdbmaaFastFact
import Derived.Test.YtkjodfpfmpdbmaaIn2
namespace Go.Proofs.Ytkjodfpfmpdbmaa.Fast
open Go.RowKit
set_option linter.unusedVariables false

def AloneScr (n L : Nat) (fb : List Nat) (w : World) (i : Value) (wr : World) : Prop :=
  ∃ (k : Nat) (s : St), k ≤ 200 ∧ i = .int .i64 k ∧ Reach n k s ∧ Rep wr n L fb s ∧ Below w.heap.size w wr ∧ (∀ k ∈ fb, k < wr.heap.size)
def AllOne (s : St) (j : Nat) : Prop := ∀ g, g < j → s.ln g = 1
def AloneSelf (n L : Nat) (fb : List Nat) (w : World) (s : St) (m : Nat) (i : Value) (wr : World) : Prop :=
  ∃ j : Nat, j ≤ 5 ∧ i = .int .i64 j ∧ Rep wr n L fb (self n s m j) ∧ Below w.heap.size w wr

set_option maxHeartbeats 4000000 in
set_option maxRecDepth 100000 in
theorem alone_walk (n : Nat) (hn1 : 1 ≤ n) (hn4 : n ≤ 4) (a0 : Option Addr) (len0 cap0 : Nat) (z0 : List Int) (x0 : Int) (w : World) (w0 : IsRow .i64 w a0 len0 cap0 z0) :
    Calls Try.prog 5 #[.int .i64 n, .slice a0 len0 cap0, .int .i64 x0] w fun e w' => e = .returned (.bool true) ∧ Below w.heap.size w w' := by
  have hle := w0.le
  have hat := Lib.hid (w0.at)
  clear w0
  unfold maxLen at hle
  have hnn : 0 ≤ (n : Int) := by omega
  have hnn4 : (n : Int) ≤ 4 := by omega
  go_enter Try.func5, Try.ntmps5
  go_wp2_with fail
  refine (fact_any _).mono ?_
  rintro e w1 ⟨rfl, h1⟩
  go_wp2_with fail
  refine (new_any n hn1 hn4 _).mono ?_
  rintro e w2 ⟨L, fb, rfl, hL, hbel0, hfb⟩
  have hbel1 := h1.trans (hbel0.mono h1.size)
  have Hfb : Hid (∀ k ∈ fb, w.heap.size ≤ k) := fun k hk => Nat.le_trans h1.size (hfb k hk).1
  have Hlt : Hid (∀ k ∈ fb, k < w2.heap.size) := fun k hk => (hfb k hk).2
  clear hfb hbel0 h1
  go_wp2_with fail
  go_loopw [10] (fun i wr => AloneScr n L fb w i wr) (fun i _ => 200 - (intOf i).toNat)
  case atStart => exact ⟨0, first n, by omega, rfl, Reach.first n hn1 hn4, hL, hbel1, Hlt.out⟩
  case round =>
    obtain ⟨k, s, hk, rfl, hf, hb, hbel, hsz⟩ := hrel
    have Hsz := Lib.hid hsz
    clear hL hbel1 Hlt hsz
    by_cases hlt : k < len0 ∧ k < 200
    · obtain ⟨hk1, hk2⟩ := hlt
      obtain ⟨b, off, p, rfl, hb0, hc, -, -⟩ := hat.out k hk1
      have hc' : wr.cell? ⟨b, off + k, none⟩ = some (.int .i64 p) := by
        rw [hbel.cell (p := ⟨b, off + k, none⟩) hb0]; exact hc
      clear hat hc hb0
      go_wp2_with fail
      refine (step_any p hb hf (by omega)).mono ?_
      rintro e w' ⟨rfl, hb', ho⟩
      have hr := hf.step p
      have hbel' := hbel.trans (ho.bel Hfb.out hbel.size)
      have Hsz' : Hid (∀ k ∈ fb, k < w'.heap.size) := fun k hk => Nat.lt_of_lt_of_le (Hsz.out k hk) ho.size_le
      generalize Fast.step n s p = s' at hb' hr
      clear ho hb hf hc' hbel Hsz
      go_wp2_with fail
      go_roundw
      case rel => exact ⟨k + 1, s', by omega, by go_num, hr, hb', hbel', Hsz'.out⟩
      case measure => simp [intOf]; omega
    · clear hat
      by_cases hx : 0 ≤ x0 ∧ x0 ≤ (n : Int) - 1
      · obtain ⟨m, rfl⟩ := Int.eq_ofNat_of_zero_le hx.1
        have hm : m < n := by omega
        have hx1 := hx.1
        have hx2 := hx.2
        clear hx
        go_wp2_with fail
        all_goals
          refine (in2_yes hx1 hx2).mono ?_
          rintro e w' ⟨rfl, rfl⟩
          clear hle hlt Hsz
          go_wp2_with fail
          go_loop [11] (fun q => ∃ j : Nat, j ≤ n ∧ q = .int .i64 j ∧ AllOne s j) (fun q => n - (intOf q).toNat)
          case atStart => exact ⟨0, by omega, rfl, fun g hg => by omega⟩
          case round =>
            obtain ⟨j, hj, rfl, hall⟩ := hrel
            by_cases hj2 : j < n
            · go_wp2_with fail
              refine (at_of (hn := hn4) (p := j) (k := s.ln j) hb (line_nat s hj2)).mono ?_
              rintro e w' ⟨rfl, rfl⟩
              by_cases hl : s.ln j = 1
              · have ht : (s.ln j != 1) = false := by simp [hl]
                have Hall : Hid (AllOne s (j + 1)) := (show AllOne s (j + 1) from fun g hg => by
                  by_cases c : g = j
                  · subst c; exact hl
                  · exact hall g (by omega))
                clear hl hall
                go_wp2_with fail
                go_round
                case rel => exact ⟨j + 1, by omega, by go_num, Hall.out⟩
                case measure => simp [intOf]; omega
              · have ht : (s.ln j != 1) = true := by simp [hl]
                clear hl
                go_wp2_with fail
                go_ret
                exact ⟨rfl, hbel⟩
            · obtain rfl : j = n := by omega
              have Hall := Lib.hid hall
              clear hall
              go_wp2_with fail
              go_loopw [12] (fun i wr => AloneSelf j L fb w s m i wr) (fun i _ => 5 - (intOf i).toNat)
              case atStart => exact ⟨0, by omega, rfl, hb, hbel⟩
              case round =>
                obtain ⟨i, hi, rfl, hb, hbel⟩ := hrel
                by_cases hi2 : i < 5
                · have hiI : (i : Int) < 5 := by omega
                  have hr := self_reach hf (m : Int).toNat i
                  simp only [Int.toNat_natCast] at hr
                  go_wp2_with fail
                  refine (step_of (n := j) (fb := fb) (p := (m : Int)) (r := .nilIface) (s' := self j s m (i + 1)) hb hr (by omega) (told_nil hm) rfl).mono ?_
                  rintro e w' ⟨rfl, hb', ho⟩
                  have hbel' := hbel.trans (ho.bel Hfb.out hbel.size)
                  go_wp2_with fail
                  go_roundw
                  case rel => exact ⟨i + 1, by omega, by go_num, hb', hbel'⟩
                  case measure => simp [intOf]; omega
                · obtain rfl : i = 5 := by omega
                  have h12 : line j (self j s m 5) (m : Int) = 12 := by rw [line_nat _ hm]; exact hf.soon Hall.out hm
                  have H12 := Lib.hid h12
                  clear h12
                  go_wp2_with fail
                  refine (at_of (hn := hn4) (p := (m : Int)) (k := 12) hb H12.out).mono ?_
                  rintro e w' ⟨rfl, rfl⟩
                  go_wp2_with fail
                  go_ret
                  exact ⟨rfl, hbel⟩
      · go_wp2_with fail
        all_goals
          refine (in2_no (by omega)).mono ?_
          rintro e w' ⟨rfl, rfl⟩
          clear hx
          go_wp2_with fail
          go_ret
          exact ⟨rfl, hbel⟩

set_option maxHeartbeats 1000000 in
set_option maxRecDepth 100000 in
theorem alone_bad (n : Int) (h : n < 1 ∨ 4 < n) (v v2 : Value) (w : World) :
    Calls Try.prog 5 #[.int .i64 n, v, v2] w fun e w' => e = .returned (.bool true) ∧ Below w.heap.size w w' := by
  by_cases h1 : n < 1
  · clear h
    have H := Lib.hid h1
    go_enter Try.func5, Try.ntmps5
    go_wp2_with fail
    refine (fact_any _).mono ?_
    rintro e w1 ⟨rfl, hb⟩
    go_wp2_with fail
    refine (new_no _ (.inl H.out) _).mono ?_
    rintro e w2 ⟨rfl, rfl⟩
    go_wp2_with fail
    go_ret
    exact ⟨rfl, hb⟩
  · have h2 : 4 < n := by omega
    have h3 : 1 ≤ n := by omega
    have H := Lib.hid h2
    clear h h1
    go_enter Try.func5, Try.ntmps5
    go_wp2_with fail
    refine (fact_any _).mono ?_
    rintro e w1 ⟨rfl, hb⟩
    go_wp2_with fail
    refine (new_no _ (.inr H.out) _).mono ?_
    rintro e w2 ⟨rfl, rfl⟩
    go_wp2_with fail
    go_ret
    exact ⟨rfl, hb⟩

theorem alone_any (n : Int) (a0 : Option Addr) (len0 cap0 : Nat) (z0 : List Int) (x0 : Int) (w : World) (w0 : IsRow .i64 w a0 len0 cap0 z0) :
    Calls Try.prog 5 #[.int .i64 n, .slice a0 len0 cap0, .int .i64 x0] w fun e w' => e = .returned (.bool true) ∧ Below w.heap.size w w' := by
  by_cases h : 1 ≤ n ∧ n ≤ 4
  · obtain ⟨m, rfl⟩ := Int.eq_ofNat_of_zero_le (show 0 ≤ n by omega)
    exact alone_walk m (by omega) (by omega) a0 len0 cap0 z0 x0 w w0
  · exact alone_bad n (by omega) _ _ w
end Go.Proofs.Ytkjodfpfmpdbmaa.Fast
