import Derived.Test.YtgolkmddncanhaaBakeryWords
import Derived.IntWalk
namespace Go.Proofs.Ytgolkmddncanhaa.Bakery
open Go.RowKit
set_option linter.unusedVariables false

def LeastRel (n L : Nat) (fb : List Nat) (w : World) (i : Value) (wr : World) : Prop :=
  ∃ (k : Nat) (s : St), k ≤ 400 ∧ i = .int .i64 k ∧ Reach n k s ∧ Rep wr n L fb s ∧ Below w.heap.size w wr ∧ (∀ k ∈ fb, k < wr.heap.size)
/-- What the loops keep: the lock, the words, and all else that was. -/
def LeastIn (n L : Nat) (fb : List Nat) (w : World) (s : St) (g : Nat) (wr : World) : Prop :=
  Rep wr n L fb s ∧ Row wr g (2 * n) (fun j => j) s.wd ∧ Below w.heap.size w wr ∧ (∀ k ∈ fb, k < wr.heap.size)
theorem LeastIn.drewN {n L : Nat} {fb : List Nat} {w : World} {s : St} {g : Nat} {wr : World} (h : LeastIn n L fb w s g wr) (m : Nat) : LeastIn n L fb w s g (wr.drewN m) :=
  ⟨h.1.keep (fun _ _ => rfl), h.2.1.drewN m, ⟨h.2.2.1.os, h.2.2.1.tape, h.2.2.1.output, h.2.2.1.size, h.2.2.1.block⟩, h.2.2.2⟩

set_option maxHeartbeats 4000000 in
set_option maxRecDepth 100000 in
theorem least_walk (n : Nat) (hn1 : 1 ≤ n) (hn4 : n ≤ 4) (a0 : Option Addr) (len0 cap0 : Nat) (z0 : List Int) (w : World) (w0 : IsRow .i64 w a0 len0 cap0 z0) :
    Calls Try.prog 6 #[.int .i64 n, .slice a0 len0 cap0] w fun e w' => e = .returned (.bool true) ∧ Below w.heap.size w w' := by
  have hle := w0.le
  have hat := Lib.hid (w0.at)
  clear w0
  unfold maxLen at hle
  have hnn : 0 ≤ (n : Int) := by omega
  have hnn4 : (n : Int) ≤ 4 := by omega
  go_enter Try.func6, Try.ntmps6
  go_wp2_with fail
  refine (fact_any _).mono ?_
  rintro e w1 ⟨rfl, h1⟩
  go_wp2_with fail
  refine (new_any n hn1 hn4 _).mono ?_
  rintro e w2 ⟨L, fb, rfl, hL, hbel0, hfb⟩
  have hbel1 := h1.trans (hbel0.mono h1.size)
  have Hfb : Hid (∀ k ∈ fb, w.heap.size ≤ k) := fun k hk => Nat.le_trans h1.size (hfb k hk).1
  have Hlt : Hid (∀ k ∈ fb, k < w2.heap.size) := fun k hk => (hfb k hk).2
  clear hfb hbel0 h1
  go_wp2_with fail
  go_loopw [8] (fun i wr => LeastRel n L fb w i wr) (fun i _ => 400 - (intOf i).toNat)
  case atStart => exact ⟨0, first n, by omega, rfl, Reach.first n hn1 hn4, hL, hbel1, Hlt.out⟩
  case round =>
    obtain ⟨k, s, hk, rfl, hf, hb, hbel, hsz⟩ := hrel
    have Hsz := Lib.hid hsz
    clear hL hbel1 Hlt hsz
    by_cases hlt : k < len0 ∧ k < 400
    · obtain ⟨hk1, hk2⟩ := hlt
      obtain ⟨b, off, p, rfl, hb0, hc, -, -⟩ := hat.out k hk1
      have hc' : wr.cell? ⟨b, off + k, none⟩ = some (.int .i64 p) := by
        rw [hbel.cell (p := ⟨b, off + k, none⟩) hb0]; exact hc
      clear hat hc hb0
      go_wp2_with fail
      refine (step_any p hb hf (by omega)).mono ?_
      rintro e w' ⟨rfl, hb', ho⟩
      have hr := hf.step p
      have hbel' := hbel.trans (ho.bel Hfb.out hbel.size)
      have Hsz' : Hid (∀ k ∈ fb, k < w'.heap.size) := fun k hk => Nat.lt_of_lt_of_le (Hsz.out k hk) ho.size_le
      generalize Bakery.step n s p = s' at hb' hr
      clear ho hb hf hc' hbel Hsz
      go_wp2_with fail
      refine (words_any hb' hn1 hn4).mono ?_
      rintro e w3 ⟨g, cp, rfl, hg, hgl, hrow, hbel3⟩
      have hb3 := hb'.keep (w' := w3) (fun x hx => hbel3.block x (Hsz'.out x hx))
      have hbel4 := hbel'.trans (hbel3.mono hbel'.size)
      have Hsz3 : Hid (∀ k ∈ fb, k < w3.heap.size) := fun x hx => Nat.lt_of_lt_of_le (Hsz'.out x hx) hbel3.size
      have Hrow := Lib.hid hrow
      clear hbel3 hbel' hb' Hsz' hg hgl hrow
      have el : ((((2 * n : Nat)) : Int) != 2 * (n : Int)) = false := by simp
      go_wp2_with fail
      have hlin0 : LeastIn n L fb w s' g w3 := ⟨hb3, Hrow.out, hbel4, Hsz3.out⟩
      clear hb3 hbel4 Hrow Hsz3
      go_loopw [10] (fun jv wr => ∃ j : Nat, j ≤ n ∧ jv = .int .i64 j ∧ LeastIn n L fb w s' g wr) (fun jv _ => n - (intOf jv).toNat)
      case atStart => exact ⟨0, by omega, rfl, hlin0⟩
      case round =>
        obtain ⟨j, hj, rfl, hlin⟩ := hrel
        clear hlin0
        have hb3 := hlin.1
        have hrow := hlin.2.1
        by_cases hj2 : j < n
        · have hp0 := (hrow j (by omega)).1
          have hp1 := (hrow (n + j) (by omega)).1
          simp only at hp0 hp1
          have hnj : ((n : Int) + j).toNat = n + j := by omega
          have hwj : IntKind.i64.wrap ((n : Int) + j) = (n : Int) + j := IntWalk.i64_in _ (by omega)
          clear hrow
          go_wp2_with fail
          refine (at_of (hn := hn4) (p := j) (k := s'.ln j) hb3 (line_nat s' hj2)).mono ?_
          rintro e w' ⟨rfl, rfl⟩
          by_cases h1 : s'.ln j = 1
          · have hno := hr.none hj2 h1
            rw [hno.1] at hp0
            rw [hno.2] at hp1
            have t1 : (s'.ln j == 1) = true := by simp [h1]
            have t7 : (s'.ln j == 7) = false := by simp [h1]
            clear hno h1
            go_wp2_with fail
            go_loopw [11] (fun q wr => ∃ i : Nat, i ≤ n ∧ q = .int .i64 i ∧ LeastIn n L fb w s' g wr) (fun q _ => n - (intOf q).toNat)
            case atStart => exact ⟨0, by omega, rfl, hlin⟩
            case round =>
              obtain ⟨i, hi, rfl, hlin⟩ := hrel
              clear hb3 hp0 hp1
              have hb3 := hlin.1
              have hrow := hlin.2.1
              have hp0 := (hrow j (by omega)).1
              have hp1 := (hrow (n + j) (by omega)).1
              simp only at hp0 hp1
              by_cases hi2 : i < n
              · go_wp2_with fail
                refine (at_of (hn := hn4) (p := j) (k := s'.ln j) hb3 (line_nat s' hj2)).mono ?_
                rintro e w' ⟨rfl, rfl⟩
                go_wp2_with fail
                go_roundw
                case rel => exact ⟨j + 1, by omega, by go_num, hlin⟩
                case measure => simp [intOf]; omega
              · go_wp2_with fail
                go_roundw
                case rel => exact ⟨j + 1, by omega, by go_num, hlin⟩
                case measure => simp [intOf]; omega
          · have t1 : (s'.ln j == 1) = false := by simp [h1]
            clear h1
            go_wp2_with fail
            go_loopw [11] (fun q wr => ∃ i : Nat, i ≤ n ∧ q = .int .i64 i ∧ LeastIn n L fb w s' g wr) (fun q _ => n - (intOf q).toNat)
            case atStart => exact ⟨0, by omega, rfl, hlin⟩
            case round =>
              obtain ⟨i, hi, rfl, hlin⟩ := hrel
              clear hb3 hp0 hp1
              have hb3 := hlin.1
              have hrow := hlin.2.1
              have hp0 := (hrow j (by omega)).1
              have hp1 := (hrow (n + j) (by omega)).1
              simp only at hp0 hp1
              by_cases hi2 : i < n
              · go_wp2_with fail
                refine (at_of (hn := hn4) (p := j) (k := s'.ln j) hb3 (line_nat s' hj2)).mono ?_
                rintro e w' ⟨rfl, rfl⟩
                by_cases h7 : s'.ln j = 7
                · have t7 : (s'.ln j == 7) = true := by simp [h7]
                  have hq0 := (hrow i (by omega)).1
                  have hq1 := (hrow (n + i) (by omega)).1
                  simp only at hq0 hq1
                  have hni : ((n : Int) + i).toNat = n + i := by omega
                  have hwi : IntKind.i64.wrap ((n : Int) + i) = (n : Int) + i := IntWalk.i64_in _ (by omega)
                  clear hrow
                  by_cases hij : i = j
                  · have u1 : ((i : Int) != (j : Int)) = false := by simp; omega
                    clear hij h7
                    go_wp2_with fail
                    go_quiet (fail)
                    go_wp2_with fail
                    go_roundw
                    case rel => exact ⟨i + 1, by omega, by go_num, hlin.drewN _⟩
                    case measure => simp [intOf]; omega
                  · have u1 : ((i : Int) != (j : Int)) = true := by simp; omega
                    have hl := hr.least hj2 hi2 hij h7
                    by_cases hc : s'.wd i = 0
                    · have u2 : (s'.wd i == 0) = true := by simp [hc]
                      by_cases hN : s'.wd (n + i) = 0
                      · have u3 : (s'.wd (n + i) != 0) = false := by simp [hN]
                        clear hij h7 hl hc hN
                        go_wp2_with fail
                        go_quiet (fail)
                        go_wp2_with fail
                        go_roundw
                        case rel => exact ⟨i + 1, by omega, by go_num, hlin.drewN _⟩
                        case measure => simp [intOf]; omega
                      · have u3 : (s'.wd (n + i) != 0) = true := by simp [hN]
                        have hl2 := hl hN
                        have u4 : decide (s'.wd (n + i) < s'.wd (n + j)) = false := by simp; omega
                        by_cases hE : s'.wd (n + i) = s'.wd (n + j)
                        · have u5 : (s'.wd (n + i) == s'.wd (n + j)) = true := by simp [hE]
                          have u6 : decide (i < j) = false := by simp; omega
                          have u6' : decide ((i : Int) < (j : Int)) = false := by simp; omega
                          clear hij h7 hl hc hN hl2 hE
                          go_wp2_with fail
                          go_quiet (fail)
                          go_wp2_with fail
                          go_roundw
                          case rel => exact ⟨i + 1, by omega, by go_num, hlin.drewN _⟩
                          case measure => simp [intOf]; omega
                        · have u5 : (s'.wd (n + i) == s'.wd (n + j)) = false := by simp [hE]
                          clear hij h7 hl hc hN hl2 hE
                          go_wp2_with fail
                          go_quiet (fail)
                          go_wp2_with fail
                          go_roundw
                          case rel => exact ⟨i + 1, by omega, by go_num, hlin.drewN _⟩
                          case measure => simp [intOf]; omega
                    · have u2 : (s'.wd i == 0) = false := by simp [hc]
                      clear hij h7 hl hc
                      go_wp2_with fail
                      go_quiet (fail)
                      go_wp2_with fail
                      go_roundw
                      case rel => exact ⟨i + 1, by omega, by go_num, hlin.drewN _⟩
                      case measure => simp [intOf]; omega
                · have t7 : (s'.ln j == 7) = false := by simp [h7]
                  clear h7
                  go_wp2_with fail
                  go_roundw
                  case rel => exact ⟨j + 1, by omega, by go_num, hlin⟩
                  case measure => simp [intOf]; omega
              · go_wp2_with fail
                go_roundw
                case rel => exact ⟨j + 1, by omega, by go_num, hlin⟩
                case measure => simp [intOf]; omega
        · go_wp2_with fail
          go_roundw
          case rel => exact ⟨k + 1, s', by omega, by go_num, hr, hlin.1, hlin.2.2.1, hlin.2.2.2⟩
          case measure => simp [intOf]; omega
    · clear hat
      go_wp2_with fail
      all_goals
        go_ret
        exact ⟨rfl, hbel⟩

set_option maxHeartbeats 1000000 in
set_option maxRecDepth 100000 in
theorem least_bad (n : Int) (h : n < 1 ∨ 4 < n) (v : Value) (w : World) :
    Calls Try.prog 6 #[.int .i64 n, v] w fun e w' => e = .returned (.bool true) ∧ Below w.heap.size w w' := by
  by_cases h1 : n < 1
  · clear h
    have H := Lib.hid h1
    go_enter Try.func6, Try.ntmps6
    go_wp2_with fail
    refine (fact_any _).mono ?_
    rintro e w1 ⟨rfl, hb⟩
    go_wp2_with fail
    refine (new_no _ (.inl H.out) _).mono ?_
    rintro e w2 ⟨rfl, rfl⟩
    go_wp2_with fail
    go_ret
    exact ⟨rfl, hb⟩
  · have h2 : 4 < n := by omega
    have h3 : 1 ≤ n := by omega
    have H := Lib.hid h2
    clear h h1
    go_enter Try.func6, Try.ntmps6
    go_wp2_with fail
    refine (fact_any _).mono ?_
    rintro e w1 ⟨rfl, hb⟩
    go_wp2_with fail
    refine (new_no _ (.inr H.out) _).mono ?_
    rintro e w2 ⟨rfl, rfl⟩
    go_wp2_with fail
    go_ret
    exact ⟨rfl, hb⟩

theorem least_any (n : Int) (a0 : Option Addr) (len0 cap0 : Nat) (z0 : List Int) (w : World) (w0 : IsRow .i64 w a0 len0 cap0 z0) :
    Calls Try.prog 6 #[.int .i64 n, .slice a0 len0 cap0] w fun e w' => e = .returned (.bool true) ∧ Below w.heap.size w w' := by
  by_cases h : 1 ≤ n ∧ n ≤ 4
  · obtain ⟨m, rfl⟩ := Int.eq_ofNat_of_zero_le (show 0 ≤ n by omega)
    exact least_walk m (by omega) (by omega) a0 len0 cap0 z0 w w0
  · exact least_bad n (by omega) _ w
end Go.Proofs.Ytgolkmddncanhaa.Bakery
