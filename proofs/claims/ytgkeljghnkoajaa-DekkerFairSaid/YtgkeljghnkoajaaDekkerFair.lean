import Derived.Test.YtgkeljghnkoajaaDekkerFact
import Derived.Test.YtgkeljghnkoajaaIn2
namespace Go.Proofs.Ytgkeljghnkoajaa.Dekker
open Go.RowKit
set_option linter.unusedVariables false

def LaidRel (w : World) (L : Nat) (fb : List Nat) (i : Value) (wr : World) : Prop :=
  ∃ (k : Nat) (s : St), k ≤ 200 ∧ i = .int .i64 k ∧ Reach 2 k s ∧ Rep wr 2 L fb s ∧ Below w.heap.size w wr
def FairRel (w : World) (L : Nat) (fb : List Nat) (p : Int) (c i : Value) (wr : World) : Prop :=
  ∃ (k m : Nat) (x : Int) (s : St), k ≤ 60 ∧ i = .int .i64 k ∧ c = .int .i64 x ∧ 0 ≤ x ∧ x ≤ k ∧ m ≤ 1000 + 2 * k ∧ fairRun p (60 - k) s x = true ∧ Reach 2 m s ∧ Rep wr 2 L fb s ∧ Below w.heap.size w wr

theorem fairRun_zero (p : Int) (s : St) (x : Int) : fairRun p 0 s x = false := rfl
theorem fairRun_succ (p : Int) (m : Nat) (s : St) (x : Int) : fairRun p (m + 1) s x =
    if line 2 (step 2 (step 2 s (1 - p)) p) p = 7 then decide ((if line 2 s (1 - p) ≠ 7 ∧ line 2 (step 2 s (1 - p)) (1 - p) = 7 then x + 1 else x) ≤ 2)
    else fairRun p m (step 2 (step 2 s (1 - p)) p) (if line 2 s (1 - p) ≠ 7 ∧ line 2 (step 2 s (1 - p)) (1 - p) = 7 then x + 1 else x) := rfl

set_option maxHeartbeats 4000000 in
set_option maxRecDepth 100000 in
theorem fair_walk (a0 : Option Addr) (len0 cap0 : Nat) (z0 : List Int) (p : Int) (w : World) (w0 : IsRow .i64 w a0 len0 cap0 z0) :
    Calls Try.prog 5 #[.slice a0 len0 cap0, .int .i64 p] w fun e w' => e = .returned (.bool true) ∧ Below w.heap.size w w' := by
  have hle := w0.le
  have hat := Lib.hid (w0.at)
  clear w0
  unfold maxLen at hle
  go_enter Try.func5, Try.ntmps5
  go_wp2_with fail
  refine (fact_any _).mono ?_
  rintro e w1 ⟨rfl, h1⟩
  go_wp2_with fail
  refine (new_any 2 _).mono ?_
  rintro e w2 ⟨L, fb, rfl, hL, hbel0, hfb⟩
  have hbel1 := h1.trans (hbel0.mono h1.size)
  have Hfb : Hid (∀ k ∈ fb, w.heap.size ≤ k) := fun k hk => Nat.le_trans h1.size (hfb k hk).1
  clear hfb hbel0 h1
  go_wp2_with fail
  go_loopw [7] (fun i wr => LaidRel w L fb i wr) (fun i _ => 200 - (intOf i).toNat)
  case atStart => exact ⟨0, first 2, by omega, rfl, Reach.first, hL, hbel1⟩
  case round =>
    obtain ⟨k, s, hk, rfl, hf, hb, hbel⟩ := hrel
    clear hL hbel1
    by_cases hlt : k < len0 ∧ k < 200
    · obtain ⟨hk1, hk2⟩ := hlt
      obtain ⟨b, off, q, rfl, hb0, hc, -, -⟩ := hat.out k hk1
      have hc' : wr.cell? ⟨b, off + k, none⟩ = some (.int .i64 q) := by
        rw [hbel.cell (p := ⟨b, off + k, none⟩) hb0]; exact hc
      clear hat hc
      go_wp2_with fail
      refine (step_any q hb hf (by omega)).mono ?_
      rintro e w' ⟨rfl, hb', ho⟩
      have hr := hf.step q
      have hbel' := hbel.trans (ho.below Hfb.out)
      clear ho hb hf hc' hbel
      go_wp2_with fail
      go_roundw
      case rel => exact ⟨k + 1, _, by omega, by go_num, hr, hb', hbel'⟩
      case measure => simp [intOf]; omega
    · clear hat
      go_wp2_with fail
      all_goals
        clear hlt hle
        by_cases hp : 0 ≤ p ∧ p ≤ 1
        · have hq0 : 0 ≤ 1 - p := by omega
          refine (in2_yes hp.1 hp.2).mono ?_
          rintro e w' ⟨rfl, rfl⟩
          go_wp2_with fail
          refine (at_of (n := 2) (p := p) (k := line 2 s p) hb rfl).mono ?_
          rintro e w' ⟨rfl, rfl⟩
          go_wp2_with fail
          by_cases g0 : 2 ≤ line 2 s p ∧ line 2 s p ≤ 6
          · have hfair := hf.fair p (by omega) g0.1 g0.2
            refine (in2_yes g0.1 g0.2).mono ?_
            rintro e w' ⟨rfl, rfl⟩
            clear g0
            have HF := Lib.hid hfair
            clear hfair
            go_wp2_with fail
            go_loopw [8, 9] (fun c i wr => FairRel w L fb p c i wr) (fun _ i _ => 60 - (intOf i).toNat)
            case atStart => exact ⟨0, k, 0, s, by omega, rfl, rfl, by omega, by omega, by omega, HF.out, hf, hb, hbel⟩
            case round =>
              obtain ⟨j, m, x, s', hj, rfl, rfl, hx0, hx1, hm, hrun, hr, hb', hbel'⟩ := hrel
              clear hb hbel hf HF
              by_cases hj60 : j < 60
              · obtain ⟨d, hd⟩ : ∃ d, 60 - j = d + 1 := ⟨60 - j - 1, by omega⟩
                rw [hd, fairRun_succ] at hrun
                have Hd := Lib.hid hd
                have Hrun := Lib.hid hrun
                clear hrun hd
                go_wp2_with fail
                refine (at_of (n := 2) (p := 1 - p) (k := line 2 s' (1 - p)) hb' rfl).mono ?_
                rintro e w' ⟨rfl, rfl⟩
                go_wp2_with fail
                refine (step_of (n := 2) (fb := fb) (p := 1 - p) (s' := step 2 s' (1 - p)) hb' hr (by omega) rfl rfl).mono ?_
                rintro e w'' ⟨rfl, hb'', ho⟩
                have hr2 := hr.step (1 - p)
                have hbel2 := hbel'.trans (ho.below Hfb.out)
                clear ho
                clear hb' hbel' hr
                by_cases hX : line 2 s' (1 - p) = 7
                · have tX : (line 2 s' (1 - p) != 7) = false := by simp [hX]
                  have HX := Lib.hid hX
                  clear hX
                  go_wp2_with fail
                  refine (step_of (n := 2) (fb := fb) (p := p) (s' := step 2 (step 2 s' (1 - p)) p) hb'' hr2 (by omega) rfl rfl).mono ?_
                  rintro e w3 ⟨rfl, hb3, ho3⟩
                  have hr3 := hr2.step p
                  have hbel3 := hbel2.trans (ho3.below Hfb.out)
                  clear ho3 hbel2 hb'' hr2
                  go_wp2_with fail
                  refine (at_of (n := 2) (p := p) (k := line 2 (step 2 (step 2 s' (1 - p)) p) p) hb3 rfl).mono ?_
                  rintro e w' ⟨rfl, rfl⟩
                  by_cases hZ : line 2 (step 2 (step 2 s' (1 - p)) p) p = 7
                  · have hle2 : x ≤ 2 := by
                      have := Hrun.out
                      rw [if_pos hZ, if_neg (fun h => h.1 HX.out)] at this
                      simpa using this
                    have tZ : (line 2 (step 2 (step 2 s' (1 - p)) p) p == 7) = true := by simp [hZ]
                    clear hZ
                    go_wp2_with fail
                    go_ret
                    exact ⟨rfl, hbel3⟩
                  · have hrun2 : fairRun p d (step 2 (step 2 s' (1 - p)) p) (x) = true := by
                      have := Hrun.out
                      rw [if_neg hZ, if_neg (fun h => h.1 HX.out)] at this
                      exact this
                    have Hrun2 := Lib.hid hrun2
                    have tZ : (line 2 (step 2 (step 2 s' (1 - p)) p) p == 7) = false := by simp [hZ]
                    clear hZ hrun2
                    go_wp2_with fail
                    go_roundw
                    case rel =>
                      have ed : 60 - (j + 1) = d := by have := Hd.out; omega
                      exact ⟨j + 1, m + 1 + 1, x, _, by omega, by go_num, rfl, by omega, by omega, by omega, by rw [ed]; exact Hrun2.out, hr3, hb3, hbel3⟩
                    case measure => simp [intOf]; omega
                · have tX : (line 2 s' (1 - p) != 7) = true := by simp [hX]
                  have HX := Lib.hid hX
                  clear hX
                  go_wp2_with fail
                  refine (at_of (n := 2) (p := 1 - p) (k := line 2 (step 2 s' (1 - p)) (1 - p)) hb'' rfl).mono ?_
                  rintro e w' ⟨rfl, rfl⟩
                  by_cases hY : line 2 (step 2 s' (1 - p)) (1 - p) = 7
                  · have tY : (line 2 (step 2 s' (1 - p)) (1 - p) == 7) = true := by simp [hY]
                    have HY := Lib.hid hY
                    clear hY
                    go_wp2_with fail
                    refine (step_of (n := 2) (fb := fb) (p := p) (s' := step 2 (step 2 s' (1 - p)) p) hb'' hr2 (by omega) rfl rfl).mono ?_
                    rintro e w3 ⟨rfl, hb3, ho3⟩
                    have hr3 := hr2.step p
                    have hbel3 := hbel2.trans (ho3.below Hfb.out)
                    clear ho3 hbel2 hb'' hr2
                    go_wp2_with fail
                    refine (at_of (n := 2) (p := p) (k := line 2 (step 2 (step 2 s' (1 - p)) p) p) hb3 rfl).mono ?_
                    rintro e w' ⟨rfl, rfl⟩
                    by_cases hZ : line 2 (step 2 (step 2 s' (1 - p)) p) p = 7
                    · have hle2 : x + 1 ≤ 2 := by
                        have := Hrun.out
                        rw [if_pos hZ, if_pos ⟨HX.out, HY.out⟩] at this
                        simpa using this
                      have tZ : (line 2 (step 2 (step 2 s' (1 - p)) p) p == 7) = true := by simp [hZ]
                      clear hZ
                      go_wp2_with fail
                      go_ret
                      exact ⟨rfl, hbel3⟩
                    · have hrun2 : fairRun p d (step 2 (step 2 s' (1 - p)) p) (x + 1) = true := by
                        have := Hrun.out
                        rw [if_neg hZ, if_pos ⟨HX.out, HY.out⟩] at this
                        exact this
                      have Hrun2 := Lib.hid hrun2
                      have tZ : (line 2 (step 2 (step 2 s' (1 - p)) p) p == 7) = false := by simp [hZ]
                      clear hZ hrun2
                      go_wp2_with fail
                      go_roundw
                      case rel =>
                        have ed : 60 - (j + 1) = d := by have := Hd.out; omega
                        exact ⟨j + 1, m + 1 + 1, x + 1, _, by omega, by go_num, rfl, by omega, by omega, by omega, by rw [ed]; exact Hrun2.out, hr3, hb3, hbel3⟩
                      case measure => simp [intOf]; omega
                  · have tY : (line 2 (step 2 s' (1 - p)) (1 - p) == 7) = false := by simp [hY]
                    have HY := Lib.hid hY
                    clear hY
                    go_wp2_with fail
                    refine (step_of (n := 2) (fb := fb) (p := p) (s' := step 2 (step 2 s' (1 - p)) p) hb'' hr2 (by omega) rfl rfl).mono ?_
                    rintro e w3 ⟨rfl, hb3, ho3⟩
                    have hr3 := hr2.step p
                    have hbel3 := hbel2.trans (ho3.below Hfb.out)
                    clear ho3 hbel2 hb'' hr2
                    go_wp2_with fail
                    refine (at_of (n := 2) (p := p) (k := line 2 (step 2 (step 2 s' (1 - p)) p) p) hb3 rfl).mono ?_
                    rintro e w' ⟨rfl, rfl⟩
                    by_cases hZ : line 2 (step 2 (step 2 s' (1 - p)) p) p = 7
                    · have hle2 : x ≤ 2 := by
                        have := Hrun.out
                        rw [if_pos hZ, if_neg (fun h => HY.out h.2)] at this
                        simpa using this
                      have tZ : (line 2 (step 2 (step 2 s' (1 - p)) p) p == 7) = true := by simp [hZ]
                      clear hZ
                      go_wp2_with fail
                      go_ret
                      exact ⟨rfl, hbel3⟩
                    · have hrun2 : fairRun p d (step 2 (step 2 s' (1 - p)) p) (x) = true := by
                        have := Hrun.out
                        rw [if_neg hZ, if_neg (fun h => HY.out h.2)] at this
                        exact this
                      have Hrun2 := Lib.hid hrun2
                      have tZ : (line 2 (step 2 (step 2 s' (1 - p)) p) p == 7) = false := by simp [hZ]
                      clear hZ hrun2
                      go_wp2_with fail
                      go_roundw
                      case rel =>
                        have ed : 60 - (j + 1) = d := by have := Hd.out; omega
                        exact ⟨j + 1, m + 1 + 1, x, _, by omega, by go_num, rfl, by omega, by omega, by omega, by rw [ed]; exact Hrun2.out, hr3, hb3, hbel3⟩
                      case measure => simp [intOf]; omega
              · obtain rfl : j = 60 := by omega
                simp [fairRun_zero] at hrun
          · refine (in2_no (by omega)).mono ?_
            rintro e w' ⟨rfl, rfl⟩
            go_wp2_with fail
            go_ret
            exact ⟨rfl, hbel⟩
        · refine (in2_no (by omega)).mono ?_
          rintro e w' ⟨rfl, rfl⟩
          go_wp2_with fail
          go_ret
          exact ⟨rfl, hbel⟩
end Go.Proofs.Ytgkeljghnkoajaa.Dekker
