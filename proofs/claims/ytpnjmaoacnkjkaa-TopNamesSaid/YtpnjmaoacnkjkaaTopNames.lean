import Derived.Test.YtpnjmaoacnkjkaaSplitNew
import Derived.Test.YtpnjmaoacnkjkaaGrow
import Derived.Test.YtpnjmaoacnkjkaaInT
import Derived.Test.YtpnjmaoacnkjkaaNamesPlain
import Derived.Test.YtpnjmaoacnkjkaaBarNewT
namespace Go.Proofs.Ytpnjmaoacnkjkaa.TopN
open Go.RowKit
set_option linter.unusedVariables false

/-- The net in the state s, the barrier in the state t. -/
def Both (n L : Nat) (fb : List Nat) (K : Nat) (gb : List Nat) (w : World) (s : Split.St) (t : Bar.St) (wr : World) : Prop :=
  Split.Rep wr n L fb s ∧ Bar.Rep wr n K gb t ∧ Below w.heap.size w wr
/-- The barrier alone. -/
def Gate (n K : Nat) (gb : List Nat) (w : World) (t : Bar.St) (wr : World) : Prop := Bar.Rep wr n K gb t ∧ Below w.heap.size w wr
theorem belowN {B : Nat} {a w : World} (h : Below B a w) (n : Nat) : Below B a (w.drewN n) := ⟨h.os, h.tape, h.output, h.size, h.block⟩
theorem Both.drewN {n L K : Nat} {fb gb : List Nat} {w wr : World} {s : Split.St} {t : Bar.St} (h : Both n L fb K gb w s t wr) (m : Nat) : Both n L fb K gb w s t (wr.drewN m) :=
  ⟨h.1.keep (fun _ _ => rfl), h.2.1.keep (fun _ _ => rfl), belowN h.2.2 m⟩
theorem Both.step {n L K : Nat} {fb gb : List Nat} {w wr w' : World} {s s' : Split.St} {t : Bar.St} (h : Both n L fb K gb w s t wr) (hd : ∀ k ∈ gb, k ∉ fb) (hl : ∀ k ∈ fb, w.heap.size ≤ k) (hr : Split.Rep w' n L fb s') (ho : Only fb wr w') :
    Both n L fb K gb w s' t w' :=
  ⟨hr, h.2.1.keep (fun k hk => ho.block k (hd k hk)), h.2.2.trans (ho.below hl)⟩
theorem Gate.step {n K : Nat} {gb : List Nat} {w wr w' : World} {t t' : Bar.St} (h : Gate n K gb w t wr) (hl : ∀ k ∈ gb, w.heap.size ≤ k) (hr : Bar.Rep w' n K gb t') (ho : Only gb wr w') : Gate n K gb w t' w' :=
  ⟨hr, h.2.trans (ho.below hl)⟩
def ScriptRel (n L : Nat) (fb : List Nat) (K : Nat) (gb : List Nat) (w : World) (i : Value) (wr : World) : Prop :=
  ∃ (k : Nat) (s : Split.St), k ≤ 100 ∧ i = .int .i64 k ∧ Split.Reach n k s ∧ Both n L fb K gb w s (Bar.first n) wr
def GateRel (n K : Nat) (gb : List Nat) (w : World) (i : Value) (wr : World) : Prop :=
  ∃ (k c : Nat) (t : Bar.St), k ≤ 100 ∧ c ≤ k ∧ i = .int .i64 k ∧ Bar.Once n c t ∧ Gate n K gb w t wr
theorem split_turn {n j c : Nat} {s : Split.St} (hj : j < n) : Split.step n (Split.turns n s (c * n + j)) (j : Int) = Split.turns n s (c * n + (j + 1)) := by
  have e : (c * n + j) % n = j := by rw [Nat.add_comm, Nat.add_mul_mod_self_right, Nat.mod_eq_of_lt hj]
  show _ = Split.step n (Split.turns n s (c * n + j)) (((c * n + j) % n : Nat) : Int)
  rw [e]
theorem gate_turn {n j c : Nat} {s : Bar.St} (hj : j < n) : Bar.gstep n (Bar.gturns n s (c * n + j)) j = Bar.gturns n s (c * n + (j + 1)) := by
  have e : (c * n + j) % n = j := by rw [Nat.add_comm, Nat.add_mul_mod_self_right, Nat.mod_eq_of_lt hj]
  show _ = Bar.gstep n (Bar.gturns n s (c * n + j)) ((c * n + j) % n)
  rw [e]
theorem gate_reach {n k : Nat} {t : Bar.St} (h1 : 1 ≤ n) (h4 : n ≤ 4) (h : Bar.Once n k t) : Bar.Reach n k t := ⟨h1, h4, h.1⟩

set_option maxHeartbeats 4000000 in
set_option maxRecDepth 100000 in
theorem names_walk (n : Nat) (hn1 : 1 ≤ n) (hn4 : n ≤ 4) (a0 : Option Addr) (len0 cap0 : Nat) (z0 : List Int) (w : World) (w0 : IsRow .i64 w a0 len0 cap0 z0) :
    Calls Try.prog 4 #[.int .i64 n, .slice a0 len0 cap0] w fun e w' => e = .returned (.bool true) ∧ Below w.heap.size w w' := by
  have hle := w0.le
  have hat := Lib.hid (w0.at)
  clear w0
  unfold maxLen at hle
  have hnn : 0 ≤ (n : Int) := by omega
  go_enter Try.func4, Try.ntmps4
  go_wp2_with fail
  refine (Split.new_any n hn1 hn4 _).mono ?_
  rintro e w1 ⟨L, fb, rfl, hL, hbel0, hfb⟩
  go_wp2_with fail
  refine (Bar.new_any n hn1 hn4 _).mono ?_
  rintro e w2 ⟨K, gb, rfl, hK, hbel1, hgb⟩
  have hL' := hL.keep (w' := w2) (fun k hk => hbel1.block k (hfb k hk).2)
  have hB : Both n L fb K gb w (Split.first n) (Bar.first n) w2 := ⟨hL', hK, hbel0.trans (hbel1.mono hbel0.size)⟩
  have Hfb : Hid (∀ k ∈ fb, w.heap.size ≤ k) := fun k hk => (hfb k hk).1
  have Hgb : Hid (∀ k ∈ gb, w.heap.size ≤ k) := fun k hk => Nat.le_trans hbel0.size (hgb k hk).1
  have Hd : Hid (∀ k ∈ gb, k ∉ fb) := fun k hk hm => by have := (hgb k hk).1; have := (hfb k hm).2; omega
  clear hfb hgb hbel0 hbel1 hL hK hL'
  go_wp2_with fail
  go_loopw [9] (fun i wr => ScriptRel n L fb K gb w i wr) (fun i _ => 100 - (intOf i).toNat)
  case atStart => exact ⟨0, Split.first n, by omega, rfl, Split.Reach.first n hn1 hn4, hB⟩
  case round =>
    obtain ⟨k, s, hk, rfl, hf, hb⟩ := hrel
    clear hB
    by_cases hlt : k < len0 ∧ k < 100
    · obtain ⟨hk1, hk2⟩ := hlt
      obtain ⟨b, off, p, rfl, hb0, hc, -, -⟩ := hat.out k hk1
      have hc' : wr.cell? ⟨b, off + k, none⟩ = some (.int .i64 p) := by
        rw [hb.2.2.cell (p := ⟨b, off + k, none⟩) hb0]; exact hc
      clear hat hc hb0
      go_wp2_with fail
      refine (Split.step_any p hb.1 hf).mono ?_
      rintro e w' ⟨rfl, hb', ho⟩
      have hr := hf.step p
      have hb2 := hb.step Hd.out Hfb.out hb' ho
      clear ho hb hc' hb'
      go_wp2_with fail
      go_roundw
      case rel => (first | exact ⟨k + 1, _, by omega, by go_num, hr, hb2⟩ | ((repeat apply Exists.intro); exact ⟨⟨k + 1, _, by omega, by go_num, hr, hb2⟩, rfl⟩))
      case measure => simp [intOf]; omega
    · have Hall : Hid (∀ q, q < n → (Split.turns n s (16 * n)).ln q = 5) := fun q hq => hf.named hq
      have Hft := Lib.hid (fun t => hf.turns t)
      clear hf
      go_wp2_with fail
      all_goals
        clear hlt
        go_loopw [10] (fun r wr => ∃ c : Nat, c ≤ 16 ∧ r = .int .i64 c ∧ Both n L fb K gb w (Split.turns n s (c * n)) (Bar.first n) wr) (fun r _ => 16 - (intOf r).toNat)
        case atStart => exact ⟨0, by omega, rfl, by simpa [Split.turns] using hb⟩
        case round =>
          obtain ⟨c, hc, rfl, hb⟩ := hrel
          by_cases hcR : c < 16
          · have hcI : (c : Int) < 16 := by omega
            go_wp2_with fail
            go_loopw [11] (fun q wr => ∃ j : Nat, j ≤ n ∧ q = .int .i64 j ∧ Both n L fb K gb w (Split.turns n s (c * n + j)) (Bar.first n) wr) (fun q _ => n - (intOf q).toNat)
            case atStart => exact ⟨0, by omega, rfl, by simpa using hb⟩
            case round =>
              obtain ⟨j, hj, rfl, hb⟩ := hrel
              by_cases hj2 : j < n
              · have hr := Hft.out (c * n + j)
                go_wp2_with fail
                refine (Split.step_of (n := n) (fb := fb) (p := j) (r := .nilIface) (s' := Split.turns n s (c * n + (j + 1))) hb.1 hr (Split.told_nil hj2) (split_turn hj2)).mono ?_
                rintro e w' ⟨rfl, hb', ho⟩
                have hb2 := hb.step Hd.out Hfb.out hb' ho
                clear hb ho hb' hr
                go_wp2_with fail
                go_roundw
                case rel => (first | exact ⟨j + 1, by omega, by go_num, hb2⟩ | ((repeat apply Exists.intro); exact ⟨⟨j + 1, by omega, by go_num, hb2⟩, rfl⟩))
                case measure => simp [intOf]; omega
              · obtain rfl : j = n := by omega
                go_wp2_with fail
                go_roundw
                case rel => (first | exact ⟨c + 1, by omega, by go_num, by rw [Nat.succ_mul]; exact hb⟩ | ((repeat apply Exists.intro); exact ⟨⟨c + 1, by omega, by go_num, by rw [Nat.succ_mul]; exact hb⟩, rfl⟩))
                case measure => simp [intOf]; omega
          · obtain rfl : c = 16 := by omega
            have hft := Hft.out (16 * n)
            have hi := hft.2.2
            have Hlow : Hid (∀ q, q < n → Split.pl ((Split.turns n s (16 * n)).row q) ((Split.turns n s (16 * n)).col q) < n * (n + 1) / 2) := fun q hq => hft.lows hq (Hall.out q hq)
            have Hown : Hid (∀ p q, p < n → q < n → p ≠ q → Split.pl ((Split.turns n s (16 * n)).row p) ((Split.turns n s (16 * n)).col p) ≠ Split.pl ((Split.turns n s (16 * n)).row q) ((Split.turns n s (16 * n)).col q)) := fun p q hp hq hne => hft.own hp hq hne (Hall.out p hp) (Hall.out q hq)
            have Hfive : Hid (∀ q, q < n → (Split.turns n s (16 * n)).ln q = 5) := Hall.out
            generalize hu : Split.turns n s (16 * n) = u at *
            clear hu hft Hft Hall hcR
            obtain ⟨T, hT⟩ : ∃ T : Nat, T = n * (n + 1) / 2 := ⟨_, rfl⟩
            have hw2 : 0 ≤ (n : Int) * ((n : Int) + 1) ∧ (n : Int) * ((n : Int) + 1) ≤ 20 ∧ (n : Int) * ((n : Int) + 1) / 2 = ((n * (n + 1) / 2 : Nat) : Int) := by
              clear hT hle hb Hlow Hown Hfb Hgb Hd hat hi
              obtain rfl | rfl | rfl | rfl : n = 1 ∨ n = 2 ∨ n = 3 ∨ n = 4 := by omega
              all_goals decide
            have hw0 : IntKind.i64.wrap ((n : Int) + 1) = (n : Int) + 1 := IntWalk.i64_in _ (by omega)
            have hw3 := hw2.1
            have hw4 := hw2.2.1
            have hw5 := hw2.2.2
            have hw6 : IntKind.i64.wrap ((n : Int) * ((n : Int) + 1)) = (n : Int) * ((n : Int) + 1) := IntWalk.i64_in _ (by omega)
            rw [← hT] at hw5 Hlow
            clear hw2 hT
            go_wp2_with fail
            go_loopw [12] (fun q wr => ∃ i : Nat, i ≤ n ∧ q = .int .i64 i ∧ Both n L fb K gb w u (Bar.first n) wr) (fun q _ => n - (intOf q).toNat)
            case atStart => exact ⟨0, by omega, rfl, hb⟩
            case round =>
              obtain ⟨q, hq, rfl, hb⟩ := hrel
              by_cases hq2 : q < n
              · go_wp2_with fail
                refine (Split.name_of (k := (Split.pl (u.row q) (u.col q) : Int)) hb.1 hn4 hi (by rw [Split.name_nat u hq2, if_pos (Hfive.out q hq2)])).mono ?_
                rintro e w3 ⟨rfl, x, rfl⟩
                have e2 := Hlow.out q hq2
                have hown := Lib.hid (fun r (hr2 : r < n) (hne : r ≠ q) => Hown.out q r hq2 hr2 (fun e => hne e.symm))
                have hin3 := hb.drewN x
                generalize Split.pl (u.row q) (u.col q) = a at e2 hown ⊢
                have t2 : decide ((T : Int) ≤ (a : Int)) = false := by simp; omega
                have t2' : decide (T ≤ a) = false := by simp; omega
                have t3 : decide ((a : Int) < 0) = false := by simp
                clear hb e2
                generalize wr.drewN x = wy at hin3 ⊢
                go_wp2_with fail
                clear hw0 hw3 hw4 hw5 hw6
                go_loopw [14] (fun rv wr2 => ∃ r : Nat, r ≤ q ∧ rv = .int .i64 r ∧ Both n L fb K gb w u (Bar.first n) wr2) (fun rv _ => q - (intOf rv).toNat)
                case atStart => exact ⟨0, by omega, rfl, hin3⟩
                case round =>
                  obtain ⟨r, hr3, rfl, hin4⟩ := hrel
                  clear hin3
                  by_cases hr4 : r < q
                  · have hrj : r < n := by omega
                    have Hne := Lib.hid (hown.out r hrj (by omega))
                    go_wp2_with fail
                    refine (Split.name_of (k := (Split.pl (u.row r) (u.col r) : Int)) hin4.1 hn4 hi (by rw [Split.name_nat u hrj, if_pos (Hfive.out r hrj)])).mono ?_
                    rintro e w3 ⟨rfl, y, rfl⟩
                    have t5 : ((Split.pl (u.row r) (u.col r) : Int) == (a : Int)) = false := by have := Hne.out; rw [beq_eq_false_iff_ne]; omega
                    have t5' : (Split.pl (u.row r) (u.col r) == a) = false := by have := Hne.out; rw [beq_eq_false_iff_ne]; omega
                    have hin5 := hin4.drewN y
                    clear hin4
                    generalize Split.pl (u.row r) (u.col r) = c at t5 t5' Hne ⊢
                    go_wp2_with fail
                    go_roundw
                    case rel => (first | exact ⟨r + 1, by omega, by go_num, hin5⟩ | ((repeat apply Exists.intro); exact ⟨⟨r + 1, by omega, by go_num, hin5⟩, rfl⟩))
                    case measure => simp [intOf]; omega
                  · go_wp2_with fail
                    go_roundw
                    case rel => (first | exact ⟨q + 1, by omega, by go_num, hin4⟩ | ((repeat apply Exists.intro); exact ⟨⟨q + 1, by omega, by go_num, hin4⟩, rfl⟩))
                    case measure => simp [intOf]; omega
              · have hg : Gate n K gb w (Bar.first n) wr := ⟨hb.2.1, hb.2.2⟩
                clear hb hi Hlow Hown Hfive hw0 hw3 hw4 hw5 hw6
                go_wp2_with fail
                go_loopw [15] (fun i wr => GateRel n K gb w i wr) (fun i _ => 100 - (intOf i).toNat)
                case atStart => exact ⟨0, 0, Bar.first n, by omega, by omega, rfl, Bar.Once.first hn1 hn4, hg⟩
                case round =>
                  obtain ⟨k, c, t, hk, hc, rfl, hf, hg⟩ := hrel
                  by_cases hlt2 : k < len0 ∧ k < 100
                  · obtain ⟨hk1, hk2⟩ := hlt2
                    obtain ⟨b, off, p, rfl, hb0, hce, -, -⟩ := hat.out k hk1
                    have hc' : wr.cell? ⟨b, off + k, none⟩ = some (.int .i64 p) := by
                      rw [hg.2.cell (p := ⟨b, off + k, none⟩) hb0]; exact hce
                    clear hat hce hb0
                    have hnw : IntKind.i64.wrap ((n : Int) - 1) = (n : Int) - 1 := IntWalk.i64_in _ (by omega)
                    go_wp2_with fail
                    by_cases hp : 0 ≤ p ∧ p < n
                    · obtain ⟨m, rfl⟩ := Int.eq_ofNat_of_zero_le hp.1
                      have hm : m < n := by omega
                      refine (inT_yes (by omega) (by omega)).mono ?_
                      rintro e w'' ⟨rfl, rfl⟩
                      have hmo : Bar.often n t (m : Int) = t.phase m := by unfold Bar.often; rw [if_pos hp, Int.toNat_natCast]
                      have hph := hf.phase hm
                      clear hp hnw hc'
                      go_wp2_with fail
                      refine (Bar.phase_of hg.1 hn4 hmo).mono ?_
                      rintro e w'' ⟨rfl, rfl⟩
                      by_cases h0 : t.phase m = 0
                      · have hst : Bar.step n t (m : Int) = Bar.gstep n t m := by rw [Bar.step_nat t hm]; unfold Bar.gstep; rw [if_pos h0]
                        have hr := hf.gstep hm
                        have hrc := gate_reach hn1 hn4 hf
                        rw [h0]
                        clear hph hmo
                        go_wp2_with fail
                        refine (Bar.step_of (p := m) (r := .nilIface) (s' := Bar.gstep n t m) hg.1 hrc (by omega) (Bar.told_nil hm) hst).mono ?_
                        rintro e w' ⟨rfl, hb', ho⟩
                        have hg2 := hg.step Hgb.out hb' ho
                        clear hg hb' ho
                        go_wp2_with fail
                        go_roundw
                        case rel => (first | exact ⟨k + 1, c + 1, _, by omega, by omega, by go_num, hr, hg2⟩ | ((repeat apply Exists.intro); exact ⟨⟨k + 1, c + 1, _, by omega, by omega, by go_num, hr, hg2⟩, rfl⟩))
                        case measure => simp [intOf]; omega
                      · have h1 : t.phase m = 1 := by omega
                        rw [h1]
                        clear hph hmo h0
                        go_wp2_with fail
                        go_roundw
                        case rel => (first | exact ⟨k + 1, c, _, by omega, by omega, by go_num, hf, hg⟩ | ((repeat apply Exists.intro); exact ⟨⟨k + 1, c, _, by omega, by omega, by go_num, hf, hg⟩, rfl⟩))
                        case measure => simp [intOf]; omega
                    · refine (inT_no (by omega)).mono ?_
                      rintro e w'' ⟨rfl, rfl⟩
                      clear hp hnw hc'
                      go_wp2_with fail
                      go_roundw
                      case rel => (first | exact ⟨k + 1, c, _, by omega, by omega, by go_num, hf, hg⟩ | ((repeat apply Exists.intro); exact ⟨⟨k + 1, c, _, by omega, by omega, by go_num, hf, hg⟩, rfl⟩))
                      case measure => simp [intOf]; omega
                  · have Hthr : Hid (∀ q, q < n → (Bar.gturns n t (8 * n)).phase q = 1) := fun q hq => hf.through hn1 hn4 hq
                    have Hft := Lib.hid (fun x => hf.gturns hn1 x)
                    clear hf hat
                    go_wp2_with fail
                    all_goals
                      clear hlt2
                      go_loopw [17] (fun r wr => ∃ d : Nat, d ≤ 8 ∧ r = .int .i64 d ∧ Gate n K gb w (Bar.gturns n t (d * n)) wr) (fun r _ => 8 - (intOf r).toNat)
                      case atStart => exact ⟨0, by omega, rfl, by simpa [Bar.gturns] using hg⟩
                      case round =>
                        obtain ⟨d, hd8, rfl, hg⟩ := hrel
                        by_cases hdR : d < 8
                        · have hdI : (d : Int) < 8 := by omega
                          go_wp2_with fail
                          go_loopw [18] (fun q wr => ∃ j : Nat, j ≤ n ∧ q = .int .i64 j ∧ Gate n K gb w (Bar.gturns n t (d * n + j)) wr) (fun q _ => n - (intOf q).toNat)
                          case atStart => exact ⟨0, by omega, rfl, by simpa using hg⟩
                          case round =>
                            obtain ⟨j, hj, rfl, hg⟩ := hrel
                            by_cases hj2 : j < n
                            · have hf := Hft.out (d * n + j)
                              have hdn : d * n ≤ 8 * 4 := Nat.mul_le_mul (by omega) (by omega)
                              have hph := hf.phase hj2
                              have hgt := gate_turn (n := n) (c := d) (s := t) hj2
                              have hmo : Bar.often n (Bar.gturns n t (d * n + j)) (j : Int) = (Bar.gturns n t (d * n + j)).phase j := by unfold Bar.often; rw [if_pos (by omega), Int.toNat_natCast]
                              go_wp2_with fail
                              refine (Bar.phase_of hg.1 hn4 hmo).mono ?_
                              rintro e w'' ⟨rfl, rfl⟩
                              by_cases h0 : (Bar.gturns n t (d * n + j)).phase j = 0
                              · have hst : Bar.step n (Bar.gturns n t (d * n + j)) (j : Int) = Bar.gturns n t (d * n + (j + 1)) := by rw [← hgt, Bar.step_nat _ hj2]; unfold Bar.gstep; rw [if_pos h0]
                                have hrc := gate_reach hn1 hn4 hf
                                have hcs : c + (d * n + j) ≤ 100000 := by omega
                                rw [h0]
                                clear hph hmo hgt hf hdn
                                go_wp2_with fail
                                refine (Bar.step_of (p := j) (r := .nilIface) hg.1 hrc hcs (Bar.told_nil hj2) hst).mono ?_
                                rintro e w' ⟨rfl, hb', ho⟩
                                have hg2 := hg.step Hgb.out hb' ho
                                clear hg hb' ho
                                go_wp2_with fail
                                go_roundw
                                case rel => (first | exact ⟨j + 1, by omega, by go_num, hg2⟩ | ((repeat apply Exists.intro); exact ⟨⟨j + 1, by omega, by go_num, hg2⟩, rfl⟩))
                                case measure => simp [intOf]; omega
                              · have h1 : (Bar.gturns n t (d * n + j)).phase j = 1 := by omega
                                have hg2 : Gate n K gb w (Bar.gturns n t (d * n + (j + 1))) wr := by rw [← hgt]; unfold Bar.gstep; rw [if_neg h0]; exact hg
                                rw [h1]
                                clear hph hmo h0 hgt hf hdn hg
                                go_wp2_with fail
                                go_roundw
                                case rel => (first | exact ⟨j + 1, by omega, by go_num, hg2⟩ | ((repeat apply Exists.intro); exact ⟨⟨j + 1, by omega, by go_num, hg2⟩, rfl⟩))
                                case measure => simp [intOf]; omega
                            · obtain rfl : j = n := by omega
                              go_wp2_with fail
                              go_roundw
                              case rel => (first | exact ⟨d + 1, by omega, by go_num, by rw [Nat.succ_mul]; exact hg⟩ | ((repeat apply Exists.intro); exact ⟨⟨d + 1, by omega, by go_num, by rw [Nat.succ_mul]; exact hg⟩, rfl⟩))
                              case measure => simp [intOf]; omega
                        · obtain rfl : d = 8 := by omega
                          generalize Bar.gturns n t (8 * n) = t' at hg Hthr
                          clear Hft
                          go_wp2_with fail
                          go_loopw [19] (fun q wr => ∃ j : Nat, j ≤ n ∧ q = .int .i64 j ∧ Gate n K gb w t' wr) (fun q _ => n - (intOf q).toNat)
                          case atStart => exact ⟨0, by omega, rfl, hg⟩
                          case round =>
                            obtain ⟨j, hj, rfl, hg⟩ := hrel
                            by_cases hj2 : j < n
                            · have hmo : Bar.often n t' (j : Int) = 1 := by unfold Bar.often; rw [if_pos (by omega), Int.toNat_natCast, Hthr.out j hj2]
                              go_wp2_with fail
                              refine (Bar.phase_of hg.1 hn4 hmo).mono ?_
                              rintro e w'' ⟨rfl, rfl⟩
                              clear hmo
                              go_wp2_with fail
                              go_roundw
                              case rel => (first | exact ⟨j + 1, by omega, by go_num, hg⟩ | ((repeat apply Exists.intro); exact ⟨⟨j + 1, by omega, by go_num, hg⟩, rfl⟩))
                              case measure => simp [intOf]; omega
                            · have hbel := hg.2
                              go_wp2_with fail
                              go_ret
                              exact ⟨rfl, hbel⟩

set_option maxHeartbeats 1000000 in
set_option maxRecDepth 100000 in
theorem names_bad (n : Int) (h : n < 1 ∨ 4 < n) (v : Value) (w : World) :
    Calls Try.prog 4 #[.int .i64 n, v] w fun e w' => e = .returned (.bool true) ∧ Below w.heap.size w w' := by
  by_cases h1 : n < 1
  · clear h
    have H := Lib.hid h1
    go_enter Try.func4, Try.ntmps4
    go_wp2_with fail
    refine (Split.new_no _ (.inl H.out) _).mono ?_
    rintro e w1 ⟨rfl, rfl⟩
    go_wp2_with fail
    refine (Bar.new_no _ (.inl H.out) _).mono ?_
    rintro e w2 ⟨rfl, rfl⟩
    go_wp2_with fail
    go_ret
    exact ⟨rfl, Below.refl _ _⟩
  · have h2 : 4 < n := by omega
    have h3 : 1 ≤ n := by omega
    have H := Lib.hid h2
    clear h h1
    go_enter Try.func4, Try.ntmps4
    go_wp2_with fail
    refine (Split.new_no _ (.inr H.out) _).mono ?_
    rintro e w1 ⟨rfl, rfl⟩
    go_wp2_with fail
    refine (Bar.new_no _ (.inr H.out) _).mono ?_
    rintro e w2 ⟨rfl, rfl⟩
    go_wp2_with fail
    go_ret
    exact ⟨rfl, Below.refl _ _⟩

theorem names_any (n : Int) (a0 : Option Addr) (len0 cap0 : Nat) (z0 : List Int) (w : World) (w0 : IsRow .i64 w a0 len0 cap0 z0) :
    Calls Try.prog 4 #[.int .i64 n, .slice a0 len0 cap0] w fun e w' => e = .returned (.bool true) ∧ Below w.heap.size w w' := by
  by_cases h : 1 ≤ n ∧ n ≤ 4
  · obtain ⟨m, rfl⟩ := Int.eq_ofNat_of_zero_le (show 0 ≤ n by omega)
    exact names_walk m (by omega) (by omega) a0 len0 cap0 z0 w w0
  · exact names_bad n (by omega) _ w
end Go.Proofs.Ytpnjmaoacnkjkaa.TopN
