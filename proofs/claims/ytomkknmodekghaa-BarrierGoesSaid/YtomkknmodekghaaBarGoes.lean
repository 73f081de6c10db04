import Derived.Test.YtomkknmodekghaaBarAll
import Derived.Test.YtomkknmodekghaaMid
namespace Go.Proofs.Ytomkknmodekghaa.Bar
open Go.RowKit
set_option linter.unusedVariables false

def GoRel (n L : Nat) (fb : List Nat) (w : World) (i : Value) (wr : World) : Prop :=
  ∃ (k : Nat) (s : St), k ≤ 200 ∧ i = .int .i64 k ∧ Reach n k s ∧ Rep wr n L fb s ∧ Below w.heap.size w wr ∧ (∀ k ∈ fb, k < wr.heap.size)
def TakeRel (n L : Nat) (fb : List Nat) (w : World) (s : St) (B : Nat) (v q : Value) (wr : World) : Prop :=
  ∃ j : Nat, j ≤ n ∧ q = .int .i64 j ∧ Rep wr n L fb s ∧ Below w.heap.size w wr ∧ Mid wr B v ((List.range j).map s.phase) ∧ B ≤ wr.heap.size
def RoundRel (n L : Nat) (fb : List Nat) (w : World) (s : St) (g o : Nat) (r : Value) (wr : World) : Prop :=
  ∃ c : Nat, c ≤ 8 ∧ r = .int .i64 c ∧ Rep wr n L fb (turns n s (c * n)) ∧ Below w.heap.size w wr ∧ Row wr g n (fun j => o + j) s.phase
def HandRel (n L : Nat) (fb : List Nat) (w : World) (s : St) (g o t : Nat) (q : Value) (wr : World) : Prop :=
  ∃ j : Nat, j ≤ n ∧ q = .int .i64 j ∧ Rep wr n L fb (turns n s (t + j)) ∧ Below w.heap.size w wr ∧ Row wr g n (fun j => o + j) s.phase
def EndRel (n L : Nat) (fb : List Nat) (w : World) (s : St) (g o : Nat) (q : Value) (wr : World) : Prop :=
  ∃ j : Nat, j ≤ n ∧ q = .int .i64 j ∧ Rep wr n L fb (turns n s (8 * n)) ∧ Below w.heap.size w wr ∧ Row wr g n (fun j => o + j) s.phase

theorem turns_succ {n j c : Nat} {s : St} (hj : j < n) : step n (turns n s (c * n + j)) (j : Int) = turns n s (c * n + j + 1) := by
  have e : (c * n + j) % n = j := by rw [Nat.add_comm, Nat.add_mul_mod_self_right, Nat.mod_eq_of_lt hj]
  show _ = step n (turns n s (c * n + j)) (((c * n + j) % n : Nat) : Int)
  rw [e]

set_option maxHeartbeats 4000000 in
set_option maxRecDepth 100000 in
theorem goes_walk (n : Nat) (hn1 : 1 ≤ n) (hn4 : n ≤ 4) (a0 : Option Addr) (len0 cap0 : Nat) (z0 : List Int) (w : World) (w0 : IsRow .i64 w a0 len0 cap0 z0) :
    Calls Try.prog 4 #[.int .i64 n, .slice a0 len0 cap0] w fun e w' => e = .returned (.bool true) ∧ Below w.heap.size w w' := by
  have hle := w0.le
  have hat := Lib.hid (w0.at)
  clear w0
  unfold maxLen at hle
  have hnn : 0 ≤ (n : Int) := by omega
  go_enter Try.func4, Try.ntmps4
  go_wp2_with fail
  refine (fact_any _).mono ?_
  rintro e w1 ⟨rfl, h1⟩
  go_wp2_with fail
  refine (new_any n hn1 hn4 _).mono ?_
  rintro e w2 ⟨L, fb, rfl, hL, hbel0, hfb⟩
  have hbel1 := h1.trans (hbel0.mono h1.size)
  have Hfb : Hid (∀ k ∈ fb, w.heap.size ≤ k) := fun k hk => Nat.le_trans h1.size (hfb k hk).1
  have Hlt : Hid (∀ k ∈ fb, k < w2.heap.size) := fun k hk => (hfb k hk).2
  clear hfb hbel0 h1
  go_wp2_with fail
  go_loopw [8] (fun i wr => GoRel n L fb w i wr) (fun i _ => 200 - (intOf i).toNat)
  case atStart => exact ⟨0, first n, by omega, rfl, Reach.first n hn1 hn4, hL, hbel1, Hlt.out⟩
  case round =>
    obtain ⟨k, s, hk, rfl, hf, hb, hbel, hsz⟩ := hrel
    have Hsz := Lib.hid hsz
    clear hL hbel1 Hlt hsz
    by_cases hlt : k < len0 ∧ k < 200
    · obtain ⟨hk1, hk2⟩ := hlt
      obtain ⟨b, off, p, rfl, hb0, hc, -, -⟩ := hat.out k hk1
      have hc' : wr.cell? ⟨b, off + k, none⟩ = some (.int .i64 p) := by
        rw [hbel.cell (p := ⟨b, off + k, none⟩) hb0]; exact hc
      clear hat hc
      go_wp2_with fail
      refine (step_any p hb hf (by omega)).mono ?_
      rintro e w' ⟨rfl, hb', ho⟩
      have hr := hf.step p
      have hbel' := hbel.trans (ho.below Hfb.out)
      have Hsz' : Hid (∀ k ∈ fb, k < w'.heap.size) := by rw [ho.size]; exact Hsz.out
      clear ho hb hf hc' hbel
      go_wp2_with fail
      go_roundw
      case rel => exact ⟨k + 1, _, by omega, by go_num, hr, hb', hbel', Hsz'.out⟩
      case measure => simp [intOf]; omega
    · clear hat
      have hsize := hbel.size
      have hgo := Lib.hid (fun q hq => hf.goes (n := n) q hq)
      have HBw : Hid (w.heap.size ≤ wr.heap.size) := hsize
      clear hsize
      obtain ⟨B, hBe⟩ : ∃ B, B = wr.heap.size := ⟨_, rfl⟩
      rw [← hBe] at Hsz HBw
      have HB : Hid (B ≤ wr.heap.size) := Nat.le_of_eq hBe
      clear hBe
      go_wp2_with fail
      all_goals
        clear hle hlt
        go_loopw [9, 10] (fun v q wr => TakeRel n L fb w s B v q wr) (fun _ q _ => n - (intOf q).toNat)
        case atStart => exact ⟨0, by omega, rfl, hb, hbel, .inl ⟨rfl, rfl⟩, HB.out⟩
        case round =>
          obtain ⟨j, hj, rfl, hbj, hbelj, hmid, hszj⟩ := hrel
          clear hb hbel HB
          by_cases hj2 : j < n
          · have hjI : (j : Int) < n := by omega
            have Hszj := Lib.hid hszj
            clear hszj
            go_wp2_with fail
            refine (phase_of (hn := hn4) (p := j) (k := s.phase j) hbj (often_nat s hj2)).mono ?_
            rintro e w' ⟨rfl, rfl⟩
            go_wp2_with (at_builtin; refine wpList_append_mid rfl _ _ rfl B _ ((List.range j).map s.phase) rfl (hmid.same (by simp) (fun g _ hg => Below.heap_alloc _ _ _ hg)) ⟨wr.heap.size, 0, none⟩ (s.phase j) 1 rfl ?c1 ?c2 ?c3 ?_)
            case c1 => simp [(Blk.new wr #[.int .i64 (s.phase j)] 3).cell 0]
            case c2 => simp; omega
            case c3 => have := Hszj.out; simp; omega
            intro v' w3 hmid3 hbel3
            have hbelA : Below B wr w3 := ((Below.refl _ _).alloc Hszj.out _).trans hbel3
            have hb3 := hbj.keep (w' := w3) (fun x hx => hbelA.block x (Hsz.out x hx))
            have hbel4 := hbelj.trans (hbelA.mono HBw.out)
            have hsz3 : B ≤ w3.heap.size := Nat.le_trans Hszj.out hbelA.size
            clear hbj hbelj hmid hbel3 hbelA
            go_wp2_with fail
            go_roundw
            case rel => exact ⟨j + 1, by omega, by go_num, hb3, hbel4, by rw [List.range_succ, List.map_append]; exact hmid3, hsz3⟩
            case measure => simp [intOf]; omega
          · obtain rfl : n = j := by omega
            rcases hmid with ⟨-, hx⟩ | ⟨g, o, cap, rfl, h2, h3, h4, h5, h6⟩
            · have := congrArg List.length hx; simp at this; omega
            have hlen : ((List.range n).map s.phase).length = n := by simp
            rw [hlen] at h4 ⊢
            have hrow : Row wr g n (fun j => o + j) s.phase := fun i hi => ⟨h6 i _ (by simp [hi]), (h5 i (by omega)).2⟩
            have HgB : Hid (g ∉ fb) := fun hm => by have := Hsz.out g hm; omega
            clear h2 h3 h5 h6 hlen hszj hj2 hj
            go_wp2_with fail
            go_loopw [11] (fun r wr => RoundRel n L fb w s g o r wr) (fun r _ => 8 - (intOf r).toNat)
            case atStart => exact ⟨0, by omega, rfl, by simpa [turns] using hbj, hbelj, hrow⟩
            case round =>
              obtain ⟨c, hc, rfl, hbc, hbelc, hrowc⟩ := hrel
              clear hbj hbelj hrow
              by_cases hcR : c < 8
              · have hcI : (c : Int) < 8 := by omega
                go_wp2_with fail
                go_loopw [12] (fun q wr => HandRel n L fb w s g o (c * n) q wr) (fun q _ => n - (intOf q).toNat)
                case atStart => exact ⟨0, by omega, rfl, by simpa using hbc, hbelc, hrowc⟩
                case round =>
                  obtain ⟨i, hi, rfl, hbi, hbeli, hrowi⟩ := hrel
                  by_cases hi2 : i < n
                  · have hr := hf.turns (c * n + i)
                    have hcn : c * n ≤ 8 * 4 := Nat.mul_le_mul (by omega) (by omega)
                    have hsmall : k + (c * n + i) ≤ 100000 := by omega
                    clear hcn
                    go_wp2_with fail
                    refine (step_of (n := n) (fb := fb) (p := i) (r := .nilIface) (s' := turns n s (c * n + i + 1)) hbi hr hsmall (told_nil hi2) (turns_succ hi2)).mono ?_
                    rintro e w' ⟨rfl, hb', ho⟩
                    go_wp2_with fail
                    go_roundw
                    case rel => exact ⟨i + 1, by omega, by go_num, hb', hbeli.trans (ho.below Hfb.out), hrowi.keep (ho.block g HgB.out)⟩
                    case measure => simp [intOf]; omega
                  · obtain rfl : n = i := by omega
                    have ee : c * n + n = (c + 1) * n := (Nat.succ_mul _ _).symm
                    rw [ee] at hbi
                    go_wp2_with fail
                    go_roundw
                    case rel => exact ⟨c + 1, by omega, by go_num, hbi, hbeli, hrowi⟩
                    case measure => simp [intOf]; omega
              · obtain rfl : c = 8 := by omega
                rw [show ((8 : Nat) : Int) = 8 from rfl]
                go_wp2_with fail
                go_loopw [13] (fun q wr => EndRel n L fb w s g o q wr) (fun q _ => n - (intOf q).toNat)
                case atStart => exact ⟨0, by omega, rfl, hbc, hbelc, hrowc⟩
                case round =>
                  obtain ⟨i, hi, rfl, hbi, hbeli, hrowi⟩ := hrel
                  by_cases hi2 : i < n
                  · have hci := (hrowi i hi2).1
                    have hg := hgo.out i hi2
                    have ei := often_nat (turns n s (8 * n)) hi2
                    have t1 : decide (often n (turns n s (8 * n)) (i : Int) ≤ s.phase i) = false := by
                      rw [ei]; simp; omega
                    clear hg ei
                    go_wp2_with fail
                    go_quiet ((go_at_call 10; exact phase_q hbi hn4 _))
                    go_wp2_with fail
                    go_roundw
                    case rel => exact ⟨i + 1, by omega, by go_num, hbi.keep (fun _ _ => rfl), belowN hbeli _, rowN hrowi _⟩
                    case measure => simp [intOf]; omega
                  · go_wp2_with fail
                    go_ret
                    exact ⟨rfl, hbeli⟩

set_option maxHeartbeats 1000000 in
set_option maxRecDepth 100000 in
theorem goes_bad (n : Int) (h : n < 1 ∨ 4 < n) (v : Value) (w : World) :
    Calls Try.prog 4 #[.int .i64 n, v] w fun e w' => e = .returned (.bool true) ∧ Below w.heap.size w w' := by
  by_cases h1 : n < 1
  · clear h
    have H := Lib.hid h1
    go_enter Try.func4, Try.ntmps4
    go_wp2_with fail
    refine (fact_any _).mono ?_
    rintro e w1 ⟨rfl, hb⟩
    go_wp2_with fail
    refine (new_no _ (.inl H.out) _).mono ?_
    rintro e w2 ⟨rfl, rfl⟩
    go_wp2_with fail
    go_ret
    exact ⟨rfl, hb⟩
  · have h2 : 4 < n := by omega
    have h3 : 1 ≤ n := by omega
    have H := Lib.hid h2
    clear h h1
    go_enter Try.func4, Try.ntmps4
    go_wp2_with fail
    refine (fact_any _).mono ?_
    rintro e w1 ⟨rfl, hb⟩
    go_wp2_with fail
    refine (new_no _ (.inr H.out) _).mono ?_
    rintro e w2 ⟨rfl, rfl⟩
    go_wp2_with fail
    go_ret
    exact ⟨rfl, hb⟩

theorem goes_any (n : Int) (a0 : Option Addr) (len0 cap0 : Nat) (z0 : List Int) (w : World) (w0 : IsRow .i64 w a0 len0 cap0 z0) :
    Calls Try.prog 4 #[.int .i64 n, .slice a0 len0 cap0] w fun e w' => e = .returned (.bool true) ∧ Below w.heap.size w w' := by
  by_cases h : 1 ≤ n ∧ n ≤ 4
  · obtain ⟨m, rfl⟩ := Int.eq_ofNat_of_zero_le (show 0 ≤ n by omega)
    exact goes_walk m (by omega) (by omega) a0 len0 cap0 z0 w w0
  · exact goes_bad n (by omega) _ w
end Go.Proofs.Ytomkknmodekghaa.Bar
