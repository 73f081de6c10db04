import Derived.Test.YtkjodfpfmpdbmaaFastFact
namespace Go.Proofs.Ytkjodfpfmpdbmaa.Fast
open Go.RowKit
set_option linter.unusedVariables false

def SomeRel (n L : Nat) (fb : List Nat) (w : World) (i : Value) (wr : World) : Prop :=
  ∃ (k : Nat) (s : St), k ≤ 200 ∧ i = .int .i64 k ∧ Reach n k s ∧ Rep wr n L fb s ∧ Below w.heap.size w wr ∧ (∀ k ∈ fb, k < wr.heap.size)
def SomeRound (n L : Nat) (fb : List Nat) (w : World) (s : St) (m r : Value) (wr : World) : Prop :=
  ∃ c : Nat, c ≤ 200 ∧ r = .int .i64 c ∧ m = .int .i64 (ins n s (c * n)) ∧ Rep wr n L fb (turns n s (c * n)) ∧ Below w.heap.size w wr
def SomeHand (n L : Nat) (fb : List Nat) (w : World) (s : St) (t : Nat) (m q : Value) (wr : World) : Prop :=
  ∃ j : Nat, j ≤ n ∧ q = .int .i64 j ∧ m = .int .i64 (ins n s (t + j)) ∧ Rep wr n L fb (turns n s (t + j)) ∧ Below w.heap.size w wr
theorem turns_succ {n j c : Nat} {s : St} (hj : j < n) : step n (turns n s (c * n + j)) (j : Int) = turns n s (c * n + j + 1) := by
  have e : (c * n + j) % n = j := by rw [Nat.add_comm, Nat.add_mul_mod_self_right, Nat.mod_eq_of_lt hj]
  show _ = step n (turns n s (c * n + j)) (((c * n + j) % n : Nat) : Int)
  rw [e]
theorem ins_yes {n j c : Nat} {s : St} (hj : j < n) (h : isIn n (turns n s (c * n + j + 1)) j = true) : ins n s (c * n + j + 1) = ins n s (c * n + j) + 1 := by
  have e : (c * n + j) % n = j := by rw [Nat.add_comm, Nat.add_mul_mod_self_right, Nat.mod_eq_of_lt hj]
  simp [ins, e, h]
theorem ins_no {n j c : Nat} {s : St} (hj : j < n) (h : isIn n (turns n s (c * n + j + 1)) j = false) : ins n s (c * n + j + 1) = ins n s (c * n + j) := by
  have e : (c * n + j) % n = j := by rw [Nat.add_comm, Nat.add_mul_mod_self_right, Nat.mod_eq_of_lt hj]
  simp [ins, e, h]

set_option maxHeartbeats 4000000 in
set_option maxRecDepth 100000 in
theorem some_walk (n : Nat) (hn1 : 1 ≤ n) (hn4 : n ≤ 4) (a0 : Option Addr) (len0 cap0 : Nat) (z0 : List Int) (w : World) (w0 : IsRow .i64 w a0 len0 cap0 z0) :
    Calls Try.prog 4 #[.int .i64 n, .slice a0 len0 cap0] w fun e w' => e = .returned (.bool true) ∧ Below w.heap.size w w' := by
  have hle := w0.le
  have hat := Lib.hid (w0.at)
  clear w0
  unfold maxLen at hle
  have hnn : 0 ≤ (n : Int) := by omega
  have hnn4 : (n : Int) ≤ 4 := by omega
  go_enter Try.func4, Try.ntmps4
  go_wp2_with fail
  refine (fact_any _).mono ?_
  rintro e w1 ⟨rfl, h1⟩
  go_wp2_with fail
  refine (new_any n hn1 hn4 _).mono ?_
  rintro e w2 ⟨L, fb, rfl, hL, hbel0, hfb⟩
  have hbel1 := h1.trans (hbel0.mono h1.size)
  have Hfb : Hid (∀ k ∈ fb, w.heap.size ≤ k) := fun k hk => Nat.le_trans h1.size (hfb k hk).1
  have Hlt : Hid (∀ k ∈ fb, k < w2.heap.size) := fun k hk => (hfb k hk).2
  clear hfb hbel0 h1
  go_wp2_with fail
  go_loopw [8] (fun i wr => SomeRel n L fb w i wr) (fun i _ => 200 - (intOf i).toNat)
  case atStart => exact ⟨0, first n, by omega, rfl, Reach.first n hn1 hn4, hL, hbel1, Hlt.out⟩
  case round =>
    obtain ⟨k, s, hk, rfl, hf, hb, hbel, hsz⟩ := hrel
    have Hsz := Lib.hid hsz
    clear hL hbel1 Hlt hsz
    by_cases hlt : k < len0 ∧ k < 200
    · obtain ⟨hk1, hk2⟩ := hlt
      obtain ⟨b, off, p, rfl, hb0, hc, -, -⟩ := hat.out k hk1
      have hc' : wr.cell? ⟨b, off + k, none⟩ = some (.int .i64 p) := by
        rw [hbel.cell (p := ⟨b, off + k, none⟩) hb0]; exact hc
      clear hat hc hb0
      go_wp2_with fail
      refine (step_any p hb hf (by omega)).mono ?_
      rintro e w' ⟨rfl, hb', ho⟩
      have hr := hf.step p
      have hbel' := hbel.trans (ho.bel Hfb.out hbel.size)
      have Hsz' : Hid (∀ k ∈ fb, k < w'.heap.size) := fun k hk => Nat.lt_of_lt_of_le (Hsz.out k hk) ho.size_le
      generalize Fast.step n s p = s' at hb' hr
      clear ho hb hf hc' hbel Hsz
      go_wp2_with fail
      go_roundw
      case rel => exact ⟨k + 1, s', by omega, by go_num, hr, hb', hbel', Hsz'.out⟩
      case measure => simp [intOf]; omega
    · clear hat
      have Hin := Lib.hid hf.some
      go_wp2_with fail
      all_goals
        clear hle hlt Hsz
        go_loopw [9, 10] (fun m r wr => SomeRound n L fb w s m r wr) (fun _ r _ => 200 - (intOf r).toNat)
        case atStart => exact ⟨0, by omega, rfl, by simp [ins], by simpa [turns] using hb, hbel⟩
        case round =>
          rename World => wo
          obtain ⟨c, hc, rfl, rfl, hb, hbel⟩ := hrel
          by_cases hcR : c < 200
          · have hcI : (c : Int) < 200 := by omega
            go_wp2_with fail
            go_loopw [9, 11] (fun m q wr => SomeHand n L fb w s (c * n) m q wr) (fun _ q _ => n - (intOf q).toNat)
            case atStart => exact ⟨0, by omega, rfl, rfl, by simpa using hb, hbel⟩
            case round =>
              obtain ⟨j, hj, rfl, rfl, hb, hbel⟩ := hrel
              by_cases hj2 : j < n
              · have hr := hf.turns (c * n + j)
                have hcn : c * n ≤ 200 * 4 := Nat.mul_le_mul (by omega) (by omega)
                have hsmall : k + (c * n + j) ≤ 100000 := by omega
                have hin := ins_bd n s (c * n + j)
                have hin0 := hin.1
                have hin1 : ins n s (c * n + j) ≤ 1000 := by have := hin.2; omega
                clear hcn hin
                go_wp2_with fail
                refine (step_of (n := n) (fb := fb) (p := j) (r := .nilIface) (s' := turns n s (c * n + j + 1)) hb hr hsmall (told_nil hj2) (turns_succ hj2)).mono ?_
                rintro e w' ⟨rfl, hb', ho⟩
                have hbel' := hbel.trans (ho.bel Hfb.out hbel.size)
                go_wp2_with fail
                refine (at_of (hn := hn4) (p := j) (k := line n (turns n s (c * n + j + 1)) j) hb' rfl).mono ?_
                rintro e w' ⟨rfl, rfl⟩
                go_wp2_with fail
                · have hh : isIn n (turns n s (c * n + j + 1)) j = true := by unfold isIn; assumption
                  have Hi := Lib.hid (ins_yes hj2 hh)
                  go_roundw
                  case rel => exact ⟨j + 1, by omega, by go_num, by rw [← Nat.add_assoc, Hi.out], hb', hbel'⟩
                  case measure => simp [intOf]; omega
                · have hh : isIn n (turns n s (c * n + j + 1)) j = false := by unfold isIn; assumption
                  have Hi := Lib.hid (ins_no hj2 hh)
                  go_roundw
                  case rel => exact ⟨j + 1, by omega, by go_num, by rw [← Nat.add_assoc, Hi.out], hb', hbel'⟩
                  case measure => simp [intOf]; omega
              · obtain rfl : n = j := by omega
                have ee : c * n + n = (c + 1) * n := (Nat.succ_mul _ _).symm
                rw [ee] at hb ⊢
                go_wp2_with fail
                go_roundw
                case rel => exact ⟨c + 1, by omega, by go_num, rfl, hb, hbel⟩
                case measure => simp [intOf]; omega
          · obtain rfl : c = 200 := by omega
            have h3 := Hin.out
            have ht : decide (3 ≤ ins n s (200 * n)) = true := by simpa using h3
            clear h3
            go_wp2_with fail
            go_ret
            exact ⟨rfl, hbel⟩

set_option maxHeartbeats 1000000 in
set_option maxRecDepth 100000 in
theorem some_bad (n : Int) (h : n < 1 ∨ 4 < n) (v : Value) (w : World) :
    Calls Try.prog 4 #[.int .i64 n, v] w fun e w' => e = .returned (.bool true) ∧ Below w.heap.size w w' := by
  by_cases h1 : n < 1
  · clear h
    have H := Lib.hid h1
    go_enter Try.func4, Try.ntmps4
    go_wp2_with fail
    refine (fact_any _).mono ?_
    rintro e w1 ⟨rfl, hb⟩
    go_wp2_with fail
    refine (new_no _ (.inl H.out) _).mono ?_
    rintro e w2 ⟨rfl, rfl⟩
    go_wp2_with fail
    go_ret
    exact ⟨rfl, hb⟩
  · have h2 : 4 < n := by omega
    have h3 : 1 ≤ n := by omega
    have H := Lib.hid h2
    clear h h1
    go_enter Try.func4, Try.ntmps4
    go_wp2_with fail
    refine (fact_any _).mono ?_
    rintro e w1 ⟨rfl, hb⟩
    go_wp2_with fail
    refine (new_no _ (.inr H.out) _).mono ?_
    rintro e w2 ⟨rfl, rfl⟩
    go_wp2_with fail
    go_ret
    exact ⟨rfl, hb⟩

theorem some_any (n : Int) (a0 : Option Addr) (len0 cap0 : Nat) (z0 : List Int) (w : World) (w0 : IsRow .i64 w a0 len0 cap0 z0) :
    Calls Try.prog 4 #[.int .i64 n, .slice a0 len0 cap0] w fun e w' => e = .returned (.bool true) ∧ Below w.heap.size w w' := by
  by_cases h : 1 ≤ n ∧ n ≤ 4
  · obtain ⟨m, rfl⟩ := Int.eq_ofNat_of_zero_le (show 0 ≤ n by omega)
    exact some_walk m (by omega) (by omega) a0 len0 cap0 z0 w w0
  · exact some_bad n (by omega) _ w
end Go.Proofs.Ytkjodfpfmpdbmaa.Fast
