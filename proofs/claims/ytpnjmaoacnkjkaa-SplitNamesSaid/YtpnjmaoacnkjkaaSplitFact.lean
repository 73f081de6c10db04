import Derived.Test.YtpnjmaoacnkjkaaSplitNew
import Derived.Test.YtpnjmaoacnkjkaaGrow
namespace Go.Proofs.Ytpnjmaoacnkjkaa.Split
open Go.RowKit
set_option linter.unusedVariables false

theorem belowN {B : Nat} {a w : World} (h : Below B a w) (n : Nat) : Below B a (w.drewN n) := ⟨h.os, h.tape, h.output, h.size, h.block⟩
def FactRel (w : World) (L : Nat) (fb : List Nat) (i : Value) (wr : World) : Prop :=
  ∃ k : Nat, k ≤ 4 ∧ i = .int .i64 k ∧ Rep wr 3 L fb (self 3 (first 3) 2 k) ∧ Below w.heap.size w wr

set_option maxHeartbeats 1000000 in
set_option maxRecDepth 100000 in
theorem fact_any (w : World) : Calls Try.prog 5 #[] w fun e w' => e = .returned (.bool true) ∧ Below w.heap.size w w' := by
  go_enter Try.func5, Try.ntmps5
  go_wp2_with fail
  refine (new_any 3 (by omega) (by omega) _).mono ?_
  rintro e w1 ⟨L, fb, rfl, hL, hbel0, hfb⟩
  have hfb' : ∀ k ∈ fb, w.heap.size ≤ k := fun k hk => (hfb k hk).1
  have Hfb := Lib.hid hfb'
  clear hfb hfb'
  go_wp2_with fail
  go_loopw [3] (fun i wr => FactRel w L fb i wr) (fun i _ => 4 - (intOf i).toNat)
  case atStart => exact ⟨0, by omega, rfl, hL, hbel0⟩
  case round =>
    obtain ⟨k, hk, rfl, hb, hbel⟩ := hrel
    clear hL hbel0
    have hr : Reach 3 (0 + k) (self 3 (first 3) 2 k) := self_reach (Reach.first 3 (by omega) (by omega)) 2 k
    by_cases hlt : k < 4
    · have hltI : (k : Int) < 4 := by omega
      go_wp2_with fail
      refine (step_of (n := 3) (fb := fb) (p := 2) (r := .nilIface) (s := self 3 (first 3) 2 k) (s' := self 3 (first 3) 2 (k + 1)) hb hr rfl rfl).mono ?_
      rintro e w' ⟨rfl, hb', ho⟩
      go_wp2_with fail
      go_roundw
      case rel => exact ⟨k + 1, by omega, by go_num, hb', hbel.trans (ho.below Hfb.out)⟩
      case measure => simp [intOf]; omega
    · obtain rfl : k = 4 := by omega
      have hi := hr.2.2
      have H2 := Lib.hid fact_two
      have H0 := Lib.hid fact_zero
      go_wp2_with fail
      refine (name_of (k := 0) hb (by omega) hi H2.out).mono ?_
      rintro e w' ⟨rfl, m, rfl⟩
      go_wp2_with fail
      refine (name_of (k := -1) (hb.keep (w' := wr.drewN m) (fun _ _ => rfl)) (by omega) hi H0.out).mono ?_
      rintro e w' ⟨rfl, m2, rfl⟩
      go_wp2_with fail
      go_ret
      exact ⟨rfl, belowN hbel _⟩
end Go.Proofs.Ytpnjmaoacnkjkaa.Split
