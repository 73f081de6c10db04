import Derived.Test.YtomkknmodekghaaBarNew
namespace Go.Proofs.Ytomkknmodekghaa.Bar
open Go.RowKit
set_option linter.unusedVariables false

/-- One hand alone, line by line. -/
def alone : Nat → St
  | 0 => first 1
  | k + 1 => step 1 (alone k) 0
theorem alone_reach (k : Nat) : Reach 1 k (alone k) := by
  induction k with
  | zero => exact Reach.first 1 (by omega) (by omega)
  | succ k ih => exact ih.step 0
theorem alone_often : often 1 (alone 3) 0 = 1 := by decide
theorem alone_line : line 1 (alone 3) 0 = 1 := by decide

def FactRel (w : World) (L : Nat) (fb : List Nat) (i : Value) (wr : World) : Prop :=
  ∃ k : Nat, k ≤ 3 ∧ i = .int .i64 k ∧ Rep wr 1 L fb (alone k) ∧ Below w.heap.size w wr

set_option maxHeartbeats 1000000 in
set_option maxRecDepth 100000 in
theorem fact_any (w : World) : Calls Try.prog 5 #[] w fun e w' => e = .returned (.bool true) ∧ Below w.heap.size w w' := by
  go_enter Try.func5, Try.ntmps5
  go_wp2_with fail
  refine (new_any 1 (by omega) (by omega) _).mono ?_
  rintro e w1 ⟨L, fb, rfl, hL, hbel0, hfb⟩
  have Hfb : Hid (∀ k ∈ fb, w.heap.size ≤ k) := fun k hk => (hfb k hk).1
  clear hfb
  go_wp2_with fail
  go_loopw [3] (fun i wr => FactRel w L fb i wr) (fun i _ => 3 - (intOf i).toNat)
  case atStart => exact ⟨0, by omega, rfl, hL, hbel0⟩
  case round =>
    obtain ⟨k, hk, rfl, hb, hbel⟩ := hrel
    clear hL hbel0
    by_cases hk3 : k < 3
    · have hr := alone_reach k
      go_wp2_with fail
      refine (step_of (n := 1) (fb := fb) (p := 0) (r := .nilIface) (s := alone k) (s' := alone (k + 1)) hb hr (by omega) rfl rfl).mono ?_
      rintro e w' ⟨rfl, hb', ho⟩
      go_wp2_with fail
      go_roundw
      case rel => exact ⟨k + 1, by omega, by go_num, hb', hbel.trans (ho.below Hfb.out)⟩
      case measure => simp [intOf]; omega
    · obtain rfl : k = 3 := by omega
      have h0 := Lib.hid alone_often
      have h1 := Lib.hid alone_line
      go_wp2_with fail
      refine (phase_of (hn := by omega) (p := 0) (k := 1) hb h0.out).mono ?_
      rintro e w' ⟨rfl, rfl⟩
      go_wp2_with fail
      refine (at_of (hn := by omega) (p := 0) (k := 1) hb h1.out).mono ?_
      rintro e w' ⟨rfl, rfl⟩
      go_wp2_with fail
      go_ret
      exact ⟨rfl, hbel⟩
end Go.Proofs.Ytomkknmodekghaa.Bar
