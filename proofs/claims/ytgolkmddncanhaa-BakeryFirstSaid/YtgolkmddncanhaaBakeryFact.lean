import Derived.Test.YtgolkmddncanhaaBakeryNew
import Derived.Test.YtgolkmddncanhaaGrow
namespace Go.Proofs.Ytgolkmddncanhaa.Bakery
open Go.RowKit
set_option linter.unusedVariables false

/-- The closed fact: hand 1, alone, comes in. -/
def FactRel (w : World) (L : Nat) (fb : List Nat) (i : Value) (wr : World) : Prop :=
  ∃ k : Nat, k < 9 ∧ i = .int .i64 k ∧ Rep wr 2 L fb (alone k) ∧ Below w.heap.size w wr

set_option maxHeartbeats 1000000 in
set_option maxRecDepth 100000 in
theorem fact_any (w : World) : Calls Try.prog 7 #[] w fun e w' => e = .returned (.bool true) ∧ Below w.heap.size w w' := by
  go_enter Try.func7, Try.ntmps7
  go_wp2_with fail
  refine (new_any 2 (by omega) (by omega) _).mono ?_
  rintro e w1 ⟨L, fb, rfl, hL, hbel0, hfb⟩
  have hfb' : ∀ k ∈ fb, w.heap.size ≤ k := fun k hk => (hfb k hk).1
  have Hfb := Lib.hid hfb'
  clear hfb hfb'
  go_wp2_with fail
  go_loopw [3] (fun i wr => FactRel w L fb i wr) (fun i _ => 12 - (intOf i).toNat)
  case atStart => exact ⟨0, by omega, rfl, hL, hbel0⟩
  case round =>
    obtain ⟨k, hk, rfl, hb, hbel⟩ := hrel
    clear hL hbel0
    have hlt : (k : Int) < 12 := by omega
    have hr := alone_reach k
    by_cases hlast : k + 1 = 9
    · obtain rfl : k = 8 := by omega
      clear hlast hlt hk
      have h5 := Lib.hid alone_in
      have h0 := Lib.hid alone_zero
      go_wp2_with fail
      refine (step_of (n := 2) (fb := fb) (p := 1) (r := .nilIface) (s := alone 8) (s' := alone 9) hb hr (by omega) rfl rfl).mono ?_
      rintro e w' ⟨rfl, hb', ho⟩
      go_wp2_with fail
      refine (at_of (hn := by omega) (p := 1) (k := line 2 (alone 9) 1) hb' rfl).mono ?_
      rintro e w' ⟨rfl, rfl⟩
      have g5 := h5.out
      go_wp2_with fail
      refine (at_of (hn := by omega) (p := 0) (k := 1) hb' h0.out).mono ?_
      rintro e w' ⟨rfl, rfl⟩
      go_wp2_with fail
      go_ret
      exact ⟨rfl, hbel.trans (ho.bel Hfb.out hbel.size)⟩
    · have h5 := Lib.hid (alone_out k (by omega))
      go_wp2_with fail
      refine (step_of (n := 2) (fb := fb) (p := 1) (r := .nilIface) (s := alone k) (s' := alone (k + 1)) hb hr (by omega) rfl rfl).mono ?_
      rintro e w' ⟨rfl, hb', ho⟩
      go_wp2_with fail
      refine (at_of (hn := by omega) (p := 1) (k := line 2 (alone (k + 1)) 1) hb' rfl).mono ?_
      rintro e w' ⟨rfl, rfl⟩
      have g5 := h5.out
      go_wp2_with fail
      go_roundw
      case rel => exact ⟨k + 1, by omega, by go_num, hb', hbel.trans (ho.bel Hfb.out hbel.size)⟩
      case measure => simp [intOf]; omega
end Go.Proofs.Ytgolkmddncanhaa.Bakery
