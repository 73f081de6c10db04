import Derived.Test.YtllbmjnimfpghaaBase
namespace Go.Proofs.Ytllbmjnimfpghaa.NamesLaw
open Go.RowKit
set_option linter.unusedVariables false

def names : List Value := [.string ⟨#[79, 75]⟩, .string ⟨#[69, 114, 114, 82, 97, 110, 103, 101]⟩, .string ⟨#[69, 114, 114, 83, 121, 110, 116, 97, 120]⟩, .string ⟨#[69, 114, 114, 83, 104, 97, 112, 101]⟩, .string ⟨#[69, 114, 114, 70, 117, 108, 108]⟩, .string ⟨#[69, 114, 114, 78, 111, 110, 101]⟩, .string ⟨#[69, 114, 114, 67, 108, 97, 115, 104]⟩, .string ⟨#[69, 114, 114, 83, 116, 97, 116, 101]⟩]

set_option maxHeartbeats 4000000 in
set_option maxRecDepth 100000 in
theorem names_any (w : World) : Calls Try.prog 3 #[] w fun e w' => e = .returned (.bool true) ∧ Grown w w' := by
  go_enter Try.func3, Try.ntmps3
  go_wp2_with fail
  have hB := Blk.new w names.toArray 9
  have hbel : Grown w (w.alloc (.cells names.toArray 9)) := by (repeat (first | exact Grown.refl _ | apply Grown.alloc))
  unfold names at hB hbel
  generalize w.alloc _ = wr at hB hbel ⊢
  go_loop [4] (fun i => ∃ k : Nat, k ≤ 8 ∧ i = .int .i64 k) (fun i => 8 - (intOf i).toNat)
  case atStart => exact ⟨0, by omega, rfl⟩
  case round =>
    obtain ⟨k, hk, rfl⟩ := hrel
    by_cases hk8 : k < 8
    · have hc := hB.cell k
      simp only [List.getElem?_toArray] at hc
      obtain rfl | rfl | rfl | rfl | rfl | rfl | rfl | rfl : k = 0 ∨ k = 1 ∨ k = 2 ∨ k = 3 ∨ k = 4 ∨ k = 5 ∨ k = 6 ∨ k = 7 := by omega
      all_goals
        simp only [List.getElem?_cons_zero, List.getElem?_cons_succ] at hc
        go_wp2
        go_round
        case rel => first | exact ⟨1, by omega, by rfl⟩ | exact ⟨2, by omega, by rfl⟩ | exact ⟨3, by omega, by rfl⟩ | exact ⟨4, by omega, by rfl⟩ | exact ⟨5, by omega, by rfl⟩ | exact ⟨6, by omega, by rfl⟩ | exact ⟨7, by omega, by rfl⟩ | exact ⟨8, by omega, by rfl⟩
        case measure => simp [intOf]
    · obtain rfl : k = 8 := by omega
      clear hB
      go_wp2_with fail
      go_ret
      exact ⟨rfl, hbel⟩
end Go.Proofs.Ytllbmjnimfpghaa.NamesLaw
