import Derived.Test.YtpdhnmkhobfnbaaBase
namespace Go.Proofs.Ytpdhnmkhobfnbaa
open Go.RowKit

theorem inT_yes {n l h : Int} {w : World} (h1 : l ≤ n) (h2 : n ≤ h) :
    Calls Try.prog 5 #[.int .i64 n, .int .i64 l, .int .i64 h] w fun e w' => e = .returned (.bool true) ∧ w = w' := by
  go_enter Try.func5, Try.ntmps5
  go_wp2
  go_ret
  exact ⟨rfl, rfl⟩
theorem inT_no {n l h : Int} {w : World} (h1 : n < l ∨ h < n) :
    Calls Try.prog 5 #[.int .i64 n, .int .i64 l, .int .i64 h] w fun e w' => e = .returned (.bool false) ∧ w = w' := by
  by_cases g : n < l
  · clear h1
    go_enter Try.func5, Try.ntmps5
    go_wp2
    go_ret
    exact ⟨rfl, rfl⟩
  · have g1 : l ≤ n := by omega
    have g2 : decide (n ≤ h) = false := by simp; omega
    clear h1 g
    go_enter Try.func5, Try.ntmps5
    go_wp2
    go_ret
    exact ⟨rfl, rfl⟩
end Go.Proofs.Ytpdhnmkhobfnbaa
