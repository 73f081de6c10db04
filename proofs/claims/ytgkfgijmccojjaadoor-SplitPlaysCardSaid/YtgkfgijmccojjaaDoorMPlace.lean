import Derived.Test.YtgkfgijmccojjaaDoorMach
import Derived.Test.YtgkfgijmccojjaaDoorSplitPlain
namespace Go.Proofs.YtgkfgijmccojjaaDoor.MSplit
open Go.RowKit Split

theorem pl_vals {r c : Int} (h0 : 0 ≤ r) (h1 : 0 ≤ c) (h2 : r + c ≤ 3) : (r = 0 ∧ c = 0) ∨ (r = 0 ∧ c = 1) ∨ (r = 0 ∧ c = 2) ∨ (r = 0 ∧ c = 3) ∨ (r = 1 ∧ c = 0) ∨ (r = 1 ∧ c = 1) ∨ (r = 1 ∧ c = 2) ∨ (r = 2 ∧ c = 0) ∨ (r = 2 ∧ c = 1) ∨ (r = 3 ∧ c = 0) := by omega
/-- The place of a row and a column. -/
theorem place_any {r c : Int} {w : World} (h0 : 0 ≤ r) (h1 : 0 ≤ c) (h2 : r + c ≤ 3) : Calls Tryd.prog 48 #[.int .i64 r, .int .i64 c] w fun e w' => e = .returned (.int .i64 (pl r c)) ∧ w = w' := by
  rcases pl_vals h0 h1 h2 with ⟨rfl, rfl⟩ | ⟨rfl, rfl⟩ | ⟨rfl, rfl⟩ | ⟨rfl, rfl⟩ | ⟨rfl, rfl⟩ | ⟨rfl, rfl⟩ | ⟨rfl, rfl⟩ | ⟨rfl, rfl⟩ | ⟨rfl, rfl⟩ | ⟨rfl, rfl⟩
  all_goals
    clear h0 h1 h2
    go_enter Tryd.func48, Tryd.ntmps48
    go_wp2
    go_ret
    exact ⟨rfl, rfl⟩
theorem place_at {r c : Int} {K : Nat} {w : World} (hK : pl r c = K) (h0 : 0 ≤ r) (h1 : 0 ≤ c) (h2 : r + c ≤ 3) : Calls Tryd.prog 48 #[.int .i64 r, .int .i64 c] w fun e w' => e = .returned (.int .i64 K) ∧ w = w' := by
  rw [← hK]; exact place_any h0 h1 h2
end Go.Proofs.YtgkfgijmccojjaaDoor.MSplit
