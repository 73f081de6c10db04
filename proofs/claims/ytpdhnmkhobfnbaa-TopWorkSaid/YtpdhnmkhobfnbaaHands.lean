import Derived.Test.YtpdhnmkhobfnbaaBase
namespace Go.Proofs.Ytpdhnmkhobfnbaa
open Go.RowKit

theorem hands_ok {n : Int} {w : World} (h1 : 1 ≤ n) (h4 : n ≤ 4) :
    Calls Try.prog 11 #[.int .i64 n] w fun e w' => e = .returned .nilIface ∧ w = w' := by
  go_enter Try.func11, Try.ntmps11
  go_wp2
  go_ret
  exact ⟨rfl, rfl⟩
end Go.Proofs.Ytpdhnmkhobfnbaa
