import Derived.Test.YtgkfgijmccojjaaDoorBase
namespace Go.Proofs.YtgkfgijmccojjaaDoor
open Go.RowKit

theorem hands_ok {n : Int} {w : World} (h1 : 1 ≤ n) (h4 : n ≤ 4) :
    Calls Tryd.prog 78 #[.int .i64 n] w fun e w' => e = .returned .nilIface ∧ w = w' := by
  go_enter Tryd.func78, Tryd.ntmps78
  go_wp2
  go_ret
  exact ⟨rfl, rfl⟩
end Go.Proofs.YtgkfgijmccojjaaDoor
