import Derived.Test.YtgolkmddncanhaaBakeryFact
import Derived.Test.YtgolkmddncanhaaClone
namespace Go.Proofs.Ytgolkmddncanhaa.Bakery
open Go.RowKit
set_option linter.unusedVariables false

theorem words_any {w : World} {n L : Nat} {fb : List Nat} {s : St} (h : Rep w n L fb s) (h1 : 1 ≤ n) (h4 : n ≤ 4) :
    Calls Try.prog 12 #[.pointer (some ⟨L, 0, none⟩)] w (Cloned (2 * n) s.wd w) := by
  obtain ⟨bW, bH, cap, rfl, hcap, hLW, hLH, hWH, hB, rW, -⟩ := h
  have c1 := hB.cell 1
  simp only [List.getElem?_toArray, List.getElem?_cons_zero, List.getElem?_cons_succ] at c1
  go_enter Try.func12, Try.ntmps12
  go_wp2_with fail
  refine (clone_any (by omega) (by omega) rW).mono ?_
  rintro e w' ⟨g, cp, rfl, hg, hlt, hrow, hbel⟩
  clear hB rW c1
  go_wp2_with fail
  go_ret
  exact ⟨g, cp, rfl, hg, hlt, hrow, hbel⟩
end Go.Proofs.Ytgolkmddncanhaa.Bakery
