import Derived.Test.YtimbdjmplcgilaaDoorPrRun
namespace Go.Proofs.YtimbdjmplcgilaaDoor.Pr
open Go.RowKit
set_option linter.unusedVariables false

theorem Nums.drewN {w : World} {v : Value} {z : List Int} (h : Nums w v z) (k : Nat) : Nums (w.drewN k) v z := h
set_option maxHeartbeats 2000000 in
set_option maxRecDepth 100000 in
theorem ints_same {w : World} {v1 v2 : Value} {z : List Int} (h1 : Nums w v1 z) (h2 : Nums w v2 z) :
    Calls Tryd.prog 32 #[v1, v2] w fun e w' => e = .returned (.bool true) ∧ ∃ k, w' = w.drewN k := by
  have H1 := Lib.hid h1
  have H2 := Lib.hid h2
  obtain ⟨a1, cap1, rfl, hl, -⟩ := h1
  obtain ⟨a2, cap2, rfl, -, -⟩ := h2
  unfold maxLen at hl
  have e0 : ((z.length : Int) != (z.length : Int)) = false := by simp
  go_enter Tryd.func32, Tryd.ntmps32
  go_wp2_with fail
  go_loopg [5] (z.length + 1) (fun g i wr => ∃ k m : Nat, k ≤ z.length ∧ k + g = z.length + 1 ∧ i = .int .i64 k ∧ wr = w.drewN m)
  case atStart => exact ⟨0, 0, by omega, by omega, rfl, rfl⟩
  case round =>
    obtain ⟨k, m, hk, hkg, rfl, rfl⟩ := hrel
    have HKG := Lib.hid hkg
    clear hkg
    by_cases hkn : k < z.length
    · have hkI : (k : Int) < z.length := by omega
      obtain ⟨a1', cap1', e1, -, hx1⟩ := H1.out
      obtain ⟨b1, o1, rfl, -, c1⟩ := hx1 k hkn
      cases e1
      obtain ⟨a2', cap2', e2, -, hx2⟩ := H2.out
      obtain ⟨b2, o2, rfl, -, c2⟩ := hx2 k hkn
      cases e2
      clear hx1 hx2
      generalize z.getD k 0 = x at c1 c2
      have e1 : (x != x) = false := by simp
      go_wp2_with fail
      go_quiet (fail)
      go_wp2_with fail
      go_roundg (z.length - k)
      case measure => have := HKG.out; omega
      case rel => exact ⟨k + 1, m + nq, by omega, by omega, by go_num, rfl⟩
    · obtain rfl : k = z.length := by omega
      go_wp2_with fail
      go_ret
      exact ⟨rfl, m, rfl⟩
end Go.Proofs.YtimbdjmplcgilaaDoor.Pr
