import Derived.Test.YtimbdjmplcgilaaDoorSortW
import Derived.Test.YtimbdjmplcgilaaDoorScLaw
namespace Go.Proofs.YtimbdjmplcgilaaDoor.SortFn
open Go.RowKit Pr
set_option linter.unusedVariables false

theorem Mat.drewN {w : World} {v : Value} {M : List (List Int)} (h : Mat w v M) (m : Nat) : Mat (w.drewN m) v M := h
theorem ints_q {w : World} {n : Nat} {v1 v2 : Value} {a b : List Int} (h1 : Nums w v1 a) (h2 : Nums w v2 b) {r : Bool} (hr : decide (a = b) = r) :
    Calls Tryd.prog 32 #[v1, v2] (w.drewN n) fun e w'' => e = .returned (.bool r) ∧ ∃ m, w'' = w.drewN m :=
  Calls.quiet_of (by subst hr; exact ints_any (w := w.drewN n) h1 h2)
theorem ints_qq {w : World} {q n : Nat} {v1 v2 : Value} {a b : List Int} (h1 : Nums w v1 a) (h2 : Nums w v2 b) {r : Bool} (hr : decide (a = b) = r) :
    Calls Tryd.prog 32 #[v1, v2] (w.drewN (q + n)) fun e w'' => e = .returned (.bool r) ∧ ∃ m, w'' = w.drewN (q + m) := by
  subst hr
  refine (ints_any (w := w.drewN (q + n)) h1 h2).mono ?_
  rintro e w'' ⟨rfl, m, rfl⟩
  exact ⟨rfl, n + m, by rw [World.drewN_drewN, Nat.add_assoc]⟩

theorem matEq {M N : List (List Int)} (hl : M.length = N.length) (h : ∀ j, j < M.length → M.getD j [] = N.getD j []) : M = N := by
  apply List.ext_getElem hl
  intro j h1 h2
  have := h j h1
  simpa [List.getD_eq_getElem?_getD, h1, h2] using this

set_option maxHeartbeats 2000000 in
set_option maxRecDepth 100000 in
theorem rows_any {w : World} {v x : Value} {M N : List (List Int)} (h1 : Mat w v M) (h2 : Mat w x N) :
    Calls Tryd.prog 10 #[v, x] w fun e w' => e = .returned (.bool (decide (M = N))) ∧ ∃ m, w' = w.drewN m := by
  have H1 := Lib.hid h1
  have H2 := Lib.hid h2
  obtain ⟨a1, cap1, rfl, hl1, -⟩ := h1
  obtain ⟨a2, cap2, rfl, hl2, -⟩ := h2
  unfold maxLen at hl1 hl2
  by_cases hl : M.length = N.length
  · have e0 : ((M.length : Int) != (N.length : Int)) = false := by simp; omega
    go_enter Tryd.func10, Tryd.ntmps10
    go_wp2_with fail
    go_loopg [5] (M.length + 1) (fun g i wr => ∃ k m : Nat, k ≤ M.length ∧ k + g = M.length + 1 ∧ i = .int .i64 k ∧ wr = w.drewN m ∧ ∀ j, j < k → M.getD j [] = N.getD j [])
    case atStart => exact ⟨0, 0, by omega, by omega, rfl, rfl, fun j hj => by omega⟩
    case round =>
      obtain ⟨k, m, hk, hkg, rfl, rfl, hsame⟩ := hrel
      have HKG := Lib.hid hkg
      have HSM := Lib.hid hsame
      clear hkg hsame
      by_cases hkn : k < M.length
      · have hkI : (k : Int) < M.length := by omega
        have hkJ : (k : Int) < N.length := by omega
        obtain ⟨a1', cap1', e1, -, hx1⟩ := H1.out
        obtain ⟨b1, o1, y1, rfl, -, c1, hy1⟩ := hx1 k hkn
        cases e1
        obtain ⟨a2', cap2', e2, -, hx2⟩ := H2.out
        obtain ⟨b2, o2, y2, rfl, -, c2, hy2⟩ := hx2 k (by omega)
        cases e2
        clear hx1 hx2
        have HY1 := Lib.hid hy1
        have HY2 := Lib.hid hy2
        clear hy1 hy2
        by_cases hxy : M.getD k [] = N.getD k []
        · have HD : Hid (decide (M.getD k [] = N.getD k []) = true) := by show _ = _; simpa using hxy
          have HE := Lib.hid hxy
          clear hxy
          go_wp2_with fail
          go_quiet ((go_at_call 32; exact ints_qq HY1.out HY2.out HD.out))
          go_wp2_with fail
          go_roundg (M.length - k)
          case measure => have := HKG.out; omega
          case rel => exact ⟨k + 1, m + nq, by omega, by omega, by go_num, by first | rfl | (simp only [World.drewN_drewN]), fun j hj => by
            by_cases e : j = k
            · subst e; exact HE.out
            · exact HSM.out j (by omega)⟩
        · have HD : Hid (decide (M.getD k [] = N.getD k []) = false) := by show _ = _; simpa using hxy
          have HN : Hid (decide (M = N) = false) := by
            show _ = _
            simp only [decide_eq_false_iff_not]
            intro e
            subst e
            exact hxy rfl
          clear hxy
          go_wp2_with fail
          go_quiet ((go_at_call 32; exact ints_qq HY1.out HY2.out HD.out))
          go_wp2_with fail
          go_ret
          exact ⟨by rw [HN.out]; rfl, m + nq, by first | rfl | (simp only [World.drewN_drewN])⟩
      · obtain rfl : k = M.length := by omega
        have HN : Hid (decide (M = N) = true) := by
          show _ = _
          simp only [decide_eq_true_eq]
          exact matEq hl HSM.out
        go_wp2_with fail
        go_ret
        exact ⟨by rw [HN.out]; rfl, m, rfl⟩
  · have e0 : ((M.length : Int) != (N.length : Int)) = true := by simp; omega
    have HN : Hid (decide (M = N) = false) := by
      show _ = _
      simp only [decide_eq_false_iff_not]
      intro e
      exact hl (congrArg List.length e)
    go_enter Tryd.func10, Tryd.ntmps10
    go_wp2_with fail
    go_ret
    exact ⟨by rw [HN.out]; rfl, 0, rfl⟩
end Go.Proofs.YtimbdjmplcgilaaDoor.SortFn
namespace Go.Proofs.YtimbdjmplcgilaaDoor.Sc
open Go.RowKit Pr
set_option linter.unusedVariables false

theorem belowL_drop {a b : List Int} {k : Nat} (ha : k < a.length) (hb : k < b.length) : belowL (a.drop k) (b.drop k) = if a.getD k 0 = b.getD k 0 then belowL (a.drop (k + 1)) (b.drop (k + 1)) else decide (a.getD k 0 < b.getD k 0) := by
  rw [List.drop_eq_getElem_cons ha, List.drop_eq_getElem_cons hb, belowL]
  have e1 : a.getD k 0 = a[k] := by simp [List.getD_eq_getElem?_getD, ha]
  have e2 : b.getD k 0 = b[k] := by simp [List.getD_eq_getElem?_getD, hb]
  rw [e1, e2]
theorem belowL_out {a b : List Int} {k : Nat} (h : ¬ (k < a.length ∧ k < b.length)) : belowL (a.drop k) (b.drop k) = false := by
  by_cases ha : k < a.length
  · rw [List.drop_eq_getElem_cons ha, List.drop_of_length_le (show b.length ≤ k by omega), belowL]
    intro _ _ _ _ _ e; cases e
  · rw [List.drop_of_length_le (show a.length ≤ k by omega), belowL]
    intro _ _ _ _ e; cases e

end Go.Proofs.YtimbdjmplcgilaaDoor.Sc
