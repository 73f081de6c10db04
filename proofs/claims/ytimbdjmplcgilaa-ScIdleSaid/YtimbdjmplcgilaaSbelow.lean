import Derived.Test.YtimbdjmplcgilaaSame
namespace Go.Proofs.Ytimbdjmplcgilaa.Sc
open Go.RowKit Pr
set_option linter.unusedVariables false

theorem belowL_drop {a b : List Int} {k : Nat} (ha : k < a.length) (hb : k < b.length) : belowL (a.drop k) (b.drop k) = if a.getD k 0 = b.getD k 0 then belowL (a.drop (k + 1)) (b.drop (k + 1)) else decide (a.getD k 0 < b.getD k 0) := by
  rw [List.drop_eq_getElem_cons ha, List.drop_eq_getElem_cons hb, belowL]
  have e1 : a.getD k 0 = a[k] := by simp [List.getD_eq_getElem?_getD, ha]
  have e2 : b.getD k 0 = b[k] := by simp [List.getD_eq_getElem?_getD, hb]
  rw [e1, e2]
theorem belowL_out {a b : List Int} {k : Nat} (h : ¬ (k < a.length ∧ k < b.length)) : belowL (a.drop k) (b.drop k) = false := by
  by_cases ha : k < a.length
  · rw [List.drop_eq_getElem_cons ha, List.drop_of_length_le (show b.length ≤ k by omega), belowL]
    intro _ _ _ _ _ e; cases e
  · rw [List.drop_of_length_le (show a.length ≤ k by omega), belowL]
    intro _ _ _ _ e; cases e

set_option maxHeartbeats 2000000 in
set_option maxRecDepth 100000 in
theorem below_any {w : World} {v1 v2 : Value} {a b : List Int} (h1 : Nums w v1 a) (h2 : Nums w v2 b) :
    Calls Try.prog 18 #[v1, v2] w fun e w' => e = .returned (.bool (belowL a b)) ∧ ∃ m, w' = w.drewN m := by
  have H1 := Lib.hid h1
  have H2 := Lib.hid h2
  obtain ⟨a1, cap1, rfl, hl1, -⟩ := h1
  obtain ⟨a2, cap2, rfl, hl2, -⟩ := h2
  unfold maxLen at hl1 hl2
  go_enter Try.func18, Try.ntmps18
  go_wp2_with fail
  go_loopg [5] (a.length + 1) (fun g i wr => ∃ k m : Nat, k ≤ a.length ∧ k + g = a.length + 1 ∧ i = .int .i64 k ∧ wr = w.drewN m ∧ belowL a b = belowL (a.drop k) (b.drop k))
  case atStart => exact ⟨0, 0, by omega, by omega, rfl, rfl, by simp⟩
  case round =>
    obtain ⟨k, m, hk, hkg, rfl, rfl, hs⟩ := hrel
    have HKG := Lib.hid hkg
    have HS := Lib.hid hs
    clear hkg hs
    by_cases hkn : k < a.length
    · have hkI : (k : Int) < a.length := by omega
      by_cases hkm : k < b.length
      · have hkJ : (k : Int) < b.length := by omega
        obtain ⟨a1', cap1', e1, -, hx1⟩ := H1.out
        obtain ⟨b1, o1, rfl, -, c1⟩ := hx1 k hkn
        cases e1
        obtain ⟨a2', cap2', e2, -, hx2⟩ := H2.out
        obtain ⟨b2, o2, rfl, -, c2⟩ := hx2 k hkm
        cases e2
        clear hx1 hx2
        have hd := belowL_drop hkn hkm
        obtain ⟨x, hx⟩ : ∃ x, a.getD k 0 = x := ⟨_, rfl⟩
        obtain ⟨y, hy⟩ : ∃ y, b.getD k 0 = y := ⟨_, rfl⟩
        rw [hx] at c1
        rw [hy] at c2
        rw [hx, hy] at hd
        have HD := Lib.hid hd
        clear hx hy hd
        by_cases hxy : x = y
        · have e1 : (x != y) = false := by simp [hxy]
          have HE : Hid (belowL a b = belowL (a.drop (k + 1)) (b.drop (k + 1))) := by show _ = _; rw [HS.out, HD.out, if_pos hxy]
          clear hxy
          go_wp2_with fail
          go_quiet (fail)
          go_wp2_with fail
          go_roundg (a.length - k)
          case measure => have := HKG.out; omega
          case rel => exact ⟨k + 1, m + nq, by omega, by omega, by go_num, by first | rfl | (simp only [World.drewN_drewN]), HE.out⟩
        · have e1 : (x != y) = true := by simpa using hxy
          have HE : Hid (belowL a b = decide (x < y)) := by show _ = _; rw [HS.out, HD.out, if_neg hxy]
          clear hxy
          by_cases hlt : x < y
          · have HR : Hid (belowL a b = true) := by show _ = _; rw [HE.out]; simpa using hlt
            go_wp2_with fail
            go_quiet (fail)
            go_wp2_with fail
            go_quiet (fail)
            go_wp2_with fail
            go_ret
            exact ⟨by rw [HR.out]; rfl, by first | exact ⟨_, rfl⟩ | exact ⟨_, World.drewN_drewN _ _ _⟩ | exact ⟨_, (congrArg (fun x : World => x.drewN _) (World.drewN_drewN _ _ _)).trans (World.drewN_drewN _ _ _)⟩⟩
          · have HR : Hid (belowL a b = false) := by show _ = _; rw [HE.out]; simpa using hlt
            have e2 : decide (x < y) = false := by simpa using hlt
            clear hlt
            go_wp2_with fail
            go_quiet (fail)
            go_wp2_with fail
            go_quiet (fail)
            go_wp2_with fail
            go_ret
            exact ⟨by rw [HR.out]; rfl, by first | exact ⟨_, rfl⟩ | exact ⟨_, World.drewN_drewN _ _ _⟩ | exact ⟨_, (congrArg (fun x : World => x.drewN _) (World.drewN_drewN _ _ _)).trans (World.drewN_drewN _ _ _)⟩⟩
      · have hkJ : decide ((k : Int) < b.length) = false := by simp; omega
        have HR : Hid (belowL a b = false) := by show _ = _; rw [HS.out, belowL_out (by omega)]
        go_wp2_with fail
        go_ret
        exact ⟨by rw [HR.out]; rfl, m, rfl⟩
    · have hkI : decide ((k : Int) < a.length) = false := by simp; omega
      have HR : Hid (belowL a b = false) := by show _ = _; rw [HS.out, belowL_out (by omega)]
      go_wp2_with fail
      go_ret
      exact ⟨by rw [HR.out]; rfl, m, rfl⟩
end Go.Proofs.Ytimbdjmplcgilaa.Sc
