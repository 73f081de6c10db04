import Derived.Test.YtimbdjmplcgilaaDoorPrInts
import Derived.Test.YtimbdjmplcgilaaDoorBfs
namespace Go.Proofs.YtimbdjmplcgilaaDoor.SortFn
open Go.RowKit Pr
open Bfs (cmpL)
set_option linter.unusedVariables false

def cmpZ (x y : Int) : Int := if x < y then -1 else if y < x then 1 else 0
theorem cmpL_both {a b : List Int} {k : Nat} (ha : k < a.length) (hb : k < b.length) : cmpL (a.drop k) (b.drop k) = if cmpZ (a.getD k 0) (b.getD k 0) ≠ 0 then cmpZ (a.getD k 0) (b.getD k 0) else cmpL (a.drop (k + 1)) (b.drop (k + 1)) := by
  rw [List.drop_eq_getElem_cons ha, List.drop_eq_getElem_cons hb, cmpL]
  have e1 : a.getD k 0 = a[k] := by simp [List.getD_eq_getElem?_getD, ha]
  have e2 : b.getD k 0 = b[k] := by simp [List.getD_eq_getElem?_getD, hb]
  rw [e1, e2]
  unfold cmpZ
  by_cases h1 : a[k] < b[k]
  · simp [h1]
  · by_cases h2 : b[k] < a[k]
    · simp [h1, h2]
    · simp [h1, h2]
theorem cmpL_long {a b : List Int} {k : Nat} (ha : k < a.length) (hb : b.length ≤ k) : cmpL (a.drop k) (b.drop k) = 1 := by
  rw [List.drop_eq_getElem_cons ha, List.drop_of_length_le hb, cmpL]
theorem cmpL_end {a b : List Int} (hb : a.length ≤ b.length) : cmpL (a.drop a.length) (b.drop a.length) = if a.length < b.length then -1 else 0 := by
  rw [List.drop_length]
  split
  · rename_i h
    rw [List.drop_eq_getElem_cons h, cmpL]
  · rename_i h
    rw [List.drop_of_length_le (by omega), cmpL]

set_option maxHeartbeats 2000000 in
set_option maxRecDepth 100000 in
theorem nan_any {w : World} {x : Int} : Calls Tryd.prog 68 #[.int .i64 x] w fun e w' => e = .returned (.bool false) ∧ w' = w := by
  have e : (x != x) = false := by simp
  go_enter Tryd.func68, Tryd.ntmps68
  go_wp2_with fail
  go_ret
  exact ⟨rfl, rfl⟩
set_option maxHeartbeats 2000000 in
set_option maxRecDepth 100000 in
theorem cmp_any {w : World} {x y : Int} : Calls Tryd.prog 53 #[.int .i64 x, .int .i64 y] w fun e w' => e = .returned (.int .i64 (cmpZ x y)) ∧ w' = w := by
  by_cases h1 : x < y
  · have HC : Hid (cmpZ x y = -1) := by show _ = _; simp [cmpZ, h1]
    go_enter Tryd.func53, Tryd.ntmps53
    go_wp2_with fail
    refine nan_any.mono ?_
    rintro e w1 ⟨rfl, rfl⟩
    go_wp2_with fail
    refine nan_any.mono ?_
    rintro e w1 ⟨rfl, rfl⟩
    go_wp2_with fail
    go_ret
    exact ⟨by rw [HC.out]; rfl, rfl⟩
  · by_cases h2 : y < x
    · have HC : Hid (cmpZ x y = 1) := by show _ = _; simp [cmpZ, h1, h2]
      have e1 : decide (x < y) = false := by simp; omega
      have e2 : decide (x > y) = true := by simp; omega
      go_enter Tryd.func53, Tryd.ntmps53
      go_wp2_with fail
      refine nan_any.mono ?_
      rintro e w1 ⟨rfl, rfl⟩
      go_wp2_with fail
      refine nan_any.mono ?_
      rintro e w1 ⟨rfl, rfl⟩
      go_wp2_with fail
      go_ret
      exact ⟨by rw [HC.out]; rfl, rfl⟩
    · have HC : Hid (cmpZ x y = 0) := by show _ = _; simp [cmpZ, h1, h2]
      have e1 : decide (x < y) = false := by simp; omega
      have e2 : decide (x > y) = false := by simp; omega
      go_enter Tryd.func53, Tryd.ntmps53
      go_wp2_with fail
      refine nan_any.mono ?_
      rintro e w1 ⟨rfl, rfl⟩
      go_wp2_with fail
      refine nan_any.mono ?_
      rintro e w1 ⟨rfl, rfl⟩
      go_wp2_with fail
      go_ret
      exact ⟨by rw [HC.out]; rfl, rfl⟩

set_option maxHeartbeats 2000000 in
set_option maxRecDepth 100000 in
theorem compare_any {w : World} {v1 v2 : Value} {a b : List Int} (h1 : Nums w v1 a) (h2 : Nums w v2 b) :
    Calls Tryd.prog 45 #[v1, v2] w fun e w' => e = .returned (.int .i64 (cmpL a b)) ∧ w' = w := by
  have H1 := Lib.hid h1
  have H2 := Lib.hid h2
  obtain ⟨a1, cap1, rfl, hl1, -⟩ := h1
  obtain ⟨a2, cap2, rfl, hl2, -⟩ := h2
  unfold maxLen at hl1 hl2
  go_enter Tryd.func45, Tryd.ntmps45
  go_wp2_with fail
  go_loopg [11] (a.length + 1) (fun g i wr => ∃ k : Nat, k ≤ a.length ∧ k ≤ b.length ∧ k + g = a.length + 1 ∧ i = .int .i64 k ∧ wr = w ∧ cmpL a b = cmpL (a.drop k) (b.drop k))
  case atStart => exact ⟨0, by omega, by omega, by omega, rfl, rfl, by simp⟩
  case round =>
    obtain ⟨k, hk, hkb, hkg, rfl, rfl, hc⟩ := hrel
    have HKG := Lib.hid hkg
    have HC := Lib.hid hc
    clear hkg hc
    by_cases hkn : k < a.length
    · have hkI : (k : Int) < a.length := by omega
      obtain ⟨a1', cap1', e1, -, hx1⟩ := H1.out
      obtain ⟨b1, o1, rfl, -, c1⟩ := hx1 k hkn
      cases e1
      clear hx1
      by_cases hkm : k < b.length
      · have hkJ : (k : Int) < b.length := by omega
        obtain ⟨a2', cap2', e2, -, hx2⟩ := H2.out
        obtain ⟨b2, o2, rfl, -, c2⟩ := hx2 k hkm
        cases e2
        clear hx2
        have hcb := cmpL_both hkn hkm
        rw [← HC.out] at hcb
        generalize a.getD k 0 = x at c1 hcb
        generalize b.getD k 0 = y at c2 hcb
        have HCB := Lib.hid hcb
        have e3 : decide ((k : Int) ≥ (b.length : Int)) = false := by simp; omega
        clear hcb
        go_wp2_with fail
        refine cmp_any.mono ?_
        rintro e w1 ⟨rfl, rfl⟩
        by_cases hz : cmpZ x y = 0
        · have hcb := HCB.out
          rw [if_neg (by simpa using hz)] at hcb
          have HN := Lib.hid hcb
          rw [hz]
          clear hcb
          go_wp2_with fail
          go_roundg (a.length - k)
          case measure => have := HKG.out; omega
          case rel => exact ⟨k + 1, by omega, by omega, by omega, by go_num, rfl, HN.out⟩
        · have hcb := HCB.out
          rw [if_pos hz] at hcb
          have HN := Lib.hid hcb
          have hzb : (cmpZ x y != 0) = true := by simpa using hz
          clear hcb
          generalize cmpZ x y = c at hz hzb HN ⊢
          clear hz HCB
          go_wp2_with fail
          go_ret
          exact ⟨by rw [HN.out]; rfl, rfl⟩
      · have e3 : decide ((k : Int) ≥ (b.length : Int)) = true := by simp; omega
        have HN : Hid (cmpL a b = 1) := by show _ = _; rw [HC.out, cmpL_long hkn (by omega)]
        go_wp2_with fail
        go_ret
        exact ⟨by rw [HN.out]; rfl, rfl⟩
    · obtain rfl : k = a.length := by omega
      have HN : Hid (cmpL a b = if a.length < b.length then -1 else 0) := by show _ = _; rw [HC.out, cmpL_end hkb]
      by_cases hlt : a.length < b.length
      · have hltI : (a.length : Int) < b.length := by omega
        go_wp2_with fail
        go_ret
        exact ⟨by rw [HN.out, if_pos hlt]; rfl, rfl⟩
      · have e3 : decide ((a.length : Int) < b.length) = false := by simp; omega
        go_wp2_with fail
        go_ret
        exact ⟨by rw [HN.out, if_neg hlt]; rfl, rfl⟩
theorem eq_of_getD {a b : List Int} (hl : a.length = b.length) (h : ∀ j, j < a.length → a.getD j 0 = b.getD j 0) : a = b := by
  apply List.ext_getElem hl
  intro j h1 h2
  have := h j h1
  simpa [List.getD_eq_getElem?_getD, h1, h2] using this

set_option maxHeartbeats 2000000 in
set_option maxRecDepth 100000 in
theorem equal_any {w : World} {v1 v2 : Value} {a b : List Int} (h1 : Nums w v1 a) (h2 : Nums w v2 b) :
    Calls Tryd.prog 47 #[v1, v2] w fun e w' => e = .returned (.bool (decide (a = b))) ∧ ∃ m, w' = w.drewN m := by
  have H1 := Lib.hid h1
  have H2 := Lib.hid h2
  obtain ⟨a1, cap1, rfl, hl1, -⟩ := h1
  obtain ⟨a2, cap2, rfl, hl2, -⟩ := h2
  unfold maxLen at hl1 hl2
  by_cases hl : a.length = b.length
  · have e0 : ((a.length : Int) != (b.length : Int)) = false := by simp; omega
    go_enter Tryd.func47, Tryd.ntmps47
    go_wp2_with fail
    go_loopg [13] (a.length + 1) (fun g i wr => ∃ k m : Nat, k ≤ a.length ∧ k + g = a.length + 1 ∧ i = .int .i64 k ∧ wr = w.drewN m ∧ ∀ j, j < k → a.getD j 0 = b.getD j 0)
    case atStart => exact ⟨0, 0, by omega, by omega, rfl, rfl, fun j hj => by omega⟩
    case round =>
      obtain ⟨k, m, hk, hkg, rfl, rfl, hsame⟩ := hrel
      have HKG := Lib.hid hkg
      have HSM := Lib.hid hsame
      clear hkg hsame
      by_cases hkn : k < a.length
      · have hkI : (k : Int) < a.length := by omega
        have hkJ : (k : Int) < b.length := by omega
        obtain ⟨a1', cap1', e1, -, hx1⟩ := H1.out
        obtain ⟨b1, o1, rfl, -, c1⟩ := hx1 k hkn
        cases e1
        obtain ⟨a2', cap2', e2, -, hx2⟩ := H2.out
        obtain ⟨b2, o2, rfl, -, c2⟩ := hx2 k (by omega)
        cases e2
        clear hx1 hx2
        obtain ⟨x, hx⟩ : ∃ x, a.getD k 0 = x := ⟨_, rfl⟩
        obtain ⟨y, hy⟩ : ∃ y, b.getD k 0 = y := ⟨_, rfl⟩
        rw [hx] at c1
        rw [hy] at c2
        have HXY : Hid (a.getD k 0 = x ∧ b.getD k 0 = y) := ⟨hx, hy⟩
        clear hx hy
        by_cases hxy : x = y
        · have e1 : (x != y) = false := by simp [hxy]
          have HE := Lib.hid hxy
          clear hxy
          go_wp2_with fail
          go_quiet (fail)
          go_wp2_with fail
          go_roundg (a.length - k)
          case measure => have := HKG.out; omega
          case rel => exact ⟨k + 1, m + nq, by omega, by omega, by go_num, rfl, fun j hj => by
            by_cases e : j = k
            · subst e; rw [HXY.out.1, HXY.out.2, HE.out]
            · exact HSM.out j (by omega)⟩
        · have e1 : (x != y) = true := by simpa using hxy
          have HN : Hid (decide (a = b) = false) := by
            show _ = _
            simp only [decide_eq_false_iff_not]
            intro e
            subst e
            exact hxy (HXY.out.1.symm.trans HXY.out.2)
          clear hxy
          go_wp2_with fail
          go_quiet (fail)
          go_wp2_with fail
          go_ret
          exact ⟨by rw [HN.out]; rfl, m + nq, World.drewN_drewN _ _ _⟩
      · obtain rfl : k = a.length := by omega
        have HN : Hid (decide (a = b) = true) := by
          show _ = _
          simp only [decide_eq_true_eq]
          exact eq_of_getD hl HSM.out
        go_wp2_with fail
        go_ret
        exact ⟨by rw [HN.out]; rfl, m, rfl⟩
  · have e0 : ((a.length : Int) != (b.length : Int)) = true := by simp; omega
    have HN : Hid (decide (a = b) = false) := by
      show _ = _
      simp only [decide_eq_false_iff_not]
      intro e
      exact hl (congrArg List.length e)
    go_enter Tryd.func47, Tryd.ntmps47
    go_wp2_with fail
    go_ret
    exact ⟨by rw [HN.out]; rfl, 0, rfl⟩

set_option maxHeartbeats 2000000 in
set_option maxRecDepth 100000 in
theorem ints_any {w : World} {v1 v2 : Value} {a b : List Int} (h1 : Nums w v1 a) (h2 : Nums w v2 b) :
    Calls Tryd.prog 32 #[v1, v2] w fun e w' => e = .returned (.bool (decide (a = b))) ∧ ∃ m, w' = w.drewN m := by
  have H1 := Lib.hid h1
  have H2 := Lib.hid h2
  obtain ⟨a1, cap1, rfl, hl1, -⟩ := h1
  obtain ⟨a2, cap2, rfl, hl2, -⟩ := h2
  unfold maxLen at hl1 hl2
  by_cases hl : a.length = b.length
  · have e0 : ((a.length : Int) != (b.length : Int)) = false := by simp; omega
    go_enter Tryd.func32, Tryd.ntmps32
    go_wp2_with fail
    go_loopg [5] (a.length + 1) (fun g i wr => ∃ k m : Nat, k ≤ a.length ∧ k + g = a.length + 1 ∧ i = .int .i64 k ∧ wr = w.drewN m ∧ ∀ j, j < k → a.getD j 0 = b.getD j 0)
    case atStart => exact ⟨0, 0, by omega, by omega, rfl, rfl, fun j hj => by omega⟩
    case round =>
      obtain ⟨k, m, hk, hkg, rfl, rfl, hsame⟩ := hrel
      have HKG := Lib.hid hkg
      have HSM := Lib.hid hsame
      clear hkg hsame
      by_cases hkn : k < a.length
      · have hkI : (k : Int) < a.length := by omega
        have hkJ : (k : Int) < b.length := by omega
        obtain ⟨a1', cap1', e1, -, hx1⟩ := H1.out
        obtain ⟨b1, o1, rfl, -, c1⟩ := hx1 k hkn
        cases e1
        obtain ⟨a2', cap2', e2, -, hx2⟩ := H2.out
        obtain ⟨b2, o2, rfl, -, c2⟩ := hx2 k (by omega)
        cases e2
        clear hx1 hx2
        obtain ⟨x, hx⟩ : ∃ x, a.getD k 0 = x := ⟨_, rfl⟩
        obtain ⟨y, hy⟩ : ∃ y, b.getD k 0 = y := ⟨_, rfl⟩
        rw [hx] at c1
        rw [hy] at c2
        have HXY : Hid (a.getD k 0 = x ∧ b.getD k 0 = y) := ⟨hx, hy⟩
        clear hx hy
        by_cases hxy : x = y
        · have e1 : (x != y) = false := by simp [hxy]
          have HE := Lib.hid hxy
          clear hxy
          go_wp2_with fail
          go_quiet (fail)
          go_wp2_with fail
          go_roundg (a.length - k)
          case measure => have := HKG.out; omega
          case rel => exact ⟨k + 1, m + nq, by omega, by omega, by go_num, rfl, fun j hj => by
            by_cases e : j = k
            · subst e; rw [HXY.out.1, HXY.out.2, HE.out]
            · exact HSM.out j (by omega)⟩
        · have e1 : (x != y) = true := by simpa using hxy
          have HN : Hid (decide (a = b) = false) := by
            show _ = _
            simp only [decide_eq_false_iff_not]
            intro e
            subst e
            exact hxy (HXY.out.1.symm.trans HXY.out.2)
          clear hxy
          go_wp2_with fail
          go_quiet (fail)
          go_wp2_with fail
          go_ret
          exact ⟨by rw [HN.out]; rfl, m + nq, World.drewN_drewN _ _ _⟩
      · obtain rfl : k = a.length := by omega
        have HN : Hid (decide (a = b) = true) := by
          show _ = _
          simp only [decide_eq_true_eq]
          exact eq_of_getD hl HSM.out
        go_wp2_with fail
        go_ret
        exact ⟨by rw [HN.out]; rfl, m, rfl⟩
  · have e0 : ((a.length : Int) != (b.length : Int)) = true := by simp; omega
    have HN : Hid (decide (a = b) = false) := by
      show _ = _
      simp only [decide_eq_false_iff_not]
      intro e
      exact hl (congrArg List.length e)
    go_enter Tryd.func32, Tryd.ntmps32
    go_wp2_with fail
    go_ret
    exact ⟨by rw [HN.out]; rfl, 0, rfl⟩
end Go.Proofs.YtimbdjmplcgilaaDoor.SortFn
