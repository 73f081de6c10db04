import Derived.Test.YtimbdjmplcgilaaSorted
import Derived.Test.YtimbdjmplcgilaaScLaw
namespace Go.Proofs.Ytimbdjmplcgilaa.SortFn
open Go.RowKit Pr
set_option linter.unusedVariables false

theorem Mat.drewN {w : World} {v : Value} {M : List (List Int)} (h : Mat w v M) (m : Nat) : Mat (w.drewN m) v M := h
theorem ints_q {w : World} {n : Nat} {v1 v2 : Value} {a b : List Int} (h1 : Nums w v1 a) (h2 : Nums w v2 b) {r : Bool} (hr : decide (a = b) = r) :
    Calls Try.prog 20 #[v1, v2] (w.drewN n) fun e w'' => e = .returned (.bool r) ∧ ∃ m, w'' = w.drewN m :=
  Calls.quiet_of (by subst hr; exact ints_any (w := w.drewN n) h1 h2)
theorem ints_qq {w : World} {q n : Nat} {v1 v2 : Value} {a b : List Int} (h1 : Nums w v1 a) (h2 : Nums w v2 b) {r : Bool} (hr : decide (a = b) = r) :
    Calls Try.prog 20 #[v1, v2] (w.drewN (q + n)) fun e w'' => e = .returned (.bool r) ∧ ∃ m, w'' = w.drewN (q + m) := by
  subst hr
  refine (ints_any (w := w.drewN (q + n)) h1 h2).mono ?_
  rintro e w'' ⟨rfl, m, rfl⟩
  exact ⟨rfl, n + m, by rw [World.drewN_drewN, Nat.add_assoc]⟩

set_option maxHeartbeats 2000000 in
set_option maxRecDepth 100000 in
theorem has_any {w : World} {v x : Value} {M : List (List Int)} {l : List Int} (h1 : Mat w v M) (h2 : Nums w x l) :
    Calls Try.prog 15 #[v, x] w fun e w' => e = .returned (.bool (decide (l ∈ M))) ∧ ∃ m, w' = w.drewN m := by
  have H1 := Lib.hid h1
  have H2 := Lib.hid h2
  obtain ⟨a1, cap1, rfl, hl1, -⟩ := h1
  clear h2
  unfold maxLen at hl1
  go_enter Try.func15, Try.ntmps15
  go_wp2_with fail
  go_loopg [5] (M.length + 1) (fun g i wr => ∃ k m : Nat, k ≤ M.length ∧ k + g = M.length + 1 ∧ i = .int .i64 k ∧ wr = w.drewN m ∧ ∀ j, j < k → M.getD j [] ≠ l)
  case atStart => exact ⟨0, 0, by omega, by omega, rfl, rfl, fun j hj => by omega⟩
  case round =>
    obtain ⟨k, m, hk, hkg, rfl, rfl, hno⟩ := hrel
    have HKG := Lib.hid hkg
    have HNO := Lib.hid hno
    clear hkg hno
    by_cases hkn : k < M.length
    · have hkI : (k : Int) < M.length := by omega
      obtain ⟨a1', cap1', e1, -, hx1⟩ := H1.out
      obtain ⟨b1, o1, y, rfl, -, c1, hy⟩ := hx1 k hkn
      cases e1
      clear hx1
      have HY := Lib.hid hy
      clear hy
      have c2 : (w.drewN m).cell? ⟨b1, o1 + k, none⟩ = some y := c1
      obtain ⟨a2, cap2, ey, -⟩ := HY.out
      obtain ⟨a3, cap3, ex, -⟩ := H2.out
      clear ey ex
      by_cases he : M.getD k [] = l
      · have HD : Hid (decide (M.getD k [] = l) = true) := by show _ = _; simpa using he
        have HR : Hid (decide (l ∈ M) = true) := by
          show _ = _
          simp only [decide_eq_true_eq]
          rw [← he, List.getD_eq_getElem?_getD, List.getElem?_eq_getElem hkn]
          exact List.getElem_mem _
        clear he
        go_wp2_with fail
        refine (ints_any (w := w.drewN m) HY.out H2.out).mono ?_
        rintro e w2 ⟨rfl, n, rfl⟩
        rw [HD.out]
        go_wp2_with fail
        go_ret
        exact ⟨by rw [HR.out]; rfl, m + n, by first | rfl | (simp only [World.drewN_drewN])⟩
      · have HD : Hid (decide (M.getD k [] = l) = false) := by show _ = _; simpa using he
        have HE := Lib.hid he
        clear he
        go_wp2_with fail
        refine (ints_any (w := w.drewN m) HY.out H2.out).mono ?_
        rintro e w2 ⟨rfl, n, rfl⟩
        rw [HD.out]
        go_wp2_with fail
        go_roundg (M.length - k)
        case measure => have := HKG.out; omega
        case rel => exact ⟨k + 1, m + n, by omega, by omega, by go_num, by first | rfl | (simp only [World.drewN_drewN]), fun j hj => by
          by_cases e : j = k
          · subst e; exact HE.out
          · exact HNO.out j (by omega)⟩
    · obtain rfl : k = M.length := by omega
      have HR : Hid (decide (l ∈ M) = false) := by
        show _ = _
        simp only [decide_eq_false_iff_not]
        intro hm
        obtain ⟨j, hj⟩ := List.getElem?_of_mem hm
        refine HNO.out j (List.getElem?_eq_some_iff.1 hj).1 ?_
        rw [List.getD_eq_getElem?_getD, hj]; rfl
      go_wp2_with fail
      go_ret
      exact ⟨by rw [HR.out]; rfl, m, rfl⟩

theorem matEq {M N : List (List Int)} (hl : M.length = N.length) (h : ∀ j, j < M.length → M.getD j [] = N.getD j []) : M = N := by
  apply List.ext_getElem hl
  intro j h1 h2
  have := h j h1
  simpa [List.getD_eq_getElem?_getD, h1, h2] using this

set_option maxHeartbeats 2000000 in
set_option maxRecDepth 100000 in
theorem rows_any {w : World} {v x : Value} {M N : List (List Int)} (h1 : Mat w v M) (h2 : Mat w x N) :
    Calls Try.prog 21 #[v, x] w fun e w' => e = .returned (.bool (decide (M = N))) ∧ ∃ m, w' = w.drewN m := by
  have H1 := Lib.hid h1
  have H2 := Lib.hid h2
  obtain ⟨a1, cap1, rfl, hl1, -⟩ := h1
  obtain ⟨a2, cap2, rfl, hl2, -⟩ := h2
  unfold maxLen at hl1 hl2
  by_cases hl : M.length = N.length
  · have e0 : ((M.length : Int) != (N.length : Int)) = false := by simp; omega
    go_enter Try.func21, Try.ntmps21
    go_wp2_with fail
    go_loopg [5] (M.length + 1) (fun g i wr => ∃ k m : Nat, k ≤ M.length ∧ k + g = M.length + 1 ∧ i = .int .i64 k ∧ wr = w.drewN m ∧ ∀ j, j < k → M.getD j [] = N.getD j [])
    case atStart => exact ⟨0, 0, by omega, by omega, rfl, rfl, fun j hj => by omega⟩
    case round =>
      obtain ⟨k, m, hk, hkg, rfl, rfl, hsame⟩ := hrel
      have HKG := Lib.hid hkg
      have HSM := Lib.hid hsame
      clear hkg hsame
      by_cases hkn : k < M.length
      · have hkI : (k : Int) < M.length := by omega
        have hkJ : (k : Int) < N.length := by omega
        obtain ⟨a1', cap1', e1, -, hx1⟩ := H1.out
        obtain ⟨b1, o1, y1, rfl, -, c1, hy1⟩ := hx1 k hkn
        cases e1
        obtain ⟨a2', cap2', e2, -, hx2⟩ := H2.out
        obtain ⟨b2, o2, y2, rfl, -, c2, hy2⟩ := hx2 k (by omega)
        cases e2
        clear hx1 hx2
        have HY1 := Lib.hid hy1
        have HY2 := Lib.hid hy2
        clear hy1 hy2
        by_cases hxy : M.getD k [] = N.getD k []
        · have HD : Hid (decide (M.getD k [] = N.getD k []) = true) := by show _ = _; simpa using hxy
          have HE := Lib.hid hxy
          clear hxy
          go_wp2_with fail
          go_quiet ((go_at_call 20; exact ints_qq HY1.out HY2.out HD.out))
          go_wp2_with fail
          go_roundg (M.length - k)
          case measure => have := HKG.out; omega
          case rel => exact ⟨k + 1, m + nq, by omega, by omega, by go_num, by first | rfl | (simp only [World.drewN_drewN]), fun j hj => by
            by_cases e : j = k
            · subst e; exact HE.out
            · exact HSM.out j (by omega)⟩
        · have HD : Hid (decide (M.getD k [] = N.getD k []) = false) := by show _ = _; simpa using hxy
          have HN : Hid (decide (M = N) = false) := by
            show _ = _
            simp only [decide_eq_false_iff_not]
            intro e
            subst e
            exact hxy rfl
          clear hxy
          go_wp2_with fail
          go_quiet ((go_at_call 20; exact ints_qq HY1.out HY2.out HD.out))
          go_wp2_with fail
          go_ret
          exact ⟨by rw [HN.out]; rfl, m + nq, by first | rfl | (simp only [World.drewN_drewN])⟩
      · obtain rfl : k = M.length := by omega
        have HN : Hid (decide (M = N) = true) := by
          show _ = _
          simp only [decide_eq_true_eq]
          exact matEq hl HSM.out
        go_wp2_with fail
        go_ret
        exact ⟨by rw [HN.out]; rfl, m, rfl⟩
  · have e0 : ((M.length : Int) != (N.length : Int)) = true := by simp; omega
    have HN : Hid (decide (M = N) = false) := by
      show _ = _
      simp only [decide_eq_false_iff_not]
      intro e
      exact hl (congrArg List.length e)
    go_enter Try.func21, Try.ntmps21
    go_wp2_with fail
    go_ret
    exact ⟨by rw [HN.out]; rfl, 0, rfl⟩
end Go.Proofs.Ytimbdjmplcgilaa.SortFn
namespace Go.Proofs.Ytimbdjmplcgilaa.Sc
open Go.RowKit Pr
set_option linter.unusedVariables false

theorem belowL_drop {a b : List Int} {k : Nat} (ha : k < a.length) (hb : k < b.length) : belowL (a.drop k) (b.drop k) = if a.getD k 0 = b.getD k 0 then belowL (a.drop (k + 1)) (b.drop (k + 1)) else decide (a.getD k 0 < b.getD k 0) := by
  rw [List.drop_eq_getElem_cons ha, List.drop_eq_getElem_cons hb, belowL]
  have e1 : a.getD k 0 = a[k] := by simp [List.getD_eq_getElem?_getD, ha]
  have e2 : b.getD k 0 = b[k] := by simp [List.getD_eq_getElem?_getD, hb]
  rw [e1, e2]
theorem belowL_out {a b : List Int} {k : Nat} (h : ¬ (k < a.length ∧ k < b.length)) : belowL (a.drop k) (b.drop k) = false := by
  by_cases ha : k < a.length
  · rw [List.drop_eq_getElem_cons ha, List.drop_of_length_le (show b.length ≤ k by omega), belowL]
    intro _ _ _ _ _ e; cases e
  · rw [List.drop_of_length_le (show a.length ≤ k by omega), belowL]
    intro _ _ _ _ e; cases e

set_option maxHeartbeats 2000000 in
set_option maxRecDepth 100000 in
theorem below_any {w : World} {v1 v2 : Value} {a b : List Int} (h1 : Nums w v1 a) (h2 : Nums w v2 b) :
    Calls Try.prog 18 #[v1, v2] w fun e w' => e = .returned (.bool (belowL a b)) ∧ ∃ m, w' = w.drewN m := by
  have H1 := Lib.hid h1
  have H2 := Lib.hid h2
  obtain ⟨a1, cap1, rfl, hl1, -⟩ := h1
  obtain ⟨a2, cap2, rfl, hl2, -⟩ := h2
  unfold maxLen at hl1 hl2
  go_enter Try.func18, Try.ntmps18
  go_wp2_with fail
  go_loopg [5] (a.length + 1) (fun g i wr => ∃ k m : Nat, k ≤ a.length ∧ k + g = a.length + 1 ∧ i = .int .i64 k ∧ wr = w.drewN m ∧ belowL a b = belowL (a.drop k) (b.drop k))
  case atStart => exact ⟨0, 0, by omega, by omega, rfl, rfl, by simp⟩
  case round =>
    obtain ⟨k, m, hk, hkg, rfl, rfl, hs⟩ := hrel
    have HKG := Lib.hid hkg
    have HS := Lib.hid hs
    clear hkg hs
    by_cases hkn : k < a.length
    · have hkI : (k : Int) < a.length := by omega
      by_cases hkm : k < b.length
      · have hkJ : (k : Int) < b.length := by omega
        obtain ⟨a1', cap1', e1, -, hx1⟩ := H1.out
        obtain ⟨b1, o1, rfl, -, c1⟩ := hx1 k hkn
        cases e1
        obtain ⟨a2', cap2', e2, -, hx2⟩ := H2.out
        obtain ⟨b2, o2, rfl, -, c2⟩ := hx2 k hkm
        cases e2
        clear hx1 hx2
        have hd := belowL_drop hkn hkm
        obtain ⟨x, hx⟩ : ∃ x, a.getD k 0 = x := ⟨_, rfl⟩
        obtain ⟨y, hy⟩ : ∃ y, b.getD k 0 = y := ⟨_, rfl⟩
        rw [hx] at c1
        rw [hy] at c2
        rw [hx, hy] at hd
        have HD := Lib.hid hd
        clear hx hy hd
        by_cases hxy : x = y
        · have e1 : (x != y) = false := by simp [hxy]
          have HE : Hid (belowL a b = belowL (a.drop (k + 1)) (b.drop (k + 1))) := by show _ = _; rw [HS.out, HD.out, if_pos hxy]
          clear hxy
          go_wp2_with fail
          go_quiet (fail)
          go_wp2_with fail
          go_roundg (a.length - k)
          case measure => have := HKG.out; omega
          case rel => exact ⟨k + 1, m + nq, by omega, by omega, by go_num, by first | rfl | (simp only [World.drewN_drewN]), HE.out⟩
        · have e1 : (x != y) = true := by simpa using hxy
          have HE : Hid (belowL a b = decide (x < y)) := by show _ = _; rw [HS.out, HD.out, if_neg hxy]
          clear hxy
          by_cases hlt : x < y
          · have HR : Hid (belowL a b = true) := by show _ = _; rw [HE.out]; simpa using hlt
            go_wp2_with fail
            go_quiet (fail)
            go_wp2_with fail
            go_quiet (fail)
            go_wp2_with fail
            go_ret
            exact ⟨by rw [HR.out]; rfl, by first | exact ⟨_, rfl⟩ | exact ⟨_, World.drewN_drewN _ _ _⟩ | exact ⟨_, (congrArg (fun x : World => x.drewN _) (World.drewN_drewN _ _ _)).trans (World.drewN_drewN _ _ _)⟩⟩
          · have HR : Hid (belowL a b = false) := by show _ = _; rw [HE.out]; simpa using hlt
            have e2 : decide (x < y) = false := by simpa using hlt
            clear hlt
            go_wp2_with fail
            go_quiet (fail)
            go_wp2_with fail
            go_quiet (fail)
            go_wp2_with fail
            go_ret
            exact ⟨by rw [HR.out]; rfl, by first | exact ⟨_, rfl⟩ | exact ⟨_, World.drewN_drewN _ _ _⟩ | exact ⟨_, (congrArg (fun x : World => x.drewN _) (World.drewN_drewN _ _ _)).trans (World.drewN_drewN _ _ _)⟩⟩
      · have hkJ : decide ((k : Int) < b.length) = false := by simp; omega
        have HR : Hid (belowL a b = false) := by show _ = _; rw [HS.out, belowL_out (by omega)]
        go_wp2_with fail
        go_ret
        exact ⟨by rw [HR.out]; rfl, m, rfl⟩
    · have hkI : decide ((k : Int) < a.length) = false := by simp; omega
      have HR : Hid (belowL a b = false) := by show _ = _; rw [HS.out, belowL_out (by omega)]
      go_wp2_with fail
      go_ret
      exact ⟨by rw [HR.out]; rfl, m, rfl⟩
end Go.Proofs.Ytimbdjmplcgilaa.Sc
