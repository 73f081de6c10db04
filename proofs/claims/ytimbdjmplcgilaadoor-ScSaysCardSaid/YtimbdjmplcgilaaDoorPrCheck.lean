import Derived.Test.YtimbdjmplcgilaaDoorPrLine
import Derived.Deep.CutRange
namespace Go.Proofs.YtimbdjmplcgilaaDoor.Pr
open Go.RowKit
set_option linter.unusedVariables false

/-- The box that a program lies in. -/
structure CBox (w wx : World) (words : Int) (u : Value) : Prop where
  bel : Below w.heap.size w wx
  size : w.heap.size + 1 ≤ wx.heap.size
  box : Blk wx w.heap.size #[.int .i64 words, u] 24
theorem cbox (w : World) (words : Int) (u : Value) : CBox w (w.alloc (.cells #[.int .i64 words, u] 24)) words u :=
  ⟨(Below.refl _ _).alloc (Nat.le_refl _) _, by simp, Blk.new _ _ _⟩
theorem CBox.below {w wx w' : World} {words : Int} {u : Value} (h : CBox w wx words u) (k : Below wx.heap.size wx w') : CBox w w' words u :=
  ⟨h.bel.trans (k.mono (by have := h.size; omega)), Nat.le_trans h.size k.size, h.box.below k (by have := h.size; omega)⟩
theorem CBox.alloc {w wx : World} {words : Int} {u : Value} (h : CBox w wx words u) (o : Obj) : CBox w (wx.alloc o) words u := h.below ((Below.refl _ _).alloc (Nat.le_refl _) o)

theorem checkHands_drop {words : Int} {p : List (List Ln)} {i : Nat} (h : i < p.length) : checkHands words (p.drop i) = if 5 < (lines p i).length then 4 else if (lines p i).any (bad words) then 1 else checkHands words (p.drop (i + 1)) := by
  have e : lines p i = p[i] := by simp [lines, List.getD_eq_getElem?_getD, h]
  rw [List.drop_eq_getElem_cons h, checkHands, e]

set_option maxHeartbeats 4000000 in
set_option maxRecDepth 100000 in
theorem check_any {w : World} {words : Int} {u : Value} {p : List (List Ln)} (hp : IsProg w u p) :
    Calls Tryd.prog 23 #[.agg #[.int .i64 words, u]] w fun e w' => e = .returned (errVal (check words p)) ∧ Below w.heap.size w w' := by
  have HP := Lib.hid hp
  have HC := Lib.hid (cbox w words u)
  obtain ⟨a, cap, rfl, hl, -⟩ := hp
  unfold maxLen at hl
  by_cases hw : 1 ≤ words ∧ words ≤ 4
  · have HW := Lib.hid hw
    clear hw
    go_enter Tryd.func23, Tryd.ntmps23
    go_wp2_with fail
    generalize w.alloc (.cells #[.int .i64 words, .slice a p.length cap] 24) = wx at HC ⊢
    have b0 : wx.cell? ⟨w.heap.size, 0, none⟩ = some (.int .i64 words) := HC.out.box.cell 0
    have b1 : wx.cell? ⟨w.heap.size, 1, none⟩ = some (.slice a p.length cap) := HC.out.box.cell 1
    go_wp2_with fail
    refine (within_yes HW.out.1 HW.out.2).mono ?_
    rintro e wi ⟨rfl, rfl⟩
    by_cases h0 : p.length = 0
    · have hch : check words p = 5 := by
        have := HW.out
        unfold check; rw [if_neg (by simpa using this), if_pos (by simpa using h0)]
      have HCH := Lib.hid hch
      rw [h0] at b1
      clear hch
      go_wp2_with fail
      go_ret
      exact ⟨by rw [HCH.out]; rfl, HC.out.bel⟩
    · have z0 : ((p.length : Int) == 0) = false := beq_eq_false_iff_ne.mpr (by omega)
      have HN0 := Lib.hid h0
      clear h0
      by_cases h3 : 3 < p.length
      · have hch : check words p = 4 := by
          have := HW.out
          have := HN0.out
          unfold check; rw [if_neg (by simpa using HW.out), if_neg (by intro e; simp [e] at this), if_pos h3]
        have h3I : (3 : Int) < p.length := by omega
        have HCH := Lib.hid hch
        clear hch
        go_wp2_with fail
        go_ret
        exact ⟨by rw [HCH.out]; rfl, HC.out.bel⟩
      · have hch : check words p = checkHands words p := by
          have := HW.out
          have := HN0.out
          unfold check; rw [if_neg (by simpa using HW.out), if_neg (by intro e; simp [e] at this), if_neg h3]
        have h3I : decide ((3 : Int) < p.length) = false := by simp; omega
        have HCH := Lib.hid hch
        clear hch
        go_wp2_with fail
        go_loopg [26] (p.length + 1) (fun g i wr => ∃ k : Nat, k ≤ p.length ∧ k + g = p.length + 1 ∧ i = .int .i64 k ∧ CBox w wr words (.slice a p.length cap) ∧ check words p = checkHands words (p.drop k))
        case atStart => exact ⟨0, by omega, by omega, rfl, HC.out, by simpa using HCH.out⟩
        case round =>
          clear HC HCH b0 b1
          obtain ⟨k, hk, hkg, rfl, hC, hch⟩ := hrel
          have HC := Lib.hid hC
          have HCH := Lib.hid hch
          have HKG := Lib.hid hkg
          clear hC hch hkg
          by_cases hkn : k < p.length
          · have hknI : (k : Int) < p.length := by omega
            obtain ⟨a', cap', e1, hl', hx⟩ := HP.out
            obtain ⟨b, o, rfl, hb, x, hc, hH⟩ := hx k hkn
            cases e1
            obtain ⟨a2, cap2, rfl, hl2, hj2⟩ := hH
            have HJ := Lib.hid hj2
            have c0 : wr.cell? ⟨b, o + k, none⟩ = some (.slice a2 (lines p k).length cap2) := by rw [HC.out.bel.cell (p := ⟨b, o + k, none⟩) hb]; exact hc
            clear hx hc hj2 hl'
            unfold maxLen at hl2
            obtain ⟨ls, hls⟩ : ∃ ls, lines p k = ls := ⟨_, rfl⟩
            rw [hls] at c0 hl2
            have hcd := checkHands_drop (words := words) hkn
            rw [hls] at hcd HJ
            have HCD := Lib.hid hcd
            clear hcd hls
            by_cases h5 : 5 < ls.length
            · have h5I : (5 : Int) < ls.length := by omega
              go_wp2_with fail
              go_ret
              exact ⟨by rw [HCH.out, HCD.out, if_pos h5]; rfl, HC.out.bel⟩
            · have h5I : decide ((5 : Int) < ls.length) = false := by simp; omega
              go_wp2_with fail
              go_loopg [36] (ls.length + 1) (fun g i wr => ∃ j : Nat, j ≤ ls.length ∧ j + g = ls.length + 1 ∧ i = .int .i64 j ∧ CBox w wr words (.slice (some ⟨b, o, none⟩) p.length cap) ∧ ls.any (bad words) = (ls.drop j).any (bad words))
              case atStart => exact ⟨0, by omega, by omega, rfl, HC.out, by simp⟩
              case round =>
                clear HC c0
                obtain ⟨j, hj, hjg, rfl, hC, han⟩ := hrel
                have HC := Lib.hid hC
                have HAN := Lib.hid han
                have HJG := Lib.hid hjg
                clear hC han hjg
                by_cases hjn : j < ls.length
                · have hjnI : (j : Int) < ls.length := by omega
                  obtain ⟨b2, o2, rfl, hb2, x0, x1, x2, x3⟩ := HJ.out j hjn
                  rw [← HC.out.bel.cell (p := ⟨b2, _, none⟩) hb2] at x0 x1 x2 x3
                  have hdr : (ls.drop j).any (bad words) = (bad words (ls.getD j Ln.zero) || (ls.drop (j + 1)).any (bad words)) := by
                    rw [List.drop_eq_getElem_cons hjn, List.any_cons]; simp [List.getD_eq_getElem?_getD, hjn]
                  obtain ⟨l, hl⟩ : ∃ l, ls.getD j Ln.zero = l := ⟨_, rfl⟩
                  rw [hl] at x0 x1 x2 x3 hdr
                  have HDR := Lib.hid hdr
                  clear hl hdr
                  go_upto_region 15 with fail
                  have hC2 := HC.out.alloc (.cells #[.int .i64 l.k, .int .i64 l.r, .int .i64 l.w, .int .i64 l.v] 40)
                  have hN := Blk.new wr #[.int .i64 l.k, .int .i64 l.r, .int .i64 l.w, .int .i64 l.v] 40
                  clear HC x0 x1 x2 x3
                  generalize wr.alloc (.cells #[.int .i64 l.k, .int .i64 l.r, .int .i64 l.w, .int .i64 l.v] 40) = wy at hC2 hN ⊢
                  have b0 : wy.cell? ⟨w.heap.size, 0, none⟩ = some (.int .i64 words) := hC2.box.cell 0
                  have b1 : wy.cell? ⟨w.heap.size, 1, none⟩ = some (.slice (some ⟨b, o, none⟩) p.length cap) := hC2.box.cell 1
                  have l0 : wy.cell? ⟨wr.heap.size, 0, none⟩ = some (.int .i64 l.k) := hN.cell 0
                  have l1 : wy.cell? ⟨wr.heap.size, 1, none⟩ = some (.int .i64 l.r) := hN.cell 1
                  have l2 : wy.cell? ⟨wr.heap.size, 2, none⟩ = some (.int .i64 l.w) := hN.cell 2
                  have l3 : wy.cell? ⟨wr.heap.size, 3, none⟩ = some (.int .i64 l.v) := hN.cell 3
                  have HC := Lib.hid hC2
                  clear hC2 hN
                  go_wp2_with fail
                  refine (line_any (l := l) HW.out).mono ?_
                  rintro e wz ⟨rfl, hbz⟩
                  replace HC := Lib.hid (HC.out.below hbz)
                  clear hbz b0 b1 l0 l1 l2 l3
                  cases hb : bad words l with
                  | true =>
                    have HB := Lib.hid hb
                    clear hb
                    simp only [if_true, errVal, show (1 : Int) ≠ 0 by decide, if_false]
                    go_wp2_with fail
                    go_ret
                    exact ⟨by rw [HCH.out, HCD.out, if_neg h5, if_pos (by rw [HAN.out, HDR.out, HB.out]; rfl)]; rfl, HC.out.bel⟩
                  | false =>
                    have HB := Lib.hid hb
                    clear hb
                    simp only [Bool.false_eq_true, if_false, errVal, if_true]
                    go_wp2_with fail
                    go_roundg (ls.length - j)
                    case measure => have := HJG.out; omega
                    case rel => exact ⟨j + 1, by omega, by omega, by go_num, HC.out, by rw [HAN.out, HDR.out, HB.out]; simp⟩
                · obtain rfl : j = ls.length := by omega
                  go_wp2_with fail
                  go_roundg (p.length - k)
                  case measure => have := HKG.out; omega
                  case rel => exact ⟨k + 1, by omega, by omega, by go_num, HC.out, by rw [HCH.out, HCD.out, if_neg h5, if_neg (by rw [HAN.out]; simp)]⟩
          · obtain rfl : k = p.length := by omega
            go_wp2_with fail
            go_ret
            exact ⟨by rw [HCH.out]; simp [checkHands]; rfl, HC.out.bel⟩
  · have HW := Lib.hid (show words < 1 ∨ 4 < words by omega)
    have HCH : Hid (check words p = 1) := by unfold check; rw [if_pos hw]; exact rfl
    clear hw
    go_enter Tryd.func23, Tryd.ntmps23
    go_wp2_with fail
    generalize w.alloc (.cells #[.int .i64 words, .slice a p.length cap] 24) = wx at HC ⊢
    have b0 : wx.cell? ⟨w.heap.size, 0, none⟩ = some (.int .i64 words) := HC.out.box.cell 0
    go_wp2_with fail
    refine (within_no HW.out).mono ?_
    rintro e wi ⟨rfl, rfl⟩
    go_wp2_with fail
    go_ret
    exact ⟨by rw [HCH.out]; rfl, HC.out.bel⟩
end Go.Proofs.YtimbdjmplcgilaaDoor.Pr
