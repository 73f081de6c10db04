import Derived.Test.YtimbdjmplcgilaaTsFact
namespace Go.Proofs.Ytimbdjmplcgilaa.Tso
open Go.RowKit Pr SortFn
set_option linter.unusedVariables false

set_option maxHeartbeats 4000000 in
set_option maxRecDepth 100000 in
theorem law_more {w : World} {words : Int} {u : Value} {p : List (List Ln)} (hp : IsProg w u p) :
    Calls Try.prog 8 #[.agg #[.int .i64 words, u]] w fun e w' => e = .returned (.bool true) ∧ Below w.heap.size w w' := by
  have HP := Lib.hid hp
  have HC := Lib.hid (cbox w words u)
  obtain ⟨a, cap, rfl, hl, -⟩ := hp
  unfold maxLen at hl
  go_enter Try.func8, Try.ntmps8
  go_upto_region 1 with fail
  generalize w.alloc (.cells #[.int .i64 words, .slice a p.length cap] 26) = wx at HC ⊢
  go_wp2_with fail
  refine tsoFact_any.mono ?_
  rintro e w1 ⟨rfl, hb1⟩
  replace HC := Lib.hid (HC.out.below hb1)
  clear hb1
  have b0 : w1.cell? ⟨w.heap.size, 0, none⟩ = some (.int .i64 words) := HC.out.box.cell 0
  have b1 : w1.cell? ⟨w.heap.size, 1, none⟩ = some (.slice a p.length cap) := HC.out.box.cell 1
  go_wp2_with fail
  refine (Sc.results_any (HP.out.below HC.out.bel)).mono ?_
  rintro e w2 ⟨hT, hb2⟩
  replace HC := Lib.hid (HC.out.below hb2)
  clear b0 b1 hb2
  have b0 : w2.cell? ⟨w.heap.size, 0, none⟩ = some (.int .i64 words) := HC.out.box.cell 0
  have b1 : w2.cell? ⟨w.heap.size, 1, none⟩ = some (.slice a p.length cap) := HC.out.box.cell 1
  by_cases hc : check words p = 0
  · obtain ⟨ar, cr, R, rfl, hM, hR, hlen⟩ := sc_good hT hc
    have HCK := Lib.hid hc
    have HM := Lib.hid hM
    have HR := Lib.hid hR
    clear hc hT hM hR
    go_wp2_with fail
    refine (results_any (HP.out.below HC.out.bel)).mono ?_
    rintro e w3 ⟨hT, hb⟩
    replace HC := Lib.hid (HC.out.below hb)
    replace HM := Lib.hid (HM.out.below hb)
    clear b0 b1 hb
    obtain ⟨as2, cs2, S, rfl, hM2, hS, hlen2⟩ := ts_good hT HCK.out
    have HM2 := Lib.hid hM2
    have HF := Lib.hid (fine_of HCK.out)
    have HMORE := Lib.hid (res_more HF.out HR.out hS)
    have HONE : Hid (p.length ≤ 1 → S.length = R.length) := fun h1 => by rw [res_quiet HF.out (alone_quiet h1) HR.out hS]
    have HN3 : Hid (p.length ≤ 3) := HF.out.n.2
    clear hT hM2 hS HR HCK HF
    go_wp2_with fail
    go_loopg [8] (R.length + 1) (fun g i wr => ∃ k q : Nat, k ≤ R.length ∧ k + g = R.length + 1 ∧ i = .int .i64 k ∧ wr = w3.drewN q)
    case atStart => exact ⟨0, 0, by omega, by omega, rfl, rfl⟩
    case round =>
      obtain ⟨k, q, hle, hg, rfl, rfl⟩ := hrel
      have HG := Lib.hid hg
      clear hg
      by_cases hkn : k < R.length
      · have hkI : (k : Int) < R.length := by omega
        obtain ⟨a1, cap1, e1, -, hx1⟩ := HM.out
        obtain ⟨b1, o1, y1, rfl, -, c1, hy1⟩ := hx1 k hkn
        cases e1
        clear hx1
        have HY := Lib.hid hy1
        have c2 : (w3.drewN q).cell? ⟨b1, o1 + k, none⟩ = some y1 := c1
        have HD : Hid (decide (R.getD k [] ∈ S) = true) := by
          show _ = _
          simp only [decide_eq_true_eq]
          refine HMORE.out.1 _ ?_
          rw [List.getD_eq_getElem?_getD, List.getElem?_eq_getElem hkn]
          exact List.getElem_mem _
        clear hy1 c1
        go_wp2_with fail
        refine (has_any (w := w3.drewN q) (HM2.out.drewN q) HY.out).mono ?_
        rintro e w5 ⟨rfl, m, rfl⟩
        rw [HD.out]
        go_wp2_with fail
        go_roundg (R.length + 1 - (k + 1))
        case measure => have := HG.out; omega
        case rel => exact ⟨k + 1, q + m, by omega, by omega, by go_num, by first | rfl | exact World.drewN_drewN _ _ _⟩
      · obtain rfl : k = R.length := by omega
        have hge : (R.length : Int) ≤ S.length := by have := HMORE.out.2; omega
        have b1 : (w3.drewN q).cell? ⟨w.heap.size, 1, none⟩ = some (.slice a p.length cap) := HC.out.box.cell 1
        by_cases h1 : p.length ≤ 1
        · have he : S.length = R.length := HONE.out h1
          have h1I : decide ((1 : Int) < p.length) = false := by simp; omega
          have heI : ((S.length : Int) == (R.length : Int)) = true := by simp; omega
          clear hge
          have hge : (R.length : Int) ≤ S.length := by omega
          go_wp2_with fail
          go_ret
          exact ⟨rfl, Below.todrewN HC.out.bel q⟩
        · have h1I : (1 : Int) < p.length := by omega
          go_wp2_with fail
          go_ret
          exact ⟨rfl, Below.todrewN HC.out.bel q⟩
  · obtain rfl := sc_bad hT hc
    have HCK := Lib.hid hc
    clear hc hT
    go_wp2_with fail
    refine (results_any (HP.out.below HC.out.bel)).mono ?_
    rintro e w3 ⟨hT, hb⟩
    replace HC := Lib.hid (HC.out.below hb)
    obtain rfl := ts_bad hT HCK.out
    clear b0 b1 hb hT
    go_wp2_with fail
    go_ret
    exact ⟨rfl, HC.out.bel⟩
end Go.Proofs.Ytimbdjmplcgilaa.Tso
