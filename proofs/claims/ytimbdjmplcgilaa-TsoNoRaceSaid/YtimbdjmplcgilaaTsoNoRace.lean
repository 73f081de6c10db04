import Derived.Test.YtimbdjmplcgilaaTsFact
namespace Go.Proofs.Ytimbdjmplcgilaa.Tso
open Go.RowKit Pr SortFn
set_option linter.unusedVariables false

set_option maxHeartbeats 4000000 in
set_option maxRecDepth 100000 in
theorem law_norace {w : World} {words : Int} {u : Value} {p : List (List Ln)} (hp : IsProg w u p) :
    Calls Try.prog 10 #[.agg #[.int .i64 words, u]] w fun e w' => e = .returned (.bool true) ∧ Below w.heap.size w w' := by
  have HP := Lib.hid hp
  have HC := Lib.hid (cbox w words u)
  obtain ⟨a, cap, rfl, hl, -⟩ := hp
  unfold maxLen at hl
  go_enter Try.func10, Try.ntmps10
  go_upto_region 1 with fail
  generalize w.alloc (.cells #[.int .i64 words, .slice a p.length cap] 26) = wx at HC ⊢
  go_wp2_with fail
  refine tsoFact_any.mono ?_
  rintro e w1 ⟨rfl, hb1⟩
  replace HC := Lib.hid (HC.out.below hb1)
  clear hb1
  have b0 : w1.cell? ⟨w.heap.size, 0, none⟩ = some (.int .i64 words) := HC.out.box.cell 0
  have b1 : w1.cell? ⟨w.heap.size, 1, none⟩ = some (.slice a p.length cap) := HC.out.box.cell 1
  go_wp2_with fail
  refine (Sc.races_any (HP.out.below HC.out.bel)).mono ?_
  rintro e w2 ⟨hT, hb2⟩
  replace HC := Lib.hid (HC.out.below hb2)
  clear b0 b1 hb2
  have b0 : w2.cell? ⟨w.heap.size, 0, none⟩ = some (.int .i64 words) := HC.out.box.cell 0
  have b1 : w2.cell? ⟨w.heap.size, 1, none⟩ = some (.slice a p.length cap) := HC.out.box.cell 1
  by_cases hc : check words p = 0
  · obtain ⟨r, hr⟩ := races_bool p
    obtain rfl := races_good hT hc hr
    have HCK := Lib.hid hc
    have HRA := Lib.hid hr
    clear hc hT hr
    go_wp2_with fail
    refine (Sc.results_any (HP.out.below HC.out.bel)).mono ?_
    rintro e w3 ⟨hT, hb⟩
    replace HC := Lib.hid (HC.out.below hb)
    clear b0 b1 hb
    obtain ⟨ar, cr, R, rfl, hM, hR, hlen⟩ := sc_good hT HCK.out
    have HM := Lib.hid hM
    have HR := Lib.hid hR
    clear hT hM hR
    have b0 : w3.cell? ⟨w.heap.size, 0, none⟩ = some (.int .i64 words) := HC.out.box.cell 0
    have b1 : w3.cell? ⟨w.heap.size, 1, none⟩ = some (.slice a p.length cap) := HC.out.box.cell 1
    go_wp2_with fail
    refine (results_any (HP.out.below HC.out.bel)).mono ?_
    rintro e w4 ⟨hT, hb⟩
    replace HC := Lib.hid (HC.out.below hb)
    replace HM := Lib.hid (HM.out.below hb)
    clear b0 b1 hb
    obtain ⟨as2, cs2, S, rfl, hM2, hS, hlen2⟩ := ts_good hT HCK.out
    have HM2 := Lib.hid hM2
    have HEQ : Hid (r = false → decide (R = S) = true) := fun h => by
      have hn : ¬ Sc.Races p := fun hy => by have := HRA.out.2 hy; rw [h] at this; cases this
      simpa using res_quiet (fine_of HCK.out) hn HR.out hS
    clear hT hM2 hS HR HCK HRA
    cases r with
    | true =>
      go_wp2_with fail
      go_ret
      exact ⟨rfl, HC.out.bel⟩
    | false =>
      have HD := Lib.hid (HEQ.out rfl)
      clear HEQ
      go_wp2_with fail
      refine (rows_any HM.out HM2.out).mono ?_
      rintro e w5 ⟨rfl, m, rfl⟩
      rw [HD.out]
      go_wp2_with fail
      go_ret
      exact ⟨rfl, Below.todrewN HC.out.bel m⟩
  · obtain rfl := races_bad hT hc
    have HCK := Lib.hid hc
    clear hc hT
    go_wp2_with fail
    refine (Sc.results_any (HP.out.below HC.out.bel)).mono ?_
    rintro e w3 ⟨hT, hb⟩
    replace HC := Lib.hid (HC.out.below hb)
    obtain rfl := sc_bad hT HCK.out
    clear b0 b1 hb hT
    have b0 : w3.cell? ⟨w.heap.size, 0, none⟩ = some (.int .i64 words) := HC.out.box.cell 0
    have b1 : w3.cell? ⟨w.heap.size, 1, none⟩ = some (.slice a p.length cap) := HC.out.box.cell 1
    go_wp2_with fail
    refine (results_any (HP.out.below HC.out.bel)).mono ?_
    rintro e w4 ⟨hT, hb⟩
    replace HC := Lib.hid (HC.out.below hb)
    obtain rfl := ts_bad hT HCK.out
    clear b0 b1 hb hT
    go_wp2_with fail
    go_ret
    exact ⟨rfl, HC.out.bel⟩
end Go.Proofs.Ytimbdjmplcgilaa.Tso
