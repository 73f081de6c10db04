import Derived.Test.YtimbdjmplcgilaaDoorRfResults
import Derived.Test.YtimbdjmplcgilaaDoorTsRes
import Derived.Test.YtimbdjmplcgilaaDoorSame
import Derived.Test.YtimbdjmplcgilaaDoorTold
namespace Go.Proofs.YtimbdjmplcgilaaDoor.Rf
open Go.RowKit Pr SortFn
set_option linter.unusedVariables false

theorem tsT_bad {words : Int} {p : List (List Ln)} {w w' : World} {e : Ending} (h : Tso.Told words p w w' e) (hc : check words p ≠ 0) : e = .returned (.tuple #[.slice none 0 0, .iface 74 (.int .i64 (check words p))]) := by
  cases h with
  | err h => rfl
  | ok h => exact absurd h hc
theorem tsT_good {words : Int} {p : List (List Ln)} {w w' : World} {e : Ending} (h : Tso.Told words p w w' e) (hc : check words p = 0) : ∃ a cap R, e = .returned (.tuple #[.slice a R.length cap, .nilIface]) ∧ Mat w' (.slice a R.length cap) R ∧ Tso.Res words p R := by
  cases h with
  | err h => exact absurd hc h
  | @ok v R h hM hR hl =>
    obtain ⟨a, cap, rfl, h2⟩ := hM
    exact ⟨a, cap, R, rfl, ⟨a, cap, rfl, h2⟩, hR⟩

set_option maxHeartbeats 4000000 in
set_option maxRecDepth 100000 in
theorem law_tso {w : World} {words : Int} {u : Value} {p : List (List Ln)} (hp : IsProg w u p) (hg : TypeLaid w) :
    Calls Tryd.prog 4 #[.agg #[.int .i64 words, u]] w fun e w' => e = .returned (.bool true) ∧ Below w.heap.size w w' := by
  have HP := Lib.hid hp
  have HG := Lib.hid hg
  have HPO := Lib.hid hg.pos
  have HC := Lib.hid (cbox w words u)
  obtain ⟨a, cap, rfl, hl, -⟩ := hp
  unfold maxLen at hl
  clear hg
  go_enter Tryd.func4, Tryd.ntmps4
  go_upto_region 1 with fail
  generalize w.alloc (.cells #[.int .i64 words, .slice a p.length cap] 24) = wx at HC ⊢
  have b0 : wx.cell? ⟨w.heap.size, 0, none⟩ = some (.int .i64 words) := HC.out.box.cell 0
  have b1 : wx.cell? ⟨w.heap.size, 1, none⟩ = some (.slice a p.length cap) := HC.out.box.cell 1
  go_wp2_with fail
  refine (prog_any (HP.out.below HC.out.bel)).mono ?_
  rintro e w1 ⟨rfl, hb⟩
  replace HC := Lib.hid (HC.out.below hb)
  clear b0 b1 hb
  have b0 : w1.cell? ⟨w.heap.size, 0, none⟩ = some (.int .i64 words) := HC.out.box.cell 0
  have b1 : w1.cell? ⟨w.heap.size, 1, none⟩ = some (.slice a p.length cap) := HC.out.box.cell 1
  by_cases hc : check words p = 0
  · have HCK := Lib.hid hc
    rw [hc]
    clear hc
    go_wp2_with fail
    refine (results_any (W := true) (HP.out.below HC.out.bel) HCK.out).mono ?_
    rintro e w2 ⟨v, R, rfl, hM, hR, hRm, hb⟩
    replace HC := Lib.hid (HC.out.below hb)
    clear b0 b1 hb
    have HM := Lib.hid hM
    obtain ⟨ar, cr, rfl, -⟩ := hM
    have HRS : Hid (Tso.Res words p R) := ⟨hR, fun x => (hRm x).trans ends_true⟩
    clear hR hRm
    have b0 : w2.cell? ⟨w.heap.size, 0, none⟩ = some (.int .i64 words) := HC.out.box.cell 0
    have b1 : w2.cell? ⟨w.heap.size, 1, none⟩ = some (.slice a p.length cap) := HC.out.box.cell 1
    go_wp2_with fail
    refine (Tso.results_any (HP.out.below HC.out.bel)).mono ?_
    rintro e w4 ⟨hT, hb⟩
    replace HC := Lib.hid (HC.out.below hb)
    replace HM := Lib.hid (HM.out.below hb)
    clear b0 b1 hb
    obtain ⟨as2, cs2, S, rfl, hM2, hS⟩ := tsT_good hT HCK.out
    have HM2 := Lib.hid hM2
    have HEQ : Hid (decide (S = R) = true) := by show _ = _; simpa using hS.one HRS.out
    clear hT hM2 hS HRS
    go_wp2_with fail
    refine (error_nil _).mono ?_
    rintro e w5 ⟨rfl, hb⟩
    replace HC := Lib.hid (HC.out.below hb)
    replace HM := Lib.hid (HM.out.below hb)
    replace HM2 := Lib.hid (HM2.out.below hb)
    clear hb
    go_wp2_with fail
    refine (rows_any HM2.out HM.out).mono ?_
    rintro e w6 ⟨rfl, m, rfl⟩
    rw [HEQ.out]
    go_wp2_with fail
    go_ret
    exact ⟨rfl, Below.todrewN HC.out.bel m⟩
  · have HCK := Lib.hid hc
    have hne : (check words p == 0) = false := by simpa using hc
    clear hc
    go_wp2_with fail
    refine (Tso.results_any (HP.out.below HC.out.bel)).mono ?_
    rintro e w4 ⟨hT, hb⟩
    replace HC := Lib.hid (HC.out.below hb)
    obtain rfl := tsT_bad hT HCK.out
    clear b0 b1 hb hT
    go_wp2_with fail
    refine (error_c _ _ (HG.out.below HC.out.bel HPO.out)).mono ?_
    rintro e w5 ⟨rfl, hb⟩
    replace HC := Lib.hid (HC.out.below hb)
    clear hb
    go_wp2_with fail
    refine (rows_any (mat_nil _) (mat_nil _)).mono ?_
    rintro e w6 ⟨rfl, m, rfl⟩
    rw [show decide (([] : List (List Int)) = []) = true by simp]
    go_wp2_with fail
    go_ret
    exact ⟨rfl, Below.todrewN HC.out.bel m⟩
end Go.Proofs.YtimbdjmplcgilaaDoor.Rf
