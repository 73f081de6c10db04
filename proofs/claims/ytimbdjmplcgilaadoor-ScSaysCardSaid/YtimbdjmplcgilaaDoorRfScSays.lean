import Derived.Test.YtimbdjmplcgilaaDoorRfResults
import Derived.Test.YtimbdjmplcgilaaDoorRfRaces
import Derived.Test.YtimbdjmplcgilaaDoorScRaces
import Derived.Test.YtimbdjmplcgilaaDoorSame
import Derived.Test.YtimbdjmplcgilaaDoorTold
namespace Go.Proofs.YtimbdjmplcgilaaDoor.Rf
open Go.RowKit Pr SortFn
set_option linter.unusedVariables false

theorem scT_bad {words : Int} {p : List (List Ln)} {w w' : World} {e : Ending} (h : Sc.Told words p w w' e) (hc : check words p ≠ 0) : e = .returned (.tuple #[.slice none 0 0, .iface 74 (.int .i64 (check words p))]) := by
  cases h with
  | err h => rfl
  | ok h => exact absurd h hc
theorem scT_good {words : Int} {p : List (List Ln)} {w w' : World} {e : Ending} (h : Sc.Told words p w w' e) (hc : check words p = 0) : ∃ a cap R, e = .returned (.tuple #[.slice a R.length cap, .nilIface]) ∧ Mat w' (.slice a R.length cap) R ∧ Sc.Res words p R := by
  cases h with
  | err h => exact absurd hc h
  | @ok v R h hM hR hl =>
    obtain ⟨a, cap, rfl, h2⟩ := hM
    exact ⟨a, cap, R, rfl, ⟨a, cap, rfl, h2⟩, hR⟩
theorem raT_bad {words : Int} {p : List (List Ln)} {e : Ending} (h : Sc.RTold words p e) (hc : check words p ≠ 0) : e = .returned (.tuple #[.bool false, .iface 74 (.int .i64 (check words p))]) := by
  cases h with
  | err h => rfl
  | yes h hy => exact absurd h hc
  | no h hn => exact absurd h hc
theorem raT_good {words : Int} {p : List (List Ln)} {e : Ending} (h : Sc.RTold words p e) (hc : check words p = 0) {r : Bool} (hr : r = true ↔ Sc.Races p) : e = .returned (.tuple #[.bool r, .nilIface]) := by
  cases h with
  | err h => exact absurd hc h
  | yes h hy => rw [hr.2 hy]
  | no h hn =>
    cases r with
    | true => exact absurd (hr.1 rfl) hn
    | false => rfl

set_option maxHeartbeats 4000000 in
set_option maxRecDepth 100000 in
theorem law_sc {w : World} {words : Int} {u : Value} {p : List (List Ln)} (hp : IsProg w u p) (hg : TypeLaid w) :
    Calls Tryd.prog 3 #[.agg #[.int .i64 words, u]] w fun e w' => e = .returned (.bool true) ∧ Below w.heap.size w w' := by
  have HP := Lib.hid hp
  have HG := Lib.hid hg
  have HPO := Lib.hid hg.pos
  have HC := Lib.hid (cbox w words u)
  obtain ⟨a, cap, rfl, hl, -⟩ := hp
  unfold maxLen at hl
  clear hg
  go_enter Tryd.func3, Tryd.ntmps3
  go_upto_region 1 with fail
  generalize w.alloc (.cells #[.int .i64 words, .slice a p.length cap] 24) = wx at HC ⊢
  have b0 : wx.cell? ⟨w.heap.size, 0, none⟩ = some (.int .i64 words) := HC.out.box.cell 0
  have b1 : wx.cell? ⟨w.heap.size, 1, none⟩ = some (.slice a p.length cap) := HC.out.box.cell 1
  go_wp2_with fail
  refine (prog_any (HP.out.below HC.out.bel)).mono ?_
  rintro e w1 ⟨rfl, hb⟩
  replace HC := Lib.hid (HC.out.below hb)
  clear b0 b1 hb
  have b0 : w1.cell? ⟨w.heap.size, 0, none⟩ = some (.int .i64 words) := HC.out.box.cell 0
  have b1 : w1.cell? ⟨w.heap.size, 1, none⟩ = some (.slice a p.length cap) := HC.out.box.cell 1
  by_cases hc : check words p = 0
  · have HCK := Lib.hid hc
    rw [hc]
    clear hc
    go_wp2_with fail
    refine (results_any (W := false) (HP.out.below HC.out.bel) HCK.out).mono ?_
    rintro e w2 ⟨v, R, rfl, hM, hR, hRm, hb⟩
    replace HC := Lib.hid (HC.out.below hb)
    clear b0 b1 hb
    have HM := Lib.hid hM
    obtain ⟨ar, cr, rfl, -⟩ := hM
    have HRS : Hid (Sc.Res words p R) := ⟨hR, fun x => (hRm x).trans (ends_false (fine_of HCK.out))⟩
    clear hR hRm
    have b0 : w2.cell? ⟨w.heap.size, 0, none⟩ = some (.int .i64 words) := HC.out.box.cell 0
    have b1 : w2.cell? ⟨w.heap.size, 1, none⟩ = some (.slice a p.length cap) := HC.out.box.cell 1
    go_wp2_with fail
    refine (races_any (HP.out.below HC.out.bel) HCK.out).mono ?_
    rintro e w3 ⟨r, rfl, hr, hb⟩
    replace HC := Lib.hid (HC.out.below hb)
    replace HM := Lib.hid (HM.out.below hb)
    have HRA := Lib.hid hr
    clear b0 b1 hb hr
    have b0 : w3.cell? ⟨w.heap.size, 0, none⟩ = some (.int .i64 words) := HC.out.box.cell 0
    have b1 : w3.cell? ⟨w.heap.size, 1, none⟩ = some (.slice a p.length cap) := HC.out.box.cell 1
    go_wp2_with fail
    refine (Sc.results_any (HP.out.below HC.out.bel)).mono ?_
    rintro e w4 ⟨hT, hb⟩
    replace HC := Lib.hid (HC.out.below hb)
    replace HM := Lib.hid (HM.out.below hb)
    clear b0 b1 hb
    obtain ⟨as2, cs2, S, rfl, hM2, hS⟩ := scT_good hT HCK.out
    have HM2 := Lib.hid hM2
    have HEQ : Hid (decide (S = R) = true) := by show _ = _; simpa using hS.one HRS.out
    clear hT hM2 hS HRS
    have b0 : w4.cell? ⟨w.heap.size, 0, none⟩ = some (.int .i64 words) := HC.out.box.cell 0
    have b1 : w4.cell? ⟨w.heap.size, 1, none⟩ = some (.slice a p.length cap) := HC.out.box.cell 1
    go_wp2_with fail
    refine (error_nil _).mono ?_
    rintro e w5 ⟨rfl, hb⟩
    replace HC := Lib.hid (HC.out.below hb)
    replace HM := Lib.hid (HM.out.below hb)
    replace HM2 := Lib.hid (HM2.out.below hb)
    clear b0 b1 hb
    go_wp2_with fail
    refine (rows_any HM2.out HM.out).mono ?_
    rintro e w6 ⟨rfl, m, rfl⟩
    replace HC := Lib.hid (HC.out.below (Below.todrewN (Below.refl _ _) m))
    rw [HEQ.out]
    clear HEQ HM HM2
    generalize w5.drewN m = w6 at HC ⊢
    have b0 : w6.cell? ⟨w.heap.size, 0, none⟩ = some (.int .i64 words) := HC.out.box.cell 0
    have b1 : w6.cell? ⟨w.heap.size, 1, none⟩ = some (.slice a p.length cap) := HC.out.box.cell 1
    go_wp2_with fail
    refine (Sc.races_any (HP.out.below HC.out.bel)).mono ?_
    rintro e w7 ⟨hT, hb⟩
    replace HC := Lib.hid (HC.out.below hb)
    obtain rfl := raT_good hT HCK.out HRA.out
    clear b0 b1 hb hT
    go_wp2_with fail
    refine (error_nil _).mono ?_
    rintro e w8 ⟨rfl, hb⟩
    replace HC := Lib.hid (HC.out.below hb)
    clear hb
    cases r with
    | true =>
      go_wp2_with fail
      go_ret
      exact ⟨rfl, HC.out.bel⟩
    | false =>
      go_wp2_with fail
      go_ret
      exact ⟨rfl, HC.out.bel⟩
  · have HCK := Lib.hid hc
    have hne : (check words p == 0) = false := by simpa using hc
    clear hc
    go_wp2_with fail
    refine (Sc.results_any (HP.out.below HC.out.bel)).mono ?_
    rintro e w4 ⟨hT, hb⟩
    replace HC := Lib.hid (HC.out.below hb)
    obtain rfl := scT_bad hT HCK.out
    clear b0 b1 hb hT
    have b0 : w4.cell? ⟨w.heap.size, 0, none⟩ = some (.int .i64 words) := HC.out.box.cell 0
    have b1 : w4.cell? ⟨w.heap.size, 1, none⟩ = some (.slice a p.length cap) := HC.out.box.cell 1
    go_wp2_with fail
    refine (error_c _ _ (HG.out.below HC.out.bel HPO.out)).mono ?_
    rintro e w5 ⟨rfl, hb⟩
    replace HC := Lib.hid (HC.out.below hb)
    clear b0 b1 hb
    go_wp2_with fail
    refine (rows_any (mat_nil _) (mat_nil _)).mono ?_
    rintro e w6 ⟨rfl, m, rfl⟩
    replace HC := Lib.hid (HC.out.below (Below.todrewN (Below.refl _ _) m))
    rw [show decide (([] : List (List Int)) = []) = true by simp]
    generalize w5.drewN m = w6 at HC ⊢
    have b0 : w6.cell? ⟨w.heap.size, 0, none⟩ = some (.int .i64 words) := HC.out.box.cell 0
    have b1 : w6.cell? ⟨w.heap.size, 1, none⟩ = some (.slice a p.length cap) := HC.out.box.cell 1
    go_wp2_with fail
    refine (Sc.races_any (HP.out.below HC.out.bel)).mono ?_
    rintro e w7 ⟨hT, hb⟩
    replace HC := Lib.hid (HC.out.below hb)
    obtain rfl := raT_bad hT HCK.out
    clear b0 b1 hb hT
    go_wp2_with fail
    refine (error_c _ _ (HG.out.below HC.out.bel HPO.out)).mono ?_
    rintro e w8 ⟨rfl, hb⟩
    replace HC := Lib.hid (HC.out.below hb)
    clear hb
    go_wp2_with fail
    go_ret
    exact ⟨rfl, HC.out.bel⟩
end Go.Proofs.YtimbdjmplcgilaaDoor.Rf
