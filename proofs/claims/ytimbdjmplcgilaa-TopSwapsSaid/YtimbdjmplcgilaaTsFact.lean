import Derived.Test.YtimbdjmplcgilaaTsWalk
import Derived.Test.YtimbdjmplcgilaaTsDek
import Derived.Test.YtimbdjmplcgilaaScFact
namespace Go.Proofs.Ytimbdjmplcgilaa.Tso
open Go.RowKit Pr SortFn
set_option linter.unusedVariables false

/-! What is told, by whether the program is one. -/
theorem sc_bad {words : Int} {p : List (List Ln)} {w w' : World} {e : Ending} (h : Sc.Told words p w w' e) (hc : check words p ≠ 0) : e = .returned (.tuple #[.slice none 0 0, .iface 81 (.int .i64 (check words p))]) := by
  cases h with
  | err h => rfl
  | ok h => exact absurd h hc
theorem sc_good {words : Int} {p : List (List Ln)} {w w' : World} {e : Ending} (h : Sc.Told words p w w' e) (hc : check words p = 0) : ∃ a cap R, e = .returned (.tuple #[.slice a R.length cap, .nilIface]) ∧ Mat w' (.slice a R.length cap) R ∧ Sc.Res words p R ∧ R.length ≤ 21523360 := by
  cases h with
  | err h => exact absurd hc h
  | @ok v R h hM hR hl =>
    obtain ⟨a, cap, rfl, h2⟩ := hM
    exact ⟨a, cap, R, rfl, ⟨a, cap, rfl, h2⟩, hR, hl⟩
theorem races_bad {words : Int} {p : List (List Ln)} {e : Ending} (h : Sc.RTold words p e) (hc : check words p ≠ 0) : e = .returned (.tuple #[.bool false, .iface 81 (.int .i64 (check words p))]) := by
  cases h with
  | err h => rfl
  | yes h hy => exact absurd h hc
  | no h hn => exact absurd h hc
theorem races_good {words : Int} {p : List (List Ln)} {e : Ending} (h : Sc.RTold words p e) (hc : check words p = 0) {r : Bool} (hr : r = true ↔ Sc.Races p) : e = .returned (.tuple #[.bool r, .nilIface]) := by
  cases h with
  | err h => exact absurd hc h
  | yes h hy => rw [hr.2 hy]
  | no h hn =>
    cases r with
    | true => exact absurd (hr.1 rfl) hn
    | false => rfl
theorem ts_bad {words : Int} {p : List (List Ln)} {w w' : World} {e : Ending} (h : Told words p w w' e) (hc : check words p ≠ 0) : e = .returned (.tuple #[.slice none 0 0, .iface 81 (.int .i64 (check words p))]) := by
  cases h with
  | err h => rfl
  | ok h => exact absurd h hc
theorem ts_good {words : Int} {p : List (List Ln)} {w w' : World} {e : Ending} (h : Told words p w w' e) (hc : check words p = 0) : ∃ a cap R, e = .returned (.tuple #[.slice a R.length cap, .nilIface]) ∧ Mat w' (.slice a R.length cap) R ∧ Res words p R ∧ R.length ≤ 72832127856 := by
  cases h with
  | err h => exact absurd hc h
  | @ok v R h hM hR hl =>
    obtain ⟨a, cap, rfl, h2⟩ := hM
    exact ⟨a, cap, R, rfl, ⟨a, cap, rfl, h2⟩, hR, hl⟩
theorem races_bool (p : List (List Ln)) : ∃ r : Bool, (r = true ↔ Sc.Races p) := by
  by_cases h : Sc.Races p
  · exact ⟨true, by simp [h]⟩
  · exact ⟨false, by simp [h]⟩

set_option maxHeartbeats 4000000 in
set_option maxRecDepth 100000 in
theorem tsoFact_any {w : World} : Calls Try.prog 16 #[] w fun e w' => e = .returned (.bool true) ∧ Below w.heap.size w w' := by
  go_enter Try.func16, Try.ntmps16
  go_wp2_with fail
  refine dekker_any.mono ?_
  rintro e w1 ⟨u, rfl, hp, hb⟩
  have HP := Lib.hid hp
  have HB := Lib.hid hb
  clear hp hb
  go_wp2_with fail
  refine (results_any HP.out).mono ?_
  rintro e w2 ⟨hT, hb2⟩
  obtain ⟨a1, c1, R, rfl, hM, hR, -⟩ := ts_good hT Sc.dk_check
  have hR' := dk_res hR
  subst hR'
  have HM := Lib.hid hM
  replace HB := Lib.hid (HB.out.trans (hb2.mono HB.out.size))
  clear hT hM hR hb2 HP
  go_wp2_with fail
  refine dekkerF_any.mono ?_
  rintro e w3 ⟨u, rfl, hp, hb⟩
  have HP := Lib.hid hp
  replace HM := Lib.hid (HM.out.below hb)
  replace HB := Lib.hid (HB.out.trans (hb.mono HB.out.size))
  clear hp hb
  go_wp2_with fail
  refine (results_any HP.out).mono ?_
  rintro e w4 ⟨hT, hb⟩
  obtain ⟨a2, c2, R, rfl, hM, hR, -⟩ := ts_good hT dkf_check
  have hR' := dkf_res hR
  subst hR'
  have HN := Lib.hid hM
  replace HM := Lib.hid (HM.out.below hb)
  replace HB := Lib.hid (HB.out.trans (hb.mono HB.out.size))
  clear hT hM hR hb HP
  simp only [List.length_cons, List.length_nil] at HM HN ⊢
  go_wp2_with fail
  refine Sc.both_any.mono ?_
  rintro e w5 ⟨a3, c3, rfl, hn, hb⟩
  replace HM := Lib.hid (HM.out.below hb)
  replace HN := Lib.hid (HN.out.below hb)
  replace HB := Lib.hid (HB.out.trans (hb.mono HB.out.size))
  have HX := Lib.hid hn
  clear hn hb
  go_wp2_with fail
  refine (has_any HM.out HX.out).mono ?_
  rintro e w6 ⟨rfl, m, rfl⟩
  have ed : decide ([1, 0, 1, 0, 1, 1] ∈ [[1, 0, 1, 0, 1, 1], [1, 0, 1, 1, 1, 1], [1, 1, 1, 0, 1, 1], [(1 : Int), 1, 1, 1, 1, 1]]) = true := by decide
  rw [ed]
  replace HB : Hid (Below w.heap.size w (w5.drewN m)) := Below.todrewN HB.out m
  replace HN := Lib.hid (HN.out.drewN m)
  clear ed HM HX
  generalize w5.drewN m = w7 at HB HN ⊢
  go_wp2_with fail
  refine Sc.both_any.mono ?_
  rintro e w8 ⟨a4, c4, rfl, hn, hb⟩
  replace HN := Lib.hid (HN.out.below hb)
  replace HB := Lib.hid (HB.out.trans (hb.mono HB.out.size))
  have HX := Lib.hid hn
  clear hn hb
  go_wp2_with fail
  refine (has_any HN.out HX.out).mono ?_
  rintro e w9 ⟨rfl, m, rfl⟩
  have ed : decide ([1, 0, 1, 0, 1, 1] ∈ [[1, 0, 1, 1, 1, 1], [1, 1, 1, 0, 1, 1], [(1 : Int), 1, 1, 1, 1, 1]]) = false := by decide
  rw [ed]
  go_wp2_with fail
  go_ret
  exact ⟨rfl, Below.todrewN HB.out m⟩
end Go.Proofs.Ytimbdjmplcgilaa.Tso
