import Derived.Test.YtimbdjmplcgilaaDoorRfDone
import Derived.Test.YtimbdjmplcgilaaDoorRfW
namespace Go.Proofs.YtimbdjmplcgilaaDoor.Rf
open Go.RowKit Pr
set_option linter.unusedVariables false
set_option linter.unusedSimpArgs false

/-- Amid: a state in new memory. -/
structure MX (w : World) (G : Nat) (F : St) (wz : World) : Prop where
  bel : Below w.heap.size w wz
  ge : w.heap.size ≤ G
  row : Row wz G 46 (fun j => j) F
theorem MX.set {w wz : World} {G : Nat} {F : St} (h : MX w G F wz) {i : Nat} (hi : i < 46) (x : Int) : MX w G (upd F i x) (wz.setCell ⟨G, i, none⟩ (.int .i64 x)) :=
  ⟨h.bel.setCell (p := ⟨G, i, none⟩) h.ge _, h.ge, Row.set h.row hi (fun j _ e => e) x⟩
theorem MX.drewN {w wz : World} {G : Nat} {F : St} (h : MX w G F wz) (m : Nat) : MX w G F (wz.drewN m) := ⟨Below.todrewN h.bel m, h.ge, h.row⟩
theorem MX.drew {w wz : World} {G : Nat} {F : St} (h : MX w G F wz) : MX w G F wz.drew := ⟨Below.todrewN h.bel 1, h.ge, h.row⟩
theorem MX.lt {w wz : World} {G : Nat} {F : St} (h : MX w G F wz) : G < wz.heap.size := World.block_lt_of_cell? (w := wz) (a := ⟨G, 0, none⟩) (h.row 0 (by omega)).1
theorem MX.got {w wz : World} {G cap : Nat} {F F' : St} (h : MX w G F wz) (hc : 46 ≤ cap) (he : ∀ j, j < 46 → F j = F' j) : Got F' w (.slice (some ⟨G, 0, none⟩) 46 cap) wz :=
  ⟨G, cap, rfl, hc, h.ge, h.lt, h.row.eq he⟩
theorem MX.c {w wz : World} {G : Nat} {F : St} (h : MX w G F wz) {i : Nat} (hi : i < 46) : wz.cell? ⟨G, i, none⟩ = some (.int .i64 (F i)) := (h.row i hi).1
theorem MX.f {w wz : World} {G : Nat} {F : St} (h : MX w G F wz) {i : Nat} (hi : i < 46) : wz.frozen? ⟨G, i, none⟩ = false := (h.row i hi).2
/-- The numbers that wait moved up, the first i of them. -/
def rshift (F : St) (o : Nat) (i : Nat) : St := fun j => if o < j ∧ j < o + i then F (j + 2) else F j
theorem rshift_one (F : St) (o : Nat) : rshift F o 1 = F := by
  funext j; unfold rshift; rw [if_neg (by omega)]
theorem rshift_next (F : St) (o : Nat) {i : Nat} (hi : 1 ≤ i) : upd (rshift F o i) (o + i) (rshift F o i (o + i + 2)) = rshift F o (i + 1) := by
  funext j
  unfold rshift upd
  by_cases h : j = o + i
  · subst h
    rw [if_pos rfl, if_neg (by omega), if_pos (by omega)]
  · rw [if_neg h]
    by_cases h2 : o < j ∧ j < o + i
    · simp only; rw [if_pos h2, if_pos (by omega)]
    · simp only; rw [if_neg h2, if_neg (by omega)]

set_option maxHeartbeats 2000000 in
set_option maxRecDepth 100000 in
theorem come_any {w : World} {h wd : Nat} {v : Value} {f : St} (hv : RV w v f) (h3 : h < 3) (hw : wd < 4) (hf : f (13 + h * 11 + 1) = (wd : Int)) (hm : 1 ≤ f (13 + h * 11) ∧ f (13 + h * 11) ≤ 5) :
    Calls Tryd.prog 19 #[v, .int .i64 h] w fun e w' => ∃ x, e = .returned x ∧ Got (rcome f h) w x w' ∧ Below w.heap.size w w' := by
  have HV := Lib.hid hv
  obtain ⟨g, cap, rfl, hc, hg, hrow⟩ := hv
  clear hrow hg hc
  have h3I : (h : Int) < 3 := by omega
  have hwI : (wd : Int) < 4 := by omega
  go_enter Tryd.func19, Tryd.ntmps19
  go_wp2_with fail
  refine (copied_any HV.out).mono ?_
  rintro e w1 ⟨x, rfl, ⟨G, capG, rfl, hcG, hG1, hG2, hrow⟩, hb1⟩
  have HD := Lib.hid (show MX w G f w1 from ⟨hb1, hG1, hrow⟩)
  clear hrow hG1 hG2 hb1 HV
  have m1 := HD.out.c (i := 13 + h * 11 + 1) (by omega)
  rw [hf] at m1
  have m2 := HD.out.c (i := 13 + h * 11 + 2) (by omega)
  have n0 := HD.out.f (i := 9 + wd) (by omega)
  have n9 := HD.out.c (i := 9 + wd) (by omega)
  go_upto_region 4 with fail
  go_region
  go_upto_region 4 with fail
  have hD2 := (HD.out.set (i := 9 + wd) (by omega) (f (13 + h * 11 + 2))).drew
  clear m1 m2 n0 n9 HD
  generalize (w1.setCell ⟨G, 9 + wd, none⟩ (.int .i64 (f (13 + h * 11 + 2)))).drew = w2 at hD2 ⊢
  obtain ⟨F1, hF1⟩ : ∃ F1, upd f (9 + wd) (f (13 + h * 11 + 2)) = F1 := ⟨_, rfl⟩
  rw [hF1] at hD2
  have HF1 := Lib.hid hF1
  have HD : Hid (MX w G (rshift F1 (13 + h * 11) 1) w2) := by rw [← rshift_one F1 (13 + h * 11)] at hD2; exact hD2
  clear hF1 hD2
  go_wp2_with fail
  go_loopg [6] 10 (fun g s6 wr => ∃ i : Nat, s6 = .int .i64 i ∧ 1 ≤ i ∧ i ≤ 9 ∧ i + g = 11 ∧ MX w G (rshift F1 (13 + h * 11) i) wr)
  case atStart => exact ⟨1, rfl, by omega, by omega, by omega, HD.out⟩
  case round =>
    clear HD
    obtain ⟨i, rfl, hi1, hi9, hig, hD⟩ := hrel
    have HD := Lib.hid hD
    have HIG := Lib.hid hig
    clear hD hig
    by_cases hin : i < 9
    · have hiI : (i : Int) + 2 < 11 := by omega
      have m1 := HD.out.c (i := 13 + h * 11 + i + 2) (by omega)
      have n1 := HD.out.f (i := 13 + h * 11 + i) (by omega)
      have n2 := HD.out.c (i := 13 + h * 11 + i) (by omega)
      have HDN : Hid (MX w G (rshift F1 (13 + h * 11) (i + 1)) (wr.setCell ⟨G, 13 + h * 11 + i, none⟩ (.int .i64 (rshift F1 (13 + h * 11) i (13 + h * 11 + i + 2))))) := by
        have := HD.out.set (i := 13 + h * 11 + i) (by omega) (rshift F1 (13 + h * 11) i (13 + h * 11 + i + 2))
        rw [rshift_next F1 _ hi1] at this
        exact this
      clear HD
      go_wp2_with fail
      go_roundg (11 - (i + 1))
      case measure => have := HIG.out; omega
      case rel => exact ⟨i + 1, by go_num, by omega, by omega, by omega, HDN.out⟩
    · obtain rfl : i = 9 := by omega
      clear HIG hin hi1 hi9
      obtain ⟨F2, hF2⟩ : ∃ F2, rshift F1 (13 + h * 11) 9 = F2 := ⟨_, rfl⟩
      rw [hF2] at HD
      have e0 : F2 (13 + h * 11) = f (13 + h * 11) := by
        rw [← hF2]
        unfold rshift
        rw [if_neg (by omega), ← HF1.out, upd_other (by omega)]
      have HF2 := Lib.hid hF2
      have HE0 := Lib.hid e0
      clear hF2 e0
      have n1 := HD.out.f (i := 13 + h * 11 + 9) (by omega)
      have n2 := HD.out.c (i := 13 + h * 11 + 9) (by omega)
      have n3 := HD.out.f (i := 13 + h * 11 + 10) (by omega)
      have n4 := HD.out.c (i := 13 + h * 11 + 10) (by omega)
      go_upto_region 9 with fail
      replace HD := Lib.hid (HD.out.set (i := 13 + h * 11 + 9) (by omega) 0)
      clear n1 n2 n3 n4
      generalize wr.setCell ⟨G, 13 + h * 11 + 9, none⟩ (.int .i64 0) = w3 at HD ⊢
      have n3 := HD.out.f (i := 13 + h * 11 + 10) (by omega)
      have n4 := HD.out.c (i := 13 + h * 11 + 10) (by omega)
      go_upto_region 10 with fail
      replace HD := Lib.hid (HD.out.set (i := 13 + h * 11 + 10) (by omega) 0)
      clear n3 n4
      generalize w3.setCell ⟨G, 13 + h * 11 + 10, none⟩ (.int .i64 0) = w4 at HD ⊢
      have n5 := HD.out.f (i := 13 + h * 11) (by omega)
      have n6 := HD.out.c (i := 13 + h * 11) (by omega)
      have e6 : upd (upd F2 (13 + h * 11 + 9) 0) (13 + h * 11 + 10) 0 (13 + h * 11) = f (13 + h * 11) := by
        rw [upd_other (by omega), upd_other (by omega)]; exact HE0.out
      rw [e6] at n6
      have hm1 := hm.1
      have hm5 := hm.2
      have HWD := Lib.hid hf
      clear e6 hm hf
      go_wp2_with fail
      go_ret
      have hE := HD.out.set (i := 13 + h * 11) (by omega) (f (13 + h * 11) - 1)
      refine ⟨_, rfl, hE.got hcG (fun j hj => ?_), hE.bel⟩
      have hn : (f (13 + h * 11 + 1)).toNat = wd := by rw [HWD.out]; exact Int.toNat_natCast wd
      unfold rcome
      rw [hn]
      by_cases j0 : j = 13 + h * 11
      · subst j0; rw [upd_same, if_pos rfl]
      · rw [upd_other j0, if_neg j0]
        by_cases j1 : 13 + h * 11 < j ∧ j < 13 + h * 11 + 9
        · rw [if_pos j1, upd_other (by omega), upd_other (by omega), ← HF2.out]
          unfold rshift
          rw [if_pos j1, ← HF1.out, upd_other (by omega)]
        · rw [if_neg j1]
          by_cases j2 : j = 13 + h * 11 + 9 ∨ j = 13 + h * 11 + 10
          · rw [if_pos j2]
            rcases j2 with rfl | rfl
            · rw [upd_other (by omega), upd_same]
            · rw [upd_same]
          · rw [if_neg j2, upd_other (by omega), upd_other (by omega), ← HF2.out]
            unfold rshift
            rw [if_neg j1, ← HF1.out]
            by_cases j3 : j = 9 + wd
            · subst j3; rw [upd_same, if_pos rfl]
            · rw [upd_other j3, if_neg j3]
end Go.Proofs.YtimbdjmplcgilaaDoor.Rf
