import Derived.Test.YtimbdjmplcgilaaDek
import Derived.Test.YtimbdjmplcgilaaTsFactP
namespace Go.Proofs.Ytimbdjmplcgilaa.Tso
open Go.RowKit Pr
set_option linter.unusedVariables false

set_option maxHeartbeats 2000000 in
set_option maxRecDepth 100000 in
theorem sideF_any {w : World} {mine : Int} (hm : 0 ≤ mine ∧ mine ≤ 1) :
    Calls Try.prog 39 #[.int .i64 mine, .bool true] w fun e w' => ∃ g cap, e = .returned (.slice (some ⟨g, 0, none⟩) 4 cap) ∧ w.heap.size ≤ g ∧ g < w'.heap.size ∧ HandAt w' (.slice (some ⟨g, 0, none⟩) 4 cap) (sideF mine) ∧ Below w.heap.size w w' := by
  obtain ⟨i0, hi, hz0, hz1, hz2⟩ := info_parts infoLine
  have HO : Hid (((w.alloc (.cells #[.int .i64 0, .int .i64 0, .int .i64 0, .int .i64 1, .int .i64 2, .int .i64 0, .int .i64 mine, .int .i64 0] 44)).alloc (.cells #[.int .i64 4, .int .i64 0, .int .i64 0, .int .i64 0] 44)).ownsRow w.heap.size 44 4 (.slice (some ⟨w.heap.size, 0, none⟩) 2 2) 2 (handCells [⟨0, 0, 0, 1⟩, ⟨2, 0, mine, 0⟩])) :=
    ⟨rfl, .inr ⟨w.heap.size, 2, #[.int .i64 0, .int .i64 0, .int .i64 0, .int .i64 1, .int .i64 2, .int .i64 0, .int .i64 mine, .int .i64 0], rfl, Nat.le_refl _, (Blk.new w #[.int .i64 0, .int .i64 0, .int .i64 0, .int .i64 1, .int .i64 2, .int .i64 0, .int .i64 mine, .int .i64 0] 44).alloc _, Nat.le_refl _, by unfold maxLen; omega, rfl, rfl⟩⟩
  have HN : Hid (∀ j u, (lnCells ⟨4, 0, 0, 0⟩)[j]? = some u → ((w.alloc (.cells #[.int .i64 0, .int .i64 0, .int .i64 0, .int .i64 1, .int .i64 2, .int .i64 0, .int .i64 mine, .int .i64 0] 44)).alloc (.cells #[.int .i64 4, .int .i64 0, .int .i64 0, .int .i64 0] 44)).cell? (Addr.add ⟨w.heap.size + 1, 0, none⟩ j) = some u) := by
    intro j u hu
    have := news_cell (w.alloc (.cells #[.int .i64 0, .int .i64 0, .int .i64 0, .int .i64 1, .int .i64 2, .int .i64 0, .int .i64 mine, .int .i64 0] 44)) (lnCells ⟨4, 0, 0, 0⟩) 44 j u hu
    simpa [lnCells] using this
  have H1 : Hid (∀ u ∈ lnCells ⟨4, 0, 0, 0⟩, u.oneCell' = true) := by intro u hu; simp [lnCells] at hu; rcases hu with rfl | rfl <;> rfl
  have HB : Hid (w.heap.size ≤ ((w.alloc (.cells #[.int .i64 0, .int .i64 0, .int .i64 0, .int .i64 1, .int .i64 2, .int .i64 0, .int .i64 mine, .int .i64 0] 44)).alloc (.cells #[.int .i64 4, .int .i64 0, .int .i64 0, .int .i64 0] 44)).heap.size) := by show _ ≤ _; simp; omega
  have HW : Hid (Below w.heap.size w ((w.alloc (.cells #[.int .i64 0, .int .i64 0, .int .i64 0, .int .i64 1, .int .i64 2, .int .i64 0, .int .i64 mine, .int .i64 0] 44)).alloc (.cells #[.int .i64 4, .int .i64 0, .int .i64 0, .int .i64 0] 44))) := ((Below.refl _ _).alloc (Nat.le_refl _) _).alloc (by simp) _
  go_enter Try.func39, Try.ntmps39
  go_wp2_with (at_builtin; refine wpList_append_own _ rfl _ _ 22 rfl w.heap.size 44 i0 (.agg #[.int .i64 0, .int .i64 0, .int .i64 0, .int .i64 0]) 4 32 Try.underlying22 hi hz0 hz1 hz2 rfl (by decide) _ 2 (handCells [⟨0, 0, 0, 1⟩, ⟨2, 0, mine, 0⟩]) rfl HO.out ⟨w.heap.size + 1, 0, none⟩ 1 1 (lnCells ⟨4, 0, 0, 0⟩) rfl rfl HN.out H1.out ?c1 ?c2 HB.out ?_)
  case c1 => unfold maxLen; omega
  case c2 => omega
  intro v1 w1 hown1 hgrow1 _
  have hbel1 := HW.out.grown hgrow1 HB.out (own_base HO.out)
  obtain ⟨g1, cap1, cur1, rfl, -, -⟩ := own_slice hown1 (by simp)
  have HO1 : Hid (w1.ownsRow w.heap.size 44 4 (.slice (some ⟨g1, 0, none⟩) 3 cap1) 3 (handCells [⟨0, 0, 0, 1⟩, ⟨2, 0, mine, 0⟩, ⟨4, 0, 0, 0⟩])) := hown1
  have HBL1 := Lib.hid hbel1
  clear hown1 hgrow1 hbel1 HO HN H1 HB HW
  have HO2 : Hid ((w1.alloc (.cells #[.int .i64 1, .int .i64 1, .int .i64 (1 - mine), .int .i64 0] 44)).ownsRow w.heap.size 44 4 (.slice (some ⟨g1, 0, none⟩) 3 cap1) 3 (handCells [⟨0, 0, 0, 1⟩, ⟨2, 0, mine, 0⟩, ⟨4, 0, 0, 0⟩])) := HO1.out.alloc _
  have HN : Hid (∀ j u, (lnCells ⟨1, 1, 1 - mine, 0⟩)[j]? = some u → (w1.alloc (.cells #[.int .i64 1, .int .i64 1, .int .i64 (1 - mine), .int .i64 0] 44)).cell? (Addr.add ⟨w1.heap.size, 0, none⟩ j) = some u) := by
    intro j u hu
    have := news_cell w1 (lnCells ⟨1, 1, 1 - mine, 0⟩) 44 j u hu
    simpa [lnCells] using this
  have H1 : Hid (∀ u ∈ lnCells ⟨1, 1, 1 - mine, 0⟩, u.oneCell' = true) := by intro u hu; simp [lnCells] at hu; rcases hu with rfl | rfl | rfl <;> rfl
  have HB : Hid (w.heap.size ≤ (w1.alloc (.cells #[.int .i64 1, .int .i64 1, .int .i64 (1 - mine), .int .i64 0] 44)).heap.size) := by have := HBL1.out.size; show _ ≤ _; simp; omega
  have HW : Hid (Below w.heap.size w (w1.alloc (.cells #[.int .i64 1, .int .i64 1, .int .i64 (1 - mine), .int .i64 0] 44))) := HBL1.out.alloc HBL1.out.size _
  go_wp2_with (at_builtin; refine wpList_append_own _ rfl _ _ 22 rfl w.heap.size 44 i0 (.agg #[.int .i64 0, .int .i64 0, .int .i64 0, .int .i64 0]) 4 32 Try.underlying22 hi hz0 hz1 hz2 rfl (by decide) _ 3 (handCells [⟨0, 0, 0, 1⟩, ⟨2, 0, mine, 0⟩, ⟨4, 0, 0, 0⟩]) rfl HO2.out ⟨w1.heap.size, 0, none⟩ 1 1 (lnCells ⟨1, 1, 1 - mine, 0⟩) rfl rfl HN.out H1.out ?c3 ?c4 HB.out ?_)
  case c3 => unfold maxLen; omega
  case c4 => omega
  intro v' w2 hown hgrow _
  have hbel := HW.out.grown hgrow HB.out (own_base HO2.out)
  obtain ⟨hh, hg⟩ := own_hand (ls := sideF mine) (base := w.heap.size) hown (by simp [sideF]) (by simp [sideF, maxLen])
  obtain ⟨g, cap, cur, rfl, -, -⟩ := own_slice hown (by simp)
  have HH := Lib.hid hh
  have HG := Lib.hid (hg g rfl)
  clear hg
  have HBL := Lib.hid hbel
  clear hbel hh hown hgrow HO1 HO2 HN H1 HB HW hi hz0 hz1 hz2
  go_wp2_with fail
  go_ret
  exact ⟨g, cap, rfl, HG.out.1, HG.out.2, HH.out, HBL.out⟩
set_option maxHeartbeats 2000000 in
set_option maxRecDepth 100000 in
theorem dekkerF_any {w : World} :
    Calls Try.prog 22 #[.bool true, .bool true] w fun e w' => ∃ u, e = .returned (.agg #[.int .i64 2, u]) ∧ IsProg w' u dkf ∧ Below w.heap.size w w' := by
  have hB := Blk.new w #[.int .i64 0, .slice none 0 0] 26
  have hW : Below w.heap.size w (w.alloc (.cells #[.int .i64 0, .slice none 0 0] 26)) := (Below.refl _ _).alloc (Nat.le_refl _) _
  have hS : w.heap.size < (w.alloc (.cells #[.int .i64 0, .slice none 0 0] 26)).heap.size := by simp
  have HB := Lib.hid hB
  have HW := Lib.hid hW
  have HS := Lib.hid hS
  clear hB hW hS
  go_enter Try.func22, Try.ntmps22
  go_wp2_with fail
  generalize w.alloc (.cells #[.int .i64 0, .slice none 0 0] 26) = wx at HB HW HS ⊢
  have HS0 := HS
  refine (sideF_any (mine := 0) (by omega)).mono ?_
  rintro e w1 ⟨g1, cap1, rfl, hg1, hg1', hh1, hb1⟩
  replace HB := Lib.hid (HB.out.below hb1 HB.out.lt)
  replace HW := Lib.hid (HW.out.trans (hb1.mono HW.out.size))
  replace HS : Hid (w.heap.size < w1.heap.size) := Nat.lt_of_lt_of_le HS.out hb1.size
  have HH1 := Lib.hid hh1
  have hg1 : w.heap.size < g1 := by have := HW.out; have := HS0.out; omega
  clear hb1 hh1
  go_wp2_with fail
  have HS1 := HS
  refine (sideF_any (mine := 1) (by omega)).mono ?_
  rintro e w2 ⟨g2, cap2, rfl, hg2, hg2', hh2, hb2⟩
  replace HB := Lib.hid (HB.out.below hb2 HB.out.lt)
  replace HW := Lib.hid (HW.out.trans (hb2.mono HW.out.size))
  replace HS : Hid (w.heap.size < w2.heap.size) := Nat.lt_of_lt_of_le HS.out hb2.size
  replace HH1 := Lib.hid (HH1.out.below hb2)
  have HH2 := Lib.hid hh2
  have hg2 : w.heap.size < g2 := by have := HS1.out; omega
  clear hb2 hh2
  have hB3 := HB.out.alloc (.cells #[.slice (some ⟨g1, 0, none⟩) 4 cap1, .slice (some ⟨g2, 0, none⟩) 4 cap2] 22)
  have hb3 : Below w2.heap.size w2 (w2.alloc (.cells #[.slice (some ⟨g1, 0, none⟩) 4 cap1, .slice (some ⟨g2, 0, none⟩) 4 cap2] 22)) := (Below.refl _ _).alloc (Nat.le_refl _) _
  have hN3 := Blk.new w2 #[.slice (some ⟨g1, 0, none⟩) 4 cap1, .slice (some ⟨g2, 0, none⟩) 4 cap2] 22
  have q0 : (w2.alloc (.cells #[.slice (some ⟨g1, 0, none⟩) 4 cap1, .slice (some ⟨g2, 0, none⟩) 4 cap2] 22)).cell? ⟨w.heap.size, 0, none⟩ = some (.int .i64 0) := hB3.cell 0
  have q1 : (w2.alloc (.cells #[.slice (some ⟨g1, 0, none⟩) 4 cap1, .slice (some ⟨g2, 0, none⟩) 4 cap2] 22)).cell? ⟨w.heap.size, 1, none⟩ = some (.slice none 0 0) := hB3.cell 1
  have f0 := hB3.free 0
  have f1 := hB3.free 1
  have HB3 := Lib.hid hB3
  have HBB := Lib.hid hb3
  have HN3 := Lib.hid hN3
  clear hB3 hb3 hN3
  go_wp2_with fail
  generalize w2.alloc (.cells #[.slice (some ⟨g1, 0, none⟩) 4 cap1, .slice (some ⟨g2, 0, none⟩) 4 cap2] 22) = w3 at HB3 HBB HN3 q0 q1 f0 f1 ⊢
  have kF := (HB3.out.set 0 (.int .i64 2)).set 1 (.slice (some ⟨w2.heap.size, 0, none⟩) 2 2)
  have hb4 : Below w.heap.size w ((w3.setCell ⟨w.heap.size, 0, none⟩ (.int .i64 2)).setCell ⟨w.heap.size, 1, none⟩ (.slice (some ⟨w2.heap.size, 0, none⟩) 2 2)) :=
    ((HW.out.trans (HBB.out.mono (by have := HS.out; omega))).setCell (p := ⟨w.heap.size, 0, none⟩) (Nat.le_refl _) _).setCell (p := ⟨w.heap.size, 1, none⟩) (Nat.le_refl _) _
  have hs := HS.out
  have k1 := ((HH1.out.below HBB.out).put (c := w.heap.size) (by omega) 0 (.int .i64 2)).put (c := w.heap.size) (by omega) 1 (.slice (some ⟨w2.heap.size, 0, none⟩) 2 2)
  have k2 := ((HH2.out.below HBB.out).put (c := w.heap.size) (by omega) 0 (.int .i64 2)).put (c := w.heap.size) (by omega) 1 (.slice (some ⟨w2.heap.size, 0, none⟩) 2 2)
  have hne : w.heap.size ≠ w2.heap.size := by omega
  have kN := (HN3.out.other hne 0 (.int .i64 2)).other hne 1 (.slice (some ⟨w2.heap.size, 0, none⟩) 2 2)
  refine ret_prog rfl rfl (kF.cell 0) (kF.cell 1) rfl ⟨_, rfl, ⟨_, 2, rfl, by simp [dkf, maxLen], fun h hh => ?_⟩, hb4⟩
  refine ⟨w2.heap.size, 0, rfl, kN.lt, ?_⟩
  obtain rfl | rfl : h = 0 ∨ h = 1 := by have : h < 2 := hh; omega
  · exact ⟨_, kN.cell 0, k1⟩
  · exact ⟨_, kN.cell 1, k2⟩

end Go.Proofs.Ytimbdjmplcgilaa.Tso
