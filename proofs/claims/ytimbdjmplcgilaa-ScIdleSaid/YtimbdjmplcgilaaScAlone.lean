import Derived.Test.YtimbdjmplcgilaaScFact
namespace Go.Proofs.Ytimbdjmplcgilaa.Sc
open Go.RowKit Pr SortFn
set_option linter.unusedVariables false

/-- A program of one hand, in new memory. -/
theorem prog_one {w : World} {a : Option Addr} {cap : Nat} {ls : List Ln} (h : HandAt w (.slice a ls.length cap) ls) (T : TypeId) : IsProg (w.alloc (.cells #[.slice a ls.length cap] T)) (.slice (some ⟨w.heap.size, 0, none⟩) 1 1) [ls] := by
  refine ⟨_, 1, rfl, by simp [maxLen], fun k hk => ⟨w.heap.size, 0, rfl, by simp, .slice a ls.length cap, ?_, ?_⟩⟩
  · obtain rfl : k = 0 := by simpa using hk
    rw [(Blk.new w #[.slice a ls.length cap] T).cell]; rfl
  · obtain rfl : k = 0 := by simpa using hk
    exact h.below ((Below.refl _ _).alloc (Nat.le_refl _) _)

set_option maxHeartbeats 4000000 in
set_option maxRecDepth 100000 in
theorem law_alone {w : World} {words : Int} {v : Value} {ls : List Ln} (hp : HandAt w v ls) :
    Calls Try.prog 7 #[.int .i64 words, v] w fun e w' => e = .returned (.bool true) ∧ Below w.heap.size w w' := by
  have HP := Lib.hid hp
  obtain ⟨a, cap, rfl, hl, -⟩ := hp
  unfold maxLen at hl
  go_enter Try.func7, Try.ntmps7
  go_wp2_with fail
  refine scFact_any.mono ?_
  rintro e w1 ⟨rfl, hb1⟩
  go_upto_region 5 with fail
  have h1 := prog_one (HP.out.below hb1) 22
  have hb2 : Below w1.heap.size w1 (w1.alloc (.cells #[.slice a ls.length cap] 22)) := (Below.refl _ _).alloc (Nat.le_refl _) _
  generalize hwy : w1.alloc (.cells #[.slice a ls.length cap] 22) = wy at h1 hb2 ⊢
  have hsz : wy.heap.size = w1.heap.size + 1 := by rw [← hwy]; simp
  rw [show w1.heap.size + 1 = wy.heap.size from hsz.symm]
  have HC := Lib.hid (cbox wy words (.slice (some ⟨w1.heap.size, 0, none⟩) 1 1))
  have HB := Lib.hid (hb1.trans (hb2.mono hb1.size))
  have HG := Lib.hid h1
  clear hb1 hb2 h1 hwy hsz
  generalize w1.heap.size = B at HG HC ⊢
  generalize wy.alloc (.cells #[.int .i64 words, .slice (some ⟨B, 0, none⟩) 1 1] 26) = w2 at HC ⊢
  have b0 : w2.cell? ⟨wy.heap.size, 0, none⟩ = some (.int .i64 words) := HC.out.box.cell 0
  have b1 : w2.cell? ⟨wy.heap.size, 1, none⟩ = some (.slice (some ⟨B, 0, none⟩) 1 1) := HC.out.box.cell 1
  go_wp2_with fail
  refine (results_any (HG.out.below HC.out.bel)).mono ?_
  rintro e w3 ⟨hT, hb3⟩
  replace HC := Lib.hid (HC.out.below hb3)
  have HT := Lib.hid hT
  clear b0 b1 hb3 hT
  by_cases hc : check words [ls] = 0
  · obtain ⟨x0, hx0⟩ := run_nil hc
    obtain ⟨v, rfl, HM, HO⟩ : ∃ v, e = .returned (.tuple #[v, .nilIface]) ∧ Hid (Mat w3 v [x0]) ∧ Hid (Ends words [ls] x0) := by
      cases HT.out with
      | err h => exact absurd hc h
      | @ok v R h hM hR hl =>
        have := alone_res hc hR hx0
        subst this
        exact ⟨v, rfl, hM, (hR.mem x0).1 (by simp)⟩
    have HX0 := Lib.hid hx0
    have HCK := Lib.hid hc
    clear HT hx0 hc
    have b0 : w3.cell? ⟨wy.heap.size, 0, none⟩ = some (.int .i64 words) := HC.out.box.cell 0
    have b1 : w3.cell? ⟨wy.heap.size, 1, none⟩ = some (.slice (some ⟨B, 0, none⟩) 1 1) := HC.out.box.cell 1
    obtain ⟨ar, capr, rfl, -, -⟩ := HM.out
    go_wp2_with fail
    refine (races_any (HG.out.below HC.out.bel)).mono ?_
    rintro e w4 ⟨hT, hb4⟩
    cases hT with
    | err h => exact absurd HCK.out h
    | yes h hy => exact absurd hy alone_no
    | no h hn =>
      replace HC := Lib.hid (HC.out.below hb4)
      replace HM := Lib.hid (HM.out.below hb4)
      clear h hn b0 b1 hb4
      have b0 : w4.cell? ⟨wy.heap.size, 0, none⟩ = some (.int .i64 words) := HC.out.box.cell 0
      have b1 : w4.cell? ⟨wy.heap.size, 1, none⟩ = some (.slice (some ⟨B, 0, none⟩) 1 1) := HC.out.box.cell 1
      go_wp2_with fail
      refine (run_any (HG.out.below HC.out.bel) (nums_nil _)).mono ?_
      rintro e w5 ⟨hb5, hr⟩
      rw [HX0.out] at hr
      simp only at hr
      obtain ⟨x, rfl, hg⟩ := hr
      have hal : x0.length ≤ maxLen := by
        have := ends_len HO.out
        have hf := fine_of HCK.out
        have h3 := hf.n
        have h4 := hf.w
        unfold maxLen
        omega
      have HN := Lib.hid (hg.nums hal)
      replace HM := Lib.hid (HM.out.below hb5)
      have HBL := Lib.hid ((HB.out.trans (HC.out.bel.mono HB.out.size)).trans (hb5.mono (Nat.le_trans HB.out.size HC.out.bel.size)))
      obtain ⟨aa, ca, rfl, -⟩ := HN.out
      obtain ⟨a1, cap1, e1, -, hx1⟩ := HM.out
      obtain ⟨b1', o1, y1, rfl, -, c1, hy1⟩ := hx1 0 (by simp)
      cases e1
      rw [Nat.add_zero] at c1
      have HY := Lib.hid hy1
      obtain ⟨a2, cap2, ey, -⟩ := HY.out
      subst ey
      have HD : Hid (decide ([x0].getD 0 [] = x0) = true) := by show _ = _; simp
      clear hx1 hy1 hg hal b0 b1 hb5 HC HG HP
      go_wp2_with fail
      refine (ints_any HY.out HN.out).mono ?_
      rintro e w6 ⟨rfl, m, rfl⟩
      rw [HD.out]
      go_wp2_with fail
      go_ret
      exact ⟨rfl, Below.todrewN HBL.out m⟩
  · obtain ⟨rfl⟩ : e = .returned (.tuple #[.slice none 0 0, .iface 81 (.int .i64 (check words [ls]))]) := by
      cases HT.out with
      | err h => rfl
      | ok h => exact absurd h hc
    have HCK := Lib.hid hc
    clear HT hc
    have b0 : w3.cell? ⟨wy.heap.size, 0, none⟩ = some (.int .i64 words) := HC.out.box.cell 0
    have b1 : w3.cell? ⟨wy.heap.size, 1, none⟩ = some (.slice (some ⟨B, 0, none⟩) 1 1) := HC.out.box.cell 1
    go_wp2_with fail
    refine (races_any (HG.out.below HC.out.bel)).mono ?_
    rintro e w4 ⟨hT, hb4⟩
    cases hT with
    | yes h hy => exact absurd h HCK.out
    | no h hy => exact absurd h HCK.out
    | err h =>
      replace HC := Lib.hid (HC.out.below hb4)
      clear h b0 b1 hb4
      have b0 : w4.cell? ⟨wy.heap.size, 0, none⟩ = some (.int .i64 words) := HC.out.box.cell 0
      have b1 : w4.cell? ⟨wy.heap.size, 1, none⟩ = some (.slice (some ⟨B, 0, none⟩) 1 1) := HC.out.box.cell 1
      go_wp2_with fail
      refine (run_any (HG.out.below HC.out.bel) (nums_nil _)).mono ?_
      rintro e w5 ⟨hb5, hr⟩
      have hrun : run words [ls] [] = .inl (check words [ls]) := by unfold run; rw [if_pos HCK.out]
      rw [hrun] at hr
      simp only at hr
      have ev : errVal (check words [ls]) = .iface 81 (.int .i64 (check words [ls])) := by simp [errVal, HCK.out]
      rw [ev] at hr
      subst hr
      have HBL := Lib.hid ((HB.out.trans (HC.out.bel.mono HB.out.size)).trans (hb5.mono (Nat.le_trans HB.out.size HC.out.bel.size)))
      clear hrun ev b0 b1 hb5 HC HG HP
      go_wp2_with fail
      go_ret
      exact ⟨rfl, HBL.out⟩
end Go.Proofs.Ytimbdjmplcgilaa.Sc
