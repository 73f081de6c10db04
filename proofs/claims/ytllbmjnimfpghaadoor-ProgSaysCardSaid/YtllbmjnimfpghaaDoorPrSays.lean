import Derived.Test.YtllbmjnimfpghaaDoorRfRun
import Derived.Test.YtllbmjnimfpghaaDoorErrAny
namespace Go.Proofs.YtllbmjnimfpghaaDoor.Rf
open Go.RowKit Pr
set_option linter.unusedVariables false

set_option maxHeartbeats 3000000 in
set_option maxRecDepth 100000 in
theorem law_says {w : World} {words : Int} {u v : Value} {p : List (List Ln)} {z : List Int} (hp : IsProg w u p) (hz : Nums w v z) (hg : TypeLaid w) :
    Calls Tryd.prog 3 #[.agg #[.int .i64 words, u], v] w fun e w' => e = .returned (.bool true) ∧ Below w.heap.size w w' := by
  have HP := Lib.hid hp
  have HZ := Lib.hid hz
  have HG := Lib.hid hg
  have HPO := Lib.hid hg.pos
  have HC := Lib.hid (cbox w words u)
  obtain ⟨a, cap, rfl, hl, -⟩ := hp
  obtain ⟨az, capz, rfl, hlz, -⟩ := hz
  unfold maxLen at hl hlz
  clear hg
  go_enter Tryd.func3, Tryd.ntmps3
  go_upto_region 1 with fail
  generalize w.alloc (.cells #[.int .i64 words, .slice a p.length cap] 24) = wx at HC ⊢
  have b0 : wx.cell? ⟨w.heap.size, 0, none⟩ = some (.int .i64 words) := HC.out.box.cell 0
  have b1 : wx.cell? ⟨w.heap.size, 1, none⟩ = some (.slice a p.length cap) := HC.out.box.cell 1
  have HD : Hid (CBox w wx.drew words (.slice a p.length cap)) := HC.out.below (Below.todrewN (Below.refl _ _) 1)
  go_cut [5] from 10 (fun s5 wz => s5 = .bool true ∧ CBox w wz words (.slice a p.length cap))
  case first =>
    go_region_with (first
      | (go_at_call 5; refine (check_any (HP.out.below HD.out.bel)).mono ?_; rintro e w1 ⟨rfl, hb1⟩; replace HD := Lib.hid (HD.out.below hb1); clear hb1; have b0 := HD.out.box.cell 0; have b1 := HD.out.box.cell 1; simp only [List.getElem?_toArray, List.getElem?_cons_zero, List.getElem?_cons_succ] at b0 b1)
      | (go_at_call 6; refine (prog_any (HP.out.below HD.out.bel)).mono ?_; rintro e w2 ⟨rfl, hb2⟩; replace HD := Lib.hid (HD.out.below hb2); clear hb2; have b0 := HD.out.box.cell 0; have b1 := HD.out.box.cell 1; simp only [List.getElem?_toArray, List.getElem?_cons_zero, List.getElem?_cons_succ] at b0 b1)
      | (go_at_call 4; refine (error_any _ _ (HG.out.below HD.out.bel HPO.out)).mono ?_; rintro e w3 ⟨rfl, hb3⟩; replace HD := Lib.hid (HD.out.below hb3); clear hb3))
    all_goals
      go_wp2_with fail
      go_meet
      exact ⟨rfl, HD.out⟩
  case rest =>
  obtain ⟨rfl, hC⟩ := hcut
  replace HC := Lib.hid hC
  clear hC HD b0 b1
  rename World => w3
  have b0 : w3.cell? ⟨w.heap.size, 0, none⟩ = some (.int .i64 words) := HC.out.box.cell 0
  have b1 : w3.cell? ⟨w.heap.size, 1, none⟩ = some (.slice a p.length cap) := HC.out.box.cell 1
  go_wp2_with fail
  refine (run_any (HP.out.below HC.out.bel) (HZ.out.below HC.out.bel)).mono ?_
  rintro e w4 ⟨hb4, hr⟩
  replace HC := Lib.hid (HC.out.below hb4)
  clear b0 b1 hb4
  have b0 : w4.cell? ⟨w.heap.size, 0, none⟩ = some (.int .i64 words) := HC.out.box.cell 0
  have b1 : w4.cell? ⟨w.heap.size, 1, none⟩ = some (.slice a p.length cap) := HC.out.box.cell 1
  cases hrun : run words p z with
  | inl c2 =>
    rw [hrun] at hr
    simp only at hr
    obtain rfl := hr
    have HRU := Lib.hid hrun
    clear hrun
    go_wp2_with fail
    refine (Pr.run_any (HP.out.below HC.out.bel) (HZ.out.below HC.out.bel)).mono ?_
    rintro e w5 ⟨hb5, hr⟩
    rw [HRU.out] at hr
    simp only at hr
    obtain rfl := hr
    replace HC := Lib.hid (HC.out.below hb5)
    clear b0 b1 hb5
    go_wp2_with fail
    refine (error_any _ c2 (HG.out.below HC.out.bel HPO.out)).mono ?_
    rintro e w6 ⟨rfl, hb6⟩
    replace HC := Lib.hid (HC.out.below hb6)
    clear hb6
    go_wp2_with fail
    refine (ints_same (nums_nil _) (nums_nil _)).mono ?_
    rintro e w7 ⟨rfl, m, rfl⟩
    go_wp2_with fail
    go_ret
    exact ⟨rfl, Below.todrewN HC.out.bel m⟩
  | inr R =>
    rw [hrun] at hr
    simp only at hr
    obtain ⟨x, rfl, hgx⟩ := hr
    have hRl : R.length ≤ maxLen := by
      unfold run at hrun
      split at hrun
      · cases hrun
      · split at hrun
        · cases hrun
        · split at hrun
          · cases hrun
          · rename_i hch _ _ _ _
            have hf := fine_of (words := words) (p := p) (by simpa using hch)
            have := hf.n
            have := hf.w
            have e := Sum.inr.inj hrun
            rw [← e]
            unfold result
            simp only [List.length_append, List.length_map, List.length_range]
            unfold maxLen; omega
    have HNX := Lib.hid (hgx.nums hRl)
    have HRL := Lib.hid hRl
    obtain ⟨ax, cx, rfl, -⟩ := HNX.out
    have HRU := Lib.hid hrun
    clear hrun hgx hRl
    go_wp2_with fail
    refine (Pr.run_any (HP.out.below HC.out.bel) (HZ.out.below HC.out.bel)).mono ?_
    rintro e w5 ⟨hb5, hr⟩
    rw [HRU.out] at hr
    simp only at hr
    obtain ⟨y, rfl, hgy⟩ := hr
    have HNY := Lib.hid (hgy.nums HRL.out)
    obtain ⟨ay, cy, rfl, -⟩ := HNY.out
    replace HC := Lib.hid (HC.out.below hb5)
    replace HNX := Lib.hid (HNX.out.below hb5)
    clear b0 b1 hb5 hgy
    go_wp2_with fail
    refine (error_nil _).mono ?_
    rintro e w6 ⟨rfl, hb6⟩
    replace HC := Lib.hid (HC.out.below hb6)
    replace HNX := Lib.hid (HNX.out.below hb6)
    replace HNY := Lib.hid (HNY.out.below hb6)
    clear hb6
    go_wp2_with fail
    refine (ints_same HNY.out HNX.out).mono ?_
    rintro e w7 ⟨rfl, m, rfl⟩
    go_wp2_with fail
    go_ret
    exact ⟨rfl, Below.todrewN HC.out.bel m⟩
end Go.Proofs.YtllbmjnimfpghaaDoor.Rf
