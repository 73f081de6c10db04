import Derived.Test.YtimbdjmplcgilaaDoorPrCheck
namespace Go.Proofs.YtimbdjmplcgilaaDoor.Rf
open Go.RowKit Pr
set_option linter.unusedVariables false

theorem in_yes {n l h : Int} {w : World} (h1 : l ≤ n) (h2 : n ≤ h) :
    Calls Tryd.prog 13 #[.int .i64 n, .int .i64 l, .int .i64 h] w fun e w' => e = .returned (.bool true) ∧ w = w' := by
  go_enter Tryd.func13, Tryd.ntmps13
  go_wp2
  go_ret
  exact ⟨rfl, rfl⟩
theorem in_no {n l h : Int} {w : World} (h1 : n < l ∨ h < n) :
    Calls Tryd.prog 13 #[.int .i64 n, .int .i64 l, .int .i64 h] w fun e w' => e = .returned (.bool false) ∧ w = w' := by
  by_cases g : n < l
  · clear h1
    go_enter Tryd.func13, Tryd.ntmps13
    go_wp2
    go_ret
    exact ⟨rfl, rfl⟩
  · have g1 : l ≤ n := by omega
    have g2 : decide (n ≤ h) = false := by simp; omega
    clear h1 g
    go_enter Tryd.func13, Tryd.ntmps13
    go_wp2
    go_ret
    exact ⟨rfl, rfl⟩
theorem touches_yes {l : Ln} {w : World} (h1 : 1 ≤ l.k) (h2 : l.k ≤ 3) :
    Calls Tryd.prog 14 #[.agg #[.int .i64 l.k, .int .i64 l.r, .int .i64 l.w, .int .i64 l.v]] w fun e w' => e = .returned (.bool true) ∧ Below w.heap.size w w' := by
  have HB := Lib.hid ((Below.refl w.heap.size w).alloc (Nat.le_refl _) (.cells #[.int .i64 l.k, .int .i64 l.r, .int .i64 l.w, .int .i64 l.v] 40))
  have c := (Blk.new w #[.int .i64 l.k, .int .i64 l.r, .int .i64 l.w, .int .i64 l.v] 40).cell 0
  go_enter Tryd.func14, Tryd.ntmps14
  go_wp2_with fail
  refine (in_yes h1 h2).mono ?_
  rintro e wi ⟨rfl, rfl⟩
  go_wp2_with fail
  go_ret
  exact ⟨rfl, HB.out⟩
theorem touches_no {l : Ln} {w : World} (h1 : l.k < 1 ∨ 3 < l.k) :
    Calls Tryd.prog 14 #[.agg #[.int .i64 l.k, .int .i64 l.r, .int .i64 l.w, .int .i64 l.v]] w fun e w' => e = .returned (.bool false) ∧ Below w.heap.size w w' := by
  have HB := Lib.hid ((Below.refl w.heap.size w).alloc (Nat.le_refl _) (.cells #[.int .i64 l.k, .int .i64 l.r, .int .i64 l.w, .int .i64 l.v] 40))
  have c := (Blk.new w #[.int .i64 l.k, .int .i64 l.r, .int .i64 l.w, .int .i64 l.v] 40).cell 0
  have H := Lib.hid h1
  clear h1
  go_enter Tryd.func14, Tryd.ntmps14
  go_wp2_with fail
  refine (in_no H.out).mono ?_
  rintro e wi ⟨rfl, rfl⟩
  go_wp2_with fail
  go_ret
  exact ⟨rfl, HB.out⟩

/-- A line in its own box, beside the program's. -/
structure GX (w : World) (words : Int) (u : Value) (c : Nat) (l : Ln) (wz : World) : Prop where
  cb : CBox w wz words u
  ln : Blk wz c #[.int .i64 l.k, .int .i64 l.r, .int .i64 l.w, .int .i64 l.v] 40
theorem GX.new {w wr : World} {words : Int} {u : Value} (h : CBox w wr words u) (l : Ln) : GX w words u wr.heap.size l (wr.alloc (.cells #[.int .i64 l.k, .int .i64 l.r, .int .i64 l.w, .int .i64 l.v] 40)) :=
  ⟨h.alloc _, Blk.new _ _ _⟩
theorem GX.below {w wz w' : World} {words : Int} {u : Value} {c : Nat} {l : Ln} (h : GX w words u c l wz) (k : Below wz.heap.size wz w') : GX w words u c l w' :=
  ⟨h.cb.below k, h.ln.below k h.ln.lt⟩

set_option maxHeartbeats 2000000 in
set_option maxRecDepth 100000 in
theorem prog_any {w : World} {words : Int} {u : Value} {p : List (List Ln)} (hp : IsProg w u p) :
    Calls Tryd.prog 5 #[.agg #[.int .i64 words, u]] w fun e w' => e = .returned (.int .i64 (check words p)) ∧ Below w.heap.size w w' := by
  have HP := Lib.hid hp
  have HC := Lib.hid (cbox w words u)
  obtain ⟨a, cap, rfl, hl, -⟩ := hp
  unfold maxLen at hl
  by_cases hw : 1 ≤ words ∧ words ≤ 4
  · have HW := Lib.hid hw
    clear hw
    go_enter Tryd.func5, Tryd.ntmps5
    go_wp2_with fail
    generalize w.alloc (.cells #[.int .i64 words, .slice a p.length cap] 24) = wx at HC ⊢
    have b0 : wx.cell? ⟨w.heap.size, 0, none⟩ = some (.int .i64 words) := HC.out.box.cell 0
    have b1 : wx.cell? ⟨w.heap.size, 1, none⟩ = some (.slice a p.length cap) := HC.out.box.cell 1
    go_wp2_with fail
    refine (in_yes HW.out.1 HW.out.2).mono ?_
    rintro e wi ⟨rfl, rfl⟩
    by_cases h0 : p.length = 0
    · have hch : check words p = 5 := by
        have := HW.out
        unfold check; rw [if_neg (by simpa using this), if_pos (by simpa using h0)]
      have HCH := Lib.hid hch
      rw [h0] at b1
      clear hch
      go_wp2_with fail
      go_ret
      exact ⟨by rw [HCH.out]; rfl, HC.out.bel⟩
    · have z0 : ((p.length : Int) == 0) = false := beq_eq_false_iff_ne.mpr (by omega)
      have HN0 := Lib.hid h0
      clear h0
      by_cases h3 : 3 < p.length
      · have hch : check words p = 4 := by
          have := HW.out
          have := HN0.out
          unfold check; rw [if_neg (by simpa using HW.out), if_neg (by intro e; simp [e] at this), if_pos h3]
        have h3I : (3 : Int) < p.length := by omega
        have HCH := Lib.hid hch
        clear hch
        go_wp2_with fail
        go_ret
        exact ⟨by rw [HCH.out]; rfl, HC.out.bel⟩
      · have hch : check words p = checkHands words p := by
          have := HW.out
          have := HN0.out
          unfold check; rw [if_neg (by simpa using HW.out), if_neg (by intro e; simp [e] at this), if_neg h3]
        have h3I : decide ((3 : Int) < p.length) = false := by simp; omega
        have HCH := Lib.hid hch
        clear hch
        go_wp2_with fail
        go_loopg [3] (p.length + 1) (fun g i wr => ∃ k : Nat, k ≤ p.length ∧ k + g = p.length + 1 ∧ i = .int .i64 k ∧ CBox w wr words (.slice a p.length cap) ∧ check words p = checkHands words (p.drop k))
        case atStart => exact ⟨0, by omega, by omega, rfl, HC.out, by simpa using HCH.out⟩
        case round =>
          clear HC HCH b0 b1
          obtain ⟨k, hk, hkg, rfl, hC, hch⟩ := hrel
          have HC := Lib.hid hC
          have HCH := Lib.hid hch
          have HKG := Lib.hid hkg
          clear hC hch hkg
          have b1 : wr.cell? ⟨w.heap.size, 1, none⟩ = some (.slice a p.length cap) := HC.out.box.cell 1
          by_cases hkn : k < p.length
          · have hknI : (k : Int) < p.length := by omega
            obtain ⟨a', cap', e1, hl', hx⟩ := HP.out
            obtain ⟨b, o, rfl, hb, x, hc, hH⟩ := hx k hkn
            cases e1
            obtain ⟨a2, cap2, rfl, hl2, hj2⟩ := hH
            have HJ := Lib.hid hj2
            have c0 : wr.cell? ⟨b, o + k, none⟩ = some (.slice a2 (lines p k).length cap2) := by rw [HC.out.bel.cell (p := ⟨b, o + k, none⟩) hb]; exact hc
            have HCC : Hid (∀ wq, CBox w wq words (.slice (some ⟨b, o, none⟩) p.length cap) → wq.cell? ⟨b, o + k, none⟩ = some (.slice a2 (lines p k).length cap2)) := fun wq q => by rw [q.bel.cell (p := ⟨b, o + k, none⟩) hb]; exact hc
            clear hx hc hj2 hl'
            unfold maxLen at hl2
            obtain ⟨ls, hls⟩ : ∃ ls, lines p k = ls := ⟨_, rfl⟩
            rw [hls] at c0 hl2
            have hcd := checkHands_drop (words := words) hkn
            rw [hls] at hcd HJ HCC
            have HCD := Lib.hid hcd
            clear hcd hls
            by_cases h5 : 5 < ls.length
            · have h5I : (5 : Int) < ls.length := by omega
              go_wp2_with fail
              go_ret
              exact ⟨by rw [HCH.out, HCD.out, if_pos h5]; rfl, HC.out.bel⟩
            · have h5I : decide ((5 : Int) < ls.length) = false := by simp; omega
              go_wp2_with fail
              go_loopg [4] (ls.length + 1) (fun g i wr => ∃ j : Nat, j ≤ ls.length ∧ j + g = ls.length + 1 ∧ i = .int .i64 j ∧ CBox w wr words (.slice (some ⟨b, o, none⟩) p.length cap) ∧ ls.any (bad words) = (ls.drop j).any (bad words))
              case atStart => exact ⟨0, by omega, by omega, rfl, HC.out, by simp⟩
              case round =>
                clear HC c0 b1
                obtain ⟨j, hj, hjg, rfl, hC, han⟩ := hrel
                have HC := Lib.hid hC
                have HAN := Lib.hid han
                have HJG := Lib.hid hjg
                have b1 : wr.cell? ⟨w.heap.size, 1, none⟩ = some (.slice (some ⟨b, o, none⟩) p.length cap) := HC.out.box.cell 1
                have c0 := HCC.out wr HC.out
                clear hC han hjg
                by_cases hjn : j < ls.length
                · have hjnI : (j : Int) < ls.length := by omega
                  obtain ⟨b2, o2, rfl, hb2, x0, x1, x2, x3⟩ := HJ.out j hjn
                  rw [← HC.out.bel.cell (p := ⟨b2, _, none⟩) hb2] at x0 x1 x2 x3
                  have hdr : (ls.drop j).any (bad words) = (bad words (ls.getD j Ln.zero) || (ls.drop (j + 1)).any (bad words)) := by
                    rw [List.drop_eq_getElem_cons hjn, List.any_cons]; simp [List.getD_eq_getElem?_getD, hjn]
                  obtain ⟨l, hl⟩ : ∃ l, ls.getD j Ln.zero = l := ⟨_, rfl⟩
                  rw [hl] at x0 x1 x2 x3 hdr
                  have HDR := Lib.hid hdr
                  clear hl hdr
                  go_upto_region 16 with fail
                  have HG := Lib.hid (GX.new HC.out l)
                  clear HC x0 x1 x2 x3 b1 c0
                  generalize wr.alloc (.cells #[.int .i64 l.k, .int .i64 l.r, .int .i64 l.w, .int .i64 l.v] 40) = wy at HG ⊢
                  generalize wr.heap.size = c at HG ⊢
                  have b0 : wy.cell? ⟨w.heap.size, 0, none⟩ = some (.int .i64 words) := HG.out.cb.box.cell 0
                  have l0 : wy.cell? ⟨c, 0, none⟩ = some (.int .i64 l.k) := HG.out.ln.cell 0
                  have l1 : wy.cell? ⟨c, 1, none⟩ = some (.int .i64 l.r) := HG.out.ln.cell 1
                  have l2 : wy.cell? ⟨c, 2, none⟩ = some (.int .i64 l.w) := HG.out.ln.cell 2
                  have l3 : wy.cell? ⟨c, 3, none⟩ = some (.int .i64 l.v) := HG.out.ln.cell 3
                  have hw1 := HW.out.1
                  have hw2 := HW.out.2
                  by_cases hk05 : 0 ≤ l.k ∧ l.k ≤ 5
                  · by_cases hk4 : l.k = 4
                    · have z4 : (l.k != 4) = false := by simp; omega
                      have z0 : (l.k == 0) = false := by simp; omega
                      have z5 : (l.k == 5) = false := by simp; omega
                      have HB : Hid (bad words l = false) := good_bad ⟨by omega, fun _ => by omega, fun _ _ => by omega, fun _ => by omega, fun _ => by omega⟩
                      have P0 : Hid (0 ≤ l.k) := by show _ ≤ _; omega
                      have Q0 : Hid (l.k ≤ 5) := by show _ ≤ _; omega
                      have P1 : Hid (l.k < 1 ∨ 3 < l.k) := by show _ ∨ _; omega
                      clear hk05 hk4
                      go_wp2_with fail
                      refine (in_yes P0.out Q0.out).mono ?_
                      rintro e wi ⟨rfl, rfl⟩
                      go_wp2_with fail
                      refine (touches_no (l := l) P1.out).mono ?_
                      rintro e wz ⟨rfl, hbz⟩
                      replace HG := Lib.hid (HG.out.below hbz)
                      clear hbz b0 l0 l1 l2 l3
                      have b0 : wz.cell? ⟨w.heap.size, 0, none⟩ = some (.int .i64 words) := HG.out.cb.box.cell 0
                      have l0 : wz.cell? ⟨c, 0, none⟩ = some (.int .i64 l.k) := HG.out.ln.cell 0
                      have l1 : wz.cell? ⟨c, 1, none⟩ = some (.int .i64 l.r) := HG.out.ln.cell 1
                      have l2 : wz.cell? ⟨c, 2, none⟩ = some (.int .i64 l.w) := HG.out.ln.cell 2
                      have l3 : wz.cell? ⟨c, 3, none⟩ = some (.int .i64 l.v) := HG.out.ln.cell 3
                      go_wp2_with fail
                      go_roundg (ls.length - j)
                      case measure => have := HJG.out; omega
                      case rel => exact ⟨j + 1, by omega, by omega, by go_num, HG.out.cb, by rw [HAN.out, HDR.out, HB.out]; simp⟩
                    · by_cases hr : 0 ≤ l.r ∧ l.r ≤ 1
                      · by_cases ht : 1 ≤ l.k ∧ l.k ≤ 3
                        · by_cases hwd : 0 ≤ l.w ∧ l.w ≤ words - 1
                          · have z4 : (l.k != 4) = true := by simp; omega
                            have z0 : (l.k == 0) = false := by simp; omega
                            have z5 : (l.k == 5) = false := by simp; omega
                            have HB : Hid (bad words l = false) := good_bad ⟨by omega, fun _ => by omega, fun _ _ => by omega, fun _ => by omega, fun _ => by omega⟩
                            have P0 : Hid (0 ≤ l.k) := by show _ ≤ _; omega
                            have Q0 : Hid (l.k ≤ 5) := by show _ ≤ _; omega
                            have P1 : Hid (0 ≤ l.r) := by show _ ≤ _; omega
                            have Q1 : Hid (l.r ≤ 1) := by show _ ≤ _; omega
                            have P2 : Hid (1 ≤ l.k) := by show _ ≤ _; omega
                            have Q2 : Hid (l.k ≤ 3) := by show _ ≤ _; omega
                            have P3 : Hid (0 ≤ l.w) := by show _ ≤ _; omega
                            have Q3 : Hid (l.w ≤ words - 1) := by show _ ≤ _; omega
                            clear hk05 hk4 hr ht hwd
                            go_wp2_with fail
                            refine (in_yes P0.out Q0.out).mono ?_
                            rintro e wi ⟨rfl, rfl⟩
                            go_wp2_with fail
                            refine (in_yes P1.out Q1.out).mono ?_
                            rintro e wi ⟨rfl, rfl⟩
                            go_wp2_with fail
                            refine (touches_yes (l := l) P2.out Q2.out).mono ?_
                            rintro e wz ⟨rfl, hbz⟩
                            replace HG := Lib.hid (HG.out.below hbz)
                            clear hbz b0 l0 l1 l2 l3
                            have b0 : wz.cell? ⟨w.heap.size, 0, none⟩ = some (.int .i64 words) := HG.out.cb.box.cell 0
                            have l0 : wz.cell? ⟨c, 0, none⟩ = some (.int .i64 l.k) := HG.out.ln.cell 0
                            have l1 : wz.cell? ⟨c, 1, none⟩ = some (.int .i64 l.r) := HG.out.ln.cell 1
                            have l2 : wz.cell? ⟨c, 2, none⟩ = some (.int .i64 l.w) := HG.out.ln.cell 2
                            have l3 : wz.cell? ⟨c, 3, none⟩ = some (.int .i64 l.v) := HG.out.ln.cell 3
                            go_wp2_with fail
                            refine (in_yes P3.out Q3.out).mono ?_
                            rintro e wi ⟨rfl, rfl⟩
                            go_wp2_with fail
                            go_roundg (ls.length - j)
                            case measure => have := HJG.out; omega
                            case rel => exact ⟨j + 1, by omega, by omega, by go_num, HG.out.cb, by rw [HAN.out, HDR.out, HB.out]; simp⟩
                          · have z4 : (l.k != 4) = true := by simp; omega
                            have z0 : (l.k == 0) = false := by simp; omega
                            have z5 : (l.k == 5) = false := by simp; omega
                            have HB : Hid (bad words l = true) := by
                              show _ = _
                              simp only [bad, Bool.or_eq_true, Bool.and_eq_true, Bool.not_eq_true', Bool.and_eq_false_iff, decide_eq_true_eq, decide_eq_false_iff_not, beq_iff_eq, beq_eq_false_iff_ne, ne_eq]
                              omega
                            have P0 : Hid (0 ≤ l.k) := by show _ ≤ _; omega
                            have Q0 : Hid (l.k ≤ 5) := by show _ ≤ _; omega
                            have P1 : Hid (0 ≤ l.r) := by show _ ≤ _; omega
                            have Q1 : Hid (l.r ≤ 1) := by show _ ≤ _; omega
                            have P2 : Hid (1 ≤ l.k) := by show _ ≤ _; omega
                            have Q2 : Hid (l.k ≤ 3) := by show _ ≤ _; omega
                            have P3 : Hid (l.w < 0 ∨ words - 1 < l.w) := by show _ ∨ _; omega
                            clear hk05 hk4 hr ht hwd
                            go_wp2_with fail
                            refine (in_yes P0.out Q0.out).mono ?_
                            rintro e wi ⟨rfl, rfl⟩
                            go_wp2_with fail
                            refine (in_yes P1.out Q1.out).mono ?_
                            rintro e wi ⟨rfl, rfl⟩
                            go_wp2_with fail
                            refine (touches_yes (l := l) P2.out Q2.out).mono ?_
                            rintro e wz ⟨rfl, hbz⟩
                            replace HG := Lib.hid (HG.out.below hbz)
                            clear hbz b0 l0 l1 l2 l3
                            have b0 : wz.cell? ⟨w.heap.size, 0, none⟩ = some (.int .i64 words) := HG.out.cb.box.cell 0
                            have l0 : wz.cell? ⟨c, 0, none⟩ = some (.int .i64 l.k) := HG.out.ln.cell 0
                            have l1 : wz.cell? ⟨c, 1, none⟩ = some (.int .i64 l.r) := HG.out.ln.cell 1
                            have l2 : wz.cell? ⟨c, 2, none⟩ = some (.int .i64 l.w) := HG.out.ln.cell 2
                            have l3 : wz.cell? ⟨c, 3, none⟩ = some (.int .i64 l.v) := HG.out.ln.cell 3
                            go_wp2_with fail
                            refine (in_no P3.out).mono ?_
                            rintro e wi ⟨rfl, rfl⟩
                            go_wp2_with fail
                            go_ret
                            exact ⟨by rw [HCH.out, HCD.out, if_neg h5, if_pos (by rw [HAN.out, HDR.out, HB.out]; rfl)]; rfl, HG.out.cb.bel⟩
                        · by_cases hk0 : l.k = 0
                          · by_cases hv : 0 ≤ l.v ∧ l.v ≤ 1000
                            · have z4 : (l.k != 4) = true := by simp; omega
                              have z0 : (l.k == 0) = true := by simp; omega
                              have z5 : (l.k == 5) = false := by simp; omega
                              have HB : Hid (bad words l = false) := good_bad ⟨by omega, fun _ => by omega, fun _ _ => by omega, fun _ => by omega, fun _ => by omega⟩
                              have P0 : Hid (0 ≤ l.k) := by show _ ≤ _; omega
                              have Q0 : Hid (l.k ≤ 5) := by show _ ≤ _; omega
                              have P1 : Hid (0 ≤ l.r) := by show _ ≤ _; omega
                              have Q1 : Hid (l.r ≤ 1) := by show _ ≤ _; omega
                              have P2 : Hid (l.k < 1 ∨ 3 < l.k) := by show _ ∨ _; omega
                              have P3 : Hid (0 ≤ l.v) := by show _ ≤ _; omega
                              have Q3 : Hid (l.v ≤ 1000) := by show _ ≤ _; omega
                              clear hk05 hk4 hr ht hk0 hv
                              go_wp2_with fail
                              refine (in_yes P0.out Q0.out).mono ?_
                              rintro e wi ⟨rfl, rfl⟩
                              go_wp2_with fail
                              refine (in_yes P1.out Q1.out).mono ?_
                              rintro e wi ⟨rfl, rfl⟩
                              go_wp2_with fail
                              refine (touches_no (l := l) P2.out).mono ?_
                              rintro e wz ⟨rfl, hbz⟩
                              replace HG := Lib.hid (HG.out.below hbz)
                              clear hbz b0 l0 l1 l2 l3
                              have b0 : wz.cell? ⟨w.heap.size, 0, none⟩ = some (.int .i64 words) := HG.out.cb.box.cell 0
                              have l0 : wz.cell? ⟨c, 0, none⟩ = some (.int .i64 l.k) := HG.out.ln.cell 0
                              have l1 : wz.cell? ⟨c, 1, none⟩ = some (.int .i64 l.r) := HG.out.ln.cell 1
                              have l2 : wz.cell? ⟨c, 2, none⟩ = some (.int .i64 l.w) := HG.out.ln.cell 2
                              have l3 : wz.cell? ⟨c, 3, none⟩ = some (.int .i64 l.v) := HG.out.ln.cell 3
                              go_wp2_with fail
                              refine (in_yes P3.out Q3.out).mono ?_
                              rintro e wi ⟨rfl, rfl⟩
                              go_wp2_with fail
                              go_roundg (ls.length - j)
                              case measure => have := HJG.out; omega
                              case rel => exact ⟨j + 1, by omega, by omega, by go_num, HG.out.cb, by rw [HAN.out, HDR.out, HB.out]; simp⟩
                            · have z4 : (l.k != 4) = true := by simp; omega
                              have z0 : (l.k == 0) = true := by simp; omega
                              have z5 : (l.k == 5) = false := by simp; omega
                              have HB : Hid (bad words l = true) := by
                                show _ = _
                                simp only [bad, Bool.or_eq_true, Bool.and_eq_true, Bool.not_eq_true', Bool.and_eq_false_iff, decide_eq_true_eq, decide_eq_false_iff_not, beq_iff_eq, beq_eq_false_iff_ne, ne_eq]
                                omega
                              have P0 : Hid (0 ≤ l.k) := by show _ ≤ _; omega
                              have Q0 : Hid (l.k ≤ 5) := by show _ ≤ _; omega
                              have P1 : Hid (0 ≤ l.r) := by show _ ≤ _; omega
                              have Q1 : Hid (l.r ≤ 1) := by show _ ≤ _; omega
                              have P2 : Hid (l.k < 1 ∨ 3 < l.k) := by show _ ∨ _; omega
                              have P3 : Hid (l.v < 0 ∨ 1000 < l.v) := by show _ ∨ _; omega
                              clear hk05 hk4 hr ht hk0 hv
                              go_wp2_with fail
                              refine (in_yes P0.out Q0.out).mono ?_
                              rintro e wi ⟨rfl, rfl⟩
                              go_wp2_with fail
                              refine (in_yes P1.out Q1.out).mono ?_
                              rintro e wi ⟨rfl, rfl⟩
                              go_wp2_with fail
                              refine (touches_no (l := l) P2.out).mono ?_
                              rintro e wz ⟨rfl, hbz⟩
                              replace HG := Lib.hid (HG.out.below hbz)
                              clear hbz b0 l0 l1 l2 l3
                              have b0 : wz.cell? ⟨w.heap.size, 0, none⟩ = some (.int .i64 words) := HG.out.cb.box.cell 0
                              have l0 : wz.cell? ⟨c, 0, none⟩ = some (.int .i64 l.k) := HG.out.ln.cell 0
                              have l1 : wz.cell? ⟨c, 1, none⟩ = some (.int .i64 l.r) := HG.out.ln.cell 1
                              have l2 : wz.cell? ⟨c, 2, none⟩ = some (.int .i64 l.w) := HG.out.ln.cell 2
                              have l3 : wz.cell? ⟨c, 3, none⟩ = some (.int .i64 l.v) := HG.out.ln.cell 3
                              go_wp2_with fail
                              refine (in_no P3.out).mono ?_
                              rintro e wi ⟨rfl, rfl⟩
                              go_wp2_with fail
                              go_ret
                              exact ⟨by rw [HCH.out, HCD.out, if_neg h5, if_pos (by rw [HAN.out, HDR.out, HB.out]; rfl)]; rfl, HG.out.cb.bel⟩
                          · by_cases hv : 0 ≤ l.v ∧ l.v ≤ 5
                            · have z4 : (l.k != 4) = true := by simp; omega
                              have z0 : (l.k == 0) = false := by simp; omega
                              have z5 : (l.k == 5) = true := by simp; omega
                              have HB : Hid (bad words l = false) := good_bad ⟨by omega, fun _ => by omega, fun _ _ => by omega, fun _ => by omega, fun _ => by omega⟩
                              have P0 : Hid (0 ≤ l.k) := by show _ ≤ _; omega
                              have Q0 : Hid (l.k ≤ 5) := by show _ ≤ _; omega
                              have P1 : Hid (0 ≤ l.r) := by show _ ≤ _; omega
                              have Q1 : Hid (l.r ≤ 1) := by show _ ≤ _; omega
                              have P2 : Hid (l.k < 1 ∨ 3 < l.k) := by show _ ∨ _; omega
                              have P3 : Hid (0 ≤ l.v) := by show _ ≤ _; omega
                              have Q3 : Hid (l.v ≤ 5) := by show _ ≤ _; omega
                              clear hk05 hk4 hr ht hk0 hv
                              go_wp2_with fail
                              refine (in_yes P0.out Q0.out).mono ?_
                              rintro e wi ⟨rfl, rfl⟩
                              go_wp2_with fail
                              refine (in_yes P1.out Q1.out).mono ?_
                              rintro e wi ⟨rfl, rfl⟩
                              go_wp2_with fail
                              refine (touches_no (l := l) P2.out).mono ?_
                              rintro e wz ⟨rfl, hbz⟩
                              replace HG := Lib.hid (HG.out.below hbz)
                              clear hbz b0 l0 l1 l2 l3
                              have b0 : wz.cell? ⟨w.heap.size, 0, none⟩ = some (.int .i64 words) := HG.out.cb.box.cell 0
                              have l0 : wz.cell? ⟨c, 0, none⟩ = some (.int .i64 l.k) := HG.out.ln.cell 0
                              have l1 : wz.cell? ⟨c, 1, none⟩ = some (.int .i64 l.r) := HG.out.ln.cell 1
                              have l2 : wz.cell? ⟨c, 2, none⟩ = some (.int .i64 l.w) := HG.out.ln.cell 2
                              have l3 : wz.cell? ⟨c, 3, none⟩ = some (.int .i64 l.v) := HG.out.ln.cell 3
                              go_wp2_with fail
                              refine (in_yes P3.out Q3.out).mono ?_
                              rintro e wi ⟨rfl, rfl⟩
                              go_wp2_with fail
                              go_roundg (ls.length - j)
                              case measure => have := HJG.out; omega
                              case rel => exact ⟨j + 1, by omega, by omega, by go_num, HG.out.cb, by rw [HAN.out, HDR.out, HB.out]; simp⟩
                            · have z4 : (l.k != 4) = true := by simp; omega
                              have z0 : (l.k == 0) = false := by simp; omega
                              have z5 : (l.k == 5) = true := by simp; omega
                              have HB : Hid (bad words l = true) := by
                                show _ = _
                                simp only [bad, Bool.or_eq_true, Bool.and_eq_true, Bool.not_eq_true', Bool.and_eq_false_iff, decide_eq_true_eq, decide_eq_false_iff_not, beq_iff_eq, beq_eq_false_iff_ne, ne_eq]
                                omega
                              have P0 : Hid (0 ≤ l.k) := by show _ ≤ _; omega
                              have Q0 : Hid (l.k ≤ 5) := by show _ ≤ _; omega
                              have P1 : Hid (0 ≤ l.r) := by show _ ≤ _; omega
                              have Q1 : Hid (l.r ≤ 1) := by show _ ≤ _; omega
                              have P2 : Hid (l.k < 1 ∨ 3 < l.k) := by show _ ∨ _; omega
                              have P3 : Hid (l.v < 0 ∨ 5 < l.v) := by show _ ∨ _; omega
                              clear hk05 hk4 hr ht hk0 hv
                              go_wp2_with fail
                              refine (in_yes P0.out Q0.out).mono ?_
                              rintro e wi ⟨rfl, rfl⟩
                              go_wp2_with fail
                              refine (in_yes P1.out Q1.out).mono ?_
                              rintro e wi ⟨rfl, rfl⟩
                              go_wp2_with fail
                              refine (touches_no (l := l) P2.out).mono ?_
                              rintro e wz ⟨rfl, hbz⟩
                              replace HG := Lib.hid (HG.out.below hbz)
                              clear hbz b0 l0 l1 l2 l3
                              have b0 : wz.cell? ⟨w.heap.size, 0, none⟩ = some (.int .i64 words) := HG.out.cb.box.cell 0
                              have l0 : wz.cell? ⟨c, 0, none⟩ = some (.int .i64 l.k) := HG.out.ln.cell 0
                              have l1 : wz.cell? ⟨c, 1, none⟩ = some (.int .i64 l.r) := HG.out.ln.cell 1
                              have l2 : wz.cell? ⟨c, 2, none⟩ = some (.int .i64 l.w) := HG.out.ln.cell 2
                              have l3 : wz.cell? ⟨c, 3, none⟩ = some (.int .i64 l.v) := HG.out.ln.cell 3
                              go_wp2_with fail
                              refine (in_no P3.out).mono ?_
                              rintro e wi ⟨rfl, rfl⟩
                              go_wp2_with fail
                              go_ret
                              exact ⟨by rw [HCH.out, HCD.out, if_neg h5, if_pos (by rw [HAN.out, HDR.out, HB.out]; rfl)]; rfl, HG.out.cb.bel⟩
                      · have z4 : (l.k != 4) = true := by simp; omega
                        have HB : Hid (bad words l = true) := by
                          show _ = _
                          simp only [bad, Bool.or_eq_true, Bool.and_eq_true, Bool.not_eq_true', Bool.and_eq_false_iff, decide_eq_true_eq, decide_eq_false_iff_not, beq_iff_eq, beq_eq_false_iff_ne, ne_eq]
                          omega
                        have P0 : Hid (0 ≤ l.k) := by show _ ≤ _; omega
                        have Q0 : Hid (l.k ≤ 5) := by show _ ≤ _; omega
                        have P1 : Hid (l.r < 0 ∨ 1 < l.r) := by show _ ∨ _; omega
                        clear hk05 hk4 hr
                        go_wp2_with fail
                        refine (in_yes P0.out Q0.out).mono ?_
                        rintro e wi ⟨rfl, rfl⟩
                        go_wp2_with fail
                        refine (in_no P1.out).mono ?_
                        rintro e wi ⟨rfl, rfl⟩
                        go_wp2_with fail
                        go_ret
                        exact ⟨by rw [HCH.out, HCD.out, if_neg h5, if_pos (by rw [HAN.out, HDR.out, HB.out]; rfl)]; rfl, HG.out.cb.bel⟩
                  · have HB : Hid (bad words l = true) := by
                      show _ = _
                      simp only [bad, Bool.or_eq_true, Bool.and_eq_true, Bool.not_eq_true', Bool.and_eq_false_iff, decide_eq_true_eq, decide_eq_false_iff_not, beq_iff_eq, beq_eq_false_iff_ne, ne_eq]
                      omega
                    have P0 : Hid (l.k < 0 ∨ 5 < l.k) := by show _ ∨ _; omega
                    clear hk05
                    go_wp2_with fail
                    refine (in_no P0.out).mono ?_
                    rintro e wi ⟨rfl, rfl⟩
                    go_wp2_with fail
                    go_ret
                    exact ⟨by rw [HCH.out, HCD.out, if_neg h5, if_pos (by rw [HAN.out, HDR.out, HB.out]; rfl)]; rfl, HG.out.cb.bel⟩
                · obtain rfl : j = ls.length := by omega
                  go_wp2_with fail
                  go_roundg (p.length - k)
                  case measure => have := HKG.out; omega
                  case rel => exact ⟨k + 1, by omega, by omega, by go_num, HC.out, by rw [HCH.out, HCD.out, if_neg h5, if_neg (by rw [HAN.out]; simp)]⟩
          · obtain rfl : k = p.length := by omega
            go_wp2_with fail
            go_ret
            exact ⟨by rw [HCH.out]; simp [checkHands], HC.out.bel⟩
  · have HW := Lib.hid (show words < 1 ∨ 4 < words by omega)
    have HCH : Hid (check words p = 1) := by unfold check; rw [if_pos hw]; exact rfl
    clear hw
    go_enter Tryd.func5, Tryd.ntmps5
    go_wp2_with fail
    generalize w.alloc (.cells #[.int .i64 words, .slice a p.length cap] 24) = wx at HC ⊢
    have b0 : wx.cell? ⟨w.heap.size, 0, none⟩ = some (.int .i64 words) := HC.out.box.cell 0
    go_wp2_with fail
    refine (in_no HW.out).mono ?_
    rintro e wi ⟨rfl, rfl⟩
    go_wp2_with fail
    go_ret
    exact ⟨by rw [HCH.out]; rfl, HC.out.bel⟩
end Go.Proofs.YtimbdjmplcgilaaDoor.Rf
