import Derived.Test.YtimbdjmplcgilaaTsFact
import Derived.Deep.RegionHeld3
namespace Go.Proofs.Ytimbdjmplcgilaa.Tso
open Go.RowKit Pr SortFn
set_option linter.unusedVariables false

/-- A program of two hands, in new memory. -/
theorem prog_two {w : World} {a b : Option Addr} {ca cb : Nat} {la lb : List Ln} (h : HandAt w (.slice a la.length ca) la) (k : HandAt w (.slice b lb.length cb) lb) (T : TypeId) : IsProg (w.alloc (.cells #[.slice a la.length ca, .slice b lb.length cb] T)) (.slice (some ⟨w.heap.size, 0, none⟩) 2 2) [la, lb] := by
  refine ⟨_, 2, rfl, by simp [maxLen], fun i hi => ⟨w.heap.size, 0, rfl, by simp, ?_⟩⟩
  obtain rfl | rfl : i = 0 ∨ i = 1 := by have : i < 2 := hi; omega
  · exact ⟨_, by rw [(Blk.new w #[.slice a la.length ca, .slice b lb.length cb] T).cell]; rfl, h.below ((Below.refl _ _).alloc (Nat.le_refl _) _)⟩
  · exact ⟨_, by rw [(Blk.new w #[.slice a la.length ca, .slice b lb.length cb] T).cell]; rfl, k.below ((Below.refl _ _).alloc (Nat.le_refl _) _)⟩
theorem nums_own {w : World} {base : Nat} {e : TypeId} {v : Value} {R : List Int} (h : w.ownsRow base e 1 v R.length (ints R)) (hl : R.length ≤ maxLen) : Nums w v R := by
  by_cases h0 : R.length = 0
  · have hR : R = [] := by simpa using h0
    subst hR
    rcases h.2 with ⟨hv, -⟩ | ⟨g, cap, cur, hv, -⟩
    · rw [hv]; exact nums_nil w
    · rw [hv]; exact ⟨_, cap, rfl, by simp, fun k hk => by simp at hk⟩
  · obtain ⟨g, cap, rfl, hg, hlt, hr⟩ := own_ints h h0
    exact ⟨_, cap, rfl, hl, fun k hk => ⟨g, 0, rfl, ⟨hlt, hg.2⟩, by have := (hr k hk).1; simpa using this⟩⟩
/-- The cells of a row from a place on. -/
theorem nums_from {w : World} {b o n cap : Nat} {z : List Int} (h : Nums w (.slice (some ⟨b, o, none⟩) n cap) z) (k : Nat) : ∀ j u, (ints (z.drop k))[j]? = some u → w.cell? (Addr.add ⟨b, o + k, none⟩ j) = some u := by
  intro j u hu
  obtain ⟨a, cap', e, -, hj⟩ := h
  cases e
  have hl : k + j < z.length := by
    have := (List.getElem?_eq_some_iff.1 hu).1
    simp [ints] at this; omega
  obtain ⟨b', o', e, -, hx⟩ := hj (k + j) hl
  cases e
  rw [show (Addr.add ⟨b, o + k, none⟩ j) = ⟨b, o + (k + j), none⟩ by
    unfold Addr.add; split
    · subst_vars; simp
    · simp [Nat.add_assoc]]
  rw [hx]
  simp [ints, hl] at hu
  rw [← hu]
  simp [List.getD_eq_getElem?_getD, hl]


set_option maxHeartbeats 8000000 in
set_option maxRecDepth 100000 in
theorem law_turned {w : World} {words : Int} {va vb : Value} {la lb : List Ln} (hpa : HandAt w va la) (hpb : HandAt w vb lb) :
    Calls Try.prog 5 #[.int .i64 words, va, vb] w fun e w' => e = .returned (.bool true) ∧ Below w.heap.size w w' := by
  have HPA := Lib.hid hpa
  have HPB := Lib.hid hpb
  obtain ⟨a, ca, rfl, hla, -⟩ := hpa
  obtain ⟨b, cb, rfl, hlb, -⟩ := hpb
  unfold maxLen at hla hlb
  obtain ⟨i0, hi, hz0, hz1, hz2⟩ := info_parts infoInt2
  go_enter Try.func5, Try.ntmps5
  go_wp2_with fail
  refine tsoFact_any.mono ?_
  rintro e w1 ⟨rfl, hb1⟩
  have h1 := prog_two (HPA.out.below hb1) (HPB.out.below hb1) 22
  have hb2 : Below w1.heap.size w1 (w1.alloc (.cells #[.slice a la.length ca, .slice b lb.length cb] 22)) := (Below.refl _ _).alloc (Nat.le_refl _) _
  have HG := Lib.hid h1
  have HB := Lib.hid (hb1.trans (hb2.mono hb1.size))
  clear hb1 hb2 h1
  go_wp2_with fail
  refine (results_any HG.out).mono ?_
  rintro e w4 ⟨hT1, hb4⟩
  replace HB := Lib.hid (HB.out.trans (hb4.mono HB.out.size))
  have h1 := prog_two (HPB.out.below HB.out) (HPA.out.below HB.out) 22
  have hb2 : Below w4.heap.size w4 (w4.alloc (.cells #[.slice b lb.length cb, .slice a la.length ca] 22)) := (Below.refl _ _).alloc (Nat.le_refl _) _
  have HG2 := Lib.hid h1
  have HBZ := Lib.hid hb2
  replace HB := Lib.hid (HB.out.trans (hb2.mono HB.out.size))
  clear hb4 h1 hb2 HG
  by_cases hc : check words [la, lb] = 0
  · have hc2 := Sc.check_sw.1 hc
    cases hT1 with
    | err h => exact absurd hc h
    | @ok v R h hM hR hlen =>
      have HM := Lib.hid (hM.below HBZ.out)
      have HR := Lib.hid hR
      have HCK := Lib.hid hc
      have HCK2 := Lib.hid hc2
      obtain ⟨ar, cr, rfl, hlr, -⟩ := hM
      unfold maxLen at hlr
      clear h hR hc hc2
      go_wp2_with fail
      refine (results_any HG2.out).mono ?_
      rintro e w5 ⟨hT2, hb5⟩
      replace HB := Lib.hid (HB.out.trans (hb5.mono HB.out.size))
      replace HM := Lib.hid (HM.out.below hb5)
      clear hb5
      cases hT2 with
      | err h => exact absurd HCK2.out h
      | @ok v S h hM2 hS hlen2 =>
        have HM2 := Lib.hid hM2
        have HS := Lib.hid hS
        have HW := Lib.hid (fine_of HCK.out).w
        have HRS := Lib.hid (turned_len HW.out.2 HR.out hS)
        obtain ⟨as2, cs2, rfl, hls, -⟩ := hM2
        unfold maxLen at hls
        clear h hS
        have e1 : ((R.length : Int) != (S.length : Int)) = false := by have := HRS.out; simp; omega
        have HX : Hid (Below w.heap.size w w5 ∧ Mat w5 (.slice ar R.length cr) R ∧ Mat w5 (.slice as2 S.length cs2) S) := ⟨HB.out, HM.out, HM2.out⟩
        clear HB HM HM2
        go_wp2_with fail
        go_loopg [12] (R.length + 1) (fun gg s18 wr => ∃ k : Nat, s18 = .int .i64 k ∧ k + gg = R.length + 1 ∧ k ≤ R.length ∧ Below w.heap.size w wr ∧ Mat wr (.slice ar R.length cr) R ∧ Mat wr (.slice as2 S.length cs2) S)
        case atStart => exact ⟨0, rfl, by omega, by omega, HX.out.1, HX.out.2.1, HX.out.2.2⟩
        case round =>
          clear HX
          obtain ⟨k, rfl, hkg, hkl, hbl, hM, hM2⟩ := hrel
          have HKG := Lib.hid hkg
          have HBL := Lib.hid hbl
          have HM := Lib.hid hM
          have HM2 := Lib.hid hM2
          clear hkg hbl hM hM2
          by_cases hkn : k < R.length
          · have hkI : (k : Int) < R.length := by omega
            obtain ⟨a', cap', e, -, hx⟩ := HM.out
            obtain ⟨b', o', x, rfl, -, c1, hn⟩ := hx k hkn
            cases e
            obtain ⟨L, hL⟩ : ∃ L, R.getD k [] = L := ⟨_, rfl⟩
            have hLR : L ∈ R := by rw [← hL, List.getD_eq_getElem?_getD, List.getElem?_eq_getElem hkn]; exact List.getElem_mem _
            have hE := (HR.out.mem L).1 hLR
            have hlen := ends_len hE
            have hw := HW.out
            have hl5 : 5 ≤ L.length ∧ L.length ≤ 8 := by simp at hlen; omega
            have HD : Hid (decide (Sc.turned L ∈ S) = true) := by show _ = _; simpa using (HS.out.mem _).2 (hE.sw HW.out.2)
            rw [hL] at hn
            have HN := Lib.hid hn
            obtain ⟨ax, cx, rfl, -, hcell⟩ := hn
            obtain ⟨bx, ox, rfl, ⟨-, hcx⟩, x0⟩ := hcell 0 (by omega)
            obtain ⟨_, _, e, -, x1⟩ := hcell 1 (by omega)
            cases e
            obtain ⟨_, _, e, -, x2⟩ := hcell 2 (by omega)
            cases e
            obtain ⟨_, _, e, -, x3⟩ := hcell 3 (by omega)
            cases e
            obtain ⟨y0, hy0⟩ : ∃ y, L.getD 0 0 = y := ⟨_, rfl⟩
            obtain ⟨y1, hy1⟩ : ∃ y, L.getD 1 0 = y := ⟨_, rfl⟩
            obtain ⟨y2, hy2⟩ : ∃ y, L.getD 2 0 = y := ⟨_, rfl⟩
            obtain ⟨y3, hy3⟩ : ∃ y, L.getD 3 0 = y := ⟨_, rfl⟩
            have HTU : Hid (Sc.turned L = [y2, y3, y0, y1] ++ L.drop 4) := by show _ = _; unfold Sc.turned; rw [hy0, hy1, hy2, hy3]
            rw [hy0, Nat.add_zero] at x0
            rw [hy1] at x1
            rw [hy2] at x2
            rw [hy3] at x3
            have HL5 := Lib.hid hl5
            have i0I : (0 : Int) < L.length := by omega
            have i0N : 0 < L.length := by omega
            have i0M : L.length ≠ 0 := by omega
            have i1I : (1 : Int) < L.length := by omega
            have i2I : (2 : Int) < L.length := by omega
            have i3I : (3 : Int) < L.length := by omega
            have i4I : decide ((L.length : Int) < 4) = false := by simp; omega
            clear hx hLR hE hlen hw hL hcell hy0 hy1 hy2 hy3 hl5
            go_wp2_with fail
            go_region_held3 (fun w' => w'.cell? ⟨b', o' + k, none⟩ = some (.slice (some ⟨bx, ox, none⟩) L.length cx) ∧ w'.cell? ⟨bx, ox, none⟩ = some (.int .i64 y0) ∧ w'.cell? ⟨bx, ox + 1, none⟩ = some (.int .i64 y1) ∧ w'.cell? ⟨bx, ox + 2, none⟩ = some (.int .i64 y2) ∧ w'.cell? ⟨bx, ox + 3, none⟩ = some (.int .i64 y3)) (go_keep) ((fail))
            clear i0N i0M
            have hBK := (Blk.new wr #[.int .i64 y2, .int .i64 y3, .int .i64 y0, .int .i64 y1] 3).drew
            have hBW : Below wr.heap.size wr (wr.alloc (.cells #[.int .i64 y2, .int .i64 y3, .int .i64 y0, .int .i64 y1] 3)).drew := Below.todrewN ((Below.refl _ _).alloc (Nat.le_refl _) _) 1
            generalize (wr.alloc (.cells #[.int .i64 y2, .int .i64 y3, .int .i64 y0, .int .i64 y1] 3)).drew = wq at hBK hBW ⊢
            have HOW : Hid (wq.ownsRow wr.heap.size 3 1 (.slice (some ⟨wr.heap.size, 0, none⟩) 4 4) 4 (ints [y2, y3, y0, y1])) := ⟨rfl, .inr ⟨wr.heap.size, 4, #[.int .i64 y2, .int .i64 y3, .int .i64 y0, .int .i64 y1], rfl, Nat.le_refl _, hBK, Nat.le_refl _, by unfold maxLen; omega, rfl, rfl⟩⟩
            have HBWH := Lib.hid hBW
            have HNQ := Lib.hid (HN.out.below hBW)
            have HSZ : Hid (wr.heap.size ≤ wq.heap.size) := hBW.size
            have hlt' := World.block_lt_of_cell? (w := wr) (a := ⟨b', o' + k, none⟩) c1
            have c1q : wq.cell? ⟨b', o' + k, none⟩ = some (.slice (some ⟨bx, ox, none⟩) L.length cx) := by rw [hBW.cell (p := ⟨b', o' + k, none⟩) hlt']; exact c1
            have hl5 := HL5.out
            have hcx4 : cx ≠ 4 := by omega
            have i5I : (4 : Int) ≤ L.length := by omega
            clear hBK hBW hlt' c1 x0 x1 x2 x3 HN i0I i1I i2I i3I
            go_wp2_with (at_builtin; refine wpList_append_own _ rfl _ _ 34 rfl wr.heap.size 3 i0 (.int .i64 0) 1 8 Try.underlying34 hi hz0 hz1 hz2 rfl (by decide) _ 4 (ints [y2, y3, y0, y1]) rfl HOW.out ⟨bx, ox + 4, none⟩ (L.length - 4) (cx - 4) (ints (L.drop 4)) rfl ?c0 ?c1 ?c2 ?c3 ?c4 HSZ.out ?_)
            case c0 => simp [ints]
            case c1 => exact nums_from HNQ.out 4
            case c2 => intro y hy; unfold ints at hy; obtain ⟨z, -, rfl⟩ := List.mem_map.1 hy; rfl
            case c3 => unfold maxLen; omega
            case c4 => omega
            intro v' w8 hown hgrow _
            have hb8 : Below wr.heap.size wq w8 := (Below.refl _ _).grown hgrow HSZ.out (own_base HOW.out)
            have hnew : Nums w8 v' (Sc.turned L) := by
              rw [HTU.out]
              have e : ints [y2, y3, y0, y1] ++ ints (L.drop 4) = ints ([y2, y3, y0, y1] ++ L.drop 4) := by simp [ints]
              rw [e] at hown
              have hl : ([y2, y3, y0, y1] ++ L.drop 4).length = 4 + (L.length - 4) := by simp; omega
              rw [← hl] at hown
              exact nums_own hown (by rw [hl]; unfold maxLen; omega)
            have HNW := Lib.hid hnew
            have HK8 := Lib.hid hb8
            have hk := HBWH.out.trans hb8
            have HQ8 : Hid (Mat w8 (.slice (some ⟨b', o', none⟩) R.length cr) R ∧ Mat w8 (.slice as2 S.length cs2) S ∧ Below w.heap.size w w8) := ⟨HM.out.below hk, HM2.out.below hk, HBL.out.trans (hk.mono HBL.out.size)⟩
            clear hown hgrow hb8 hnew hk HM HM2 HBL c1q HOW HNQ
            obtain ⟨an, cn, rfl, -⟩ := HNW.out
            go_wp2_with fail
            refine (has_any HQ8.out.2.1 HNW.out).mono ?_
            rintro e w9 ⟨rfl, m, rfl⟩
            rw [HD.out]
            go_wp2_with fail
            go_roundg (R.length - k)
            case measure => have := HKG.out; omega
            case rel => exact ⟨k + 1, by go_num, by omega, by omega, Below.todrewN HQ8.out.2.2 m, HQ8.out.1.drewN m, HQ8.out.2.1.drewN m⟩
          · obtain rfl : k = R.length := by omega
            go_wp2_with fail
            go_ret
            exact ⟨rfl, HBL.out⟩
  · have hc2 : check words [lb, la] ≠ 0 := fun h => hc (Sc.check_sw.2 h)
    have HCK := Lib.hid hc
    have HCK2 := Lib.hid hc2
    obtain rfl := ts_bad hT1 HCK.out
    clear hc hc2 hT1
    go_wp2_with fail
    refine (results_any HG2.out).mono ?_
    rintro e w5 ⟨hT2, hb5⟩
    replace HB := Lib.hid (HB.out.trans (hb5.mono HB.out.size))
    obtain rfl := ts_bad hT2 HCK2.out
    clear hb5 hT2
    go_wp2_with fail
    go_ret
    exact ⟨rfl, HB.out⟩
end Go.Proofs.Ytimbdjmplcgilaa.Tso
