import Derived.Test.YtimbdjmplcgilaaDoorScWalk
import Derived.Test.YtimbdjmplcgilaaDoorClash
namespace Go.Proofs.YtimbdjmplcgilaaDoor.Sc
open Go.RowKit Pr SortFn SQ
set_option linter.unusedVariables false

/-- What sc.Races tells. -/
inductive RTold (words : Int) (p : List (List Ln)) : Ending → Prop
  | err : check words p ≠ 0 → RTold words p (.returned (.tuple #[.bool false, .iface 74 (.int .i64 (check words p))]))
  | yes : check words p = 0 → Races p → RTold words p (.returned (.tuple #[.bool true, .nilIface]))
  | no : check words p = 0 → ¬ Races p → RTold words p (.returned (.tuple #[.bool false, .nilIface]))
/-- No two of the first hands clash. -/
def NC (p : List (List Ln)) (f : St) (h : Nat) : Prop := ∀ a b, b < a → a < h → more p f a = true → more p f b = true → clash (line p f a) (line p f b) = false
theorem NC.all {p : List (List Ln)} {f : St} (h : NC p f p.length) : ¬ ClashAt p f := by
  rintro ⟨a, b, h1, h2, ma, mb, hc⟩
  rw [h a b h1 h2 ma mb] at hc; cases hc
theorem NC.next {p : List (List Ln)} {f : St} {h : Nat} (k : NC p f h) (hn : more p f h = true → ∀ b, b < h → more p f b = true → clash (line p f h) (line p f b) = false) : NC p f (h + 1) := by
  intro a b h1 h2 ma mb
  by_cases e : a = h
  · subst e; exact hn ma b h1 mb
  · exact k a b h1 (by omega) ma mb

set_option maxHeartbeats 8000000 in
set_option maxRecDepth 100000 in
theorem races_any {w : World} {words : Int} {u : Value} {p : List (List Ln)} (hp : IsProg w u p) :
    Calls Tryd.prog 11 #[.agg #[.int .i64 words, u]] w fun e w' => RTold words p e ∧ Below w.heap.size w w' := by
  have HP := Lib.hid hp
  have HC := Lib.hid (cbox w words u)
  obtain ⟨a, cap, rfl, hl, -⟩ := hp
  unfold maxLen at hl
  go_enter Tryd.func11, Tryd.ntmps11
  go_wp2_with fail
  generalize w.alloc (.cells #[.int .i64 words, .slice a p.length cap] 24) = wx at HC ⊢
  have b0 : wx.cell? ⟨w.heap.size, 0, none⟩ = some (.int .i64 words) := HC.out.box.cell 0
  have b1 : wx.cell? ⟨w.heap.size, 1, none⟩ = some (.slice a p.length cap) := HC.out.box.cell 1
  go_wp2_with fail
  refine (check_any (HP.out.below HC.out.bel)).mono ?_
  rintro e w1 ⟨rfl, hb1⟩
  replace HC := Lib.hid (HC.out.below hb1)
  clear b0 b1 hb1
  by_cases hc : check words p = 0
  · have HCK := Lib.hid hc
    have ev : errVal (check words p) = .nilIface := by rw [hc]; rfl
    rw [ev]
    clear hc ev
    have HF := Lib.hid (fine_of HCK.out)
    have HN3 : p.length ≤ 3 := HF.out.n.2
    go_upto_region 5 with fail
    have hQ : Blk (w1.alloc (.cells #[.map none, .slice none 0 0] 61)) w1.heap.size #[.map none, .slice none 0 0] 61 := Blk.new _ _ _
    have HC2 := Lib.hid (HC.out.alloc (.cells #[.map none, .slice none 0 0] 61))
    have hQ1 : w.heap.size < w1.heap.size := by have := HC.out.size; omega
    clear HC
    generalize w1.alloc (.cells #[.map none, .slice none 0 0] 61) = wy at hQ HC2 ⊢
    generalize w1.heap.size = Q at hQ hQ1 ⊢
    have hadd := add_first hQ (wf_vec HF.out (.zero : Reach p St.zero))
    rw [zero_val] at hadd
    have HADD := Lib.hid hadd
    clear hadd hQ
    go_wp2_with fail
    refine HADD.out.mono ?_
    clear HADD
    rintro e w2 ⟨rfl, B, g, hq, ho, hB, hg⟩
    have HX : Hid (SX w words (.slice a p.length cap) Q B g [vec St.zero] (.slice none 0 0) [] [] w2) := by
      have hsz := HC2.out.size
      refine ⟨HC2.out.bel.trans (ho.below (by simp; omega) (by omega)), Nat.le_trans hsz ho.size_le, ho.blk (by simp; omega) HC2.out.box, by omega, hq, OutAt.nil _ _ _⟩
    clear HC2 hq ho hB hg
    go_wp2_with fail
    go_loopg [6] 21523361 (fun gg s6 wr => ∃ (i g : Nat) (ss : List (List Int)), s6 = .int .i64 i ∧ i + gg = 21523361 ∧ SX w words (.slice a p.length cap) Q B g ss (.slice none 0 0) [] [] wr ∧ Bfs.Inv (vec St.zero) (succ p) ss i ∧ ∀ j v, j < i → ss[j]? = some v → ¬ ClashAt p (fn v))
    case atStart => exact ⟨0, g, [vec St.zero], rfl, by omega, HX.out, Bfs.Inv.start _ _, fun j v hj => by omega⟩
    case round =>
      clear HX
      obtain ⟨i, g, ss, rfl, hig, hX, hI, hR⟩ := hrel
      have HX := Lib.hid hX
      have HI := Lib.hid hI
      have HIG := Lib.hid hig
      have HRO := Lib.hid hR
      have hsl : ss.length ≤ 21523360 := bound HF.out hI
      have hile := hI.le
      clear hX hI hig hR
      go_wp2_with fail
      refine (len_any HX.out.q).mono ?_
      rintro e wr ⟨rfl, rfl⟩
      by_cases hin : i < ss.length
      · have hinI : (i : Int) < ss.length := by omega
        obtain ⟨v, hv⟩ : ∃ v, ss[i]? = some v := ⟨_, List.getElem?_eq_getElem hin⟩
        obtain ⟨f, hr, rfl⟩ := (reach_iff HF.out).1 (HI.out.reach v (List.mem_of_getElem? hv))
        have HV := Lib.hid hv
        have HRF := Lib.hid hr
        have HOC := Lib.hid (hr.fine HF.out)
        clear hv hr
        go_wp2_with fail
        refine (at_any HX.out.q HV.out (by omega)).mono ?_
        rintro e w3 ⟨rfl, hb3⟩
        replace HX := Lib.hid (HX.out.below hb3)
        clear hb3
        unfold stVal
        have HB : Hid (Blk (w3.alloc (.cells (List.toArray (Value.int .i64 0 :: Value.int .i64 0 :: Value.int .i64 0 :: Value.int .i64 0 :: Value.int .i64 0 :: Value.int .i64 0 :: Value.int .i64 0 :: Value.int .i64 0 :: Value.int .i64 0 :: Value.int .i64 0 :: Value.int .i64 0 :: Value.int .i64 0 :: Value.int .i64 0 :: Value.int .i64 0 :: Value.int .i64 0 :: Value.int .i64 0 :: [])) 67)) w3.heap.size (List.toArray (Value.int .i64 0 :: Value.int .i64 0 :: Value.int .i64 0 :: Value.int .i64 0 :: Value.int .i64 0 :: Value.int .i64 0 :: Value.int .i64 0 :: Value.int .i64 0 :: Value.int .i64 0 :: Value.int .i64 0 :: Value.int .i64 0 :: Value.int .i64 0 :: Value.int .i64 0 :: Value.int .i64 0 :: Value.int .i64 0 :: Value.int .i64 0 :: [])) 67) := Blk.new _ _ _
        have HNB : Hid (NewBox w3 f ((w3.alloc (.cells (List.toArray (Value.int .i64 0 :: Value.int .i64 0 :: Value.int .i64 0 :: Value.int .i64 0 :: Value.int .i64 0 :: Value.int .i64 0 :: Value.int .i64 0 :: Value.int .i64 0 :: Value.int .i64 0 :: Value.int .i64 0 :: Value.int .i64 0 :: Value.int .i64 0 :: Value.int .i64 0 :: Value.int .i64 0 :: Value.int .i64 0 :: Value.int .i64 0 :: [])) 67)).setRow w3.heap.size (ints (vec f)).toArray)) := new_box w3 f rfl
        go_upto_region 10 with (refine wpList_store_row rfl 67 _ _ rfl _ (ints (vec f)).toArray rfl rfl 67 (List.toArray (Value.int .i64 0 :: Value.int .i64 0 :: Value.int .i64 0 :: Value.int .i64 0 :: Value.int .i64 0 :: Value.int .i64 0 :: Value.int .i64 0 :: Value.int .i64 0 :: Value.int .i64 0 :: Value.int .i64 0 :: Value.int .i64 0 :: Value.int .i64 0 :: Value.int .i64 0 :: Value.int .i64 0 :: Value.int .i64 0 :: Value.int .i64 0 :: [])) HB.out (vec_info f) (by rw [vec_size]; rfl) (vec_one f) ?_)
        generalize (w3.alloc (.cells (List.toArray (Value.int .i64 0 :: Value.int .i64 0 :: Value.int .i64 0 :: Value.int .i64 0 :: Value.int .i64 0 :: Value.int .i64 0 :: Value.int .i64 0 :: Value.int .i64 0 :: Value.int .i64 0 :: Value.int .i64 0 :: Value.int .i64 0 :: Value.int .i64 0 :: Value.int .i64 0 :: Value.int .i64 0 :: Value.int .i64 0 :: Value.int .i64 0 :: [])) 67)).setRow w3.heap.size (ints (vec f)).toArray = w4 at HNB ⊢
        have HST := Lib.hid HNB.out.st
        have hL0 : w.heap.size < w3.heap.size ∧ w3.heap.size ≠ Q ∧ w3.heap.size ≠ B ∧ w3.heap.size ≠ g := by
          have h1 := HX.out.size
          have h2 := HX.out.q.qlt
          have h3 := HX.out.q.set.lt
          have h4 := HX.out.q.glt
          omega
        replace HX := Lib.hid (HX.out.below HNB.out.bel)
        clear HB HNB
        generalize w3.heap.size = L at HST hL0 ⊢
        have HL0 := Lib.hid hL0
        clear hL0
        have b1 : w4.cell? ⟨w.heap.size, 1, none⟩ = some (.slice a p.length cap) := HX.out.box.cell 1
        have HXI : Hid (SX w words (.slice a p.length cap) Q B g (Bfs.addAll ss (succTo p (vec f) 0)) (.slice none 0 0) [] [] w4) := HX.out
        go_wp2_with fail
        go_loopg [32] (p.length + 1) (fun gg s32 wr => ∃ (h g : Nat), s32 = .int .i64 h ∧ h + gg = p.length + 1 ∧ h ≤ p.length ∧ SX w words (.slice a p.length cap) Q B g (Bfs.addAll ss (succTo p (vec f) h)) (.slice none 0 0) [] [] wr ∧ StAt wr L f ∧ (w.heap.size < L ∧ L ≠ Q ∧ L ≠ B ∧ L ≠ g) ∧ NC p f h)
        case atStart => exact ⟨0, g, rfl, by omega, by omega, HXI.out, HST.out, HL0.out, fun a b _ h => by omega⟩
        case round =>
          clear HX HXI b1 HST HL0
          obtain ⟨h, g, rfl, hhg, hhp, hX, hst, hL0, hnc⟩ := hrel
          have HX := Lib.hid hX
          have HHG := Lib.hid hhg
          have HST := Lib.hid hst
          have HL0 := Lib.hid hL0
          have HNC := Lib.hid hnc
          clear hX hhg hst hL0 hnc
          have HIN := Lib.hid (HI.out.some HV.out (xs := succTo p (vec f) h) (fun b hb => succTo_mem hhp hb))
          have hsl2 : (Bfs.addAll ss (succTo p (vec f) h)).length ≤ 21523360 := bound HF.out HIN.out
          by_cases hhn : h < p.length
          · have hhI : (h : Int) < p.length := by omega
            have h4 : h < 4 := by omega
            have b0 : wr.cell? ⟨w.heap.size, 0, none⟩ = some (.int .i64 words) := HX.out.box.cell 0
            have b1 : wr.cell? ⟨w.heap.size, 1, none⟩ = some (.slice a p.length cap) := HX.out.box.cell 1
            go_wp2_with fail
            refine (next_any (HX.out.pg HP.out) HST.out hhn h4 (HOC.out.1.at0 h h4)).mono ?_
            rintro e w5 ⟨lv, bb, rfl, hmo, hlv, hbel⟩
            have hLT : L < wr.heap.size := World.block_lt_of_cell? (w := wr) (a := ⟨L, 0, none⟩) (HST.out 0 (by omega)).1
            replace HX := Lib.hid (HX.out.below hbel)
            replace HST := Lib.hid (HST.out.keep (hbel.block _ hLT))
            have hLT5 : L < w5.heap.size := Nat.lt_of_lt_of_le hLT hbel.size
            have HMO := Lib.hid hmo
            have HLV := Lib.hid hlv
            clear b0 b1 hbel hmo hlv hLT
            go_upto_region 14 with fail
            have hN := Blk.new w5 #[.int .i64 lv.k, .int .i64 lv.r, .int .i64 lv.w, .int .i64 lv.v] 40
            have hb6 : Below w5.heap.size w5 (w5.alloc (.cells #[.int .i64 lv.k, .int .i64 lv.r, .int .i64 lv.w, .int .i64 lv.v] 40)) := (Below.refl _ _).alloc (Nat.le_refl _) _
            replace HX := Lib.hid (HX.out.below hb6)
            replace HST := Lib.hid (HST.out.keep (hb6.block _ hLT5))
            have hLT6 : L < (w5.alloc (.cells #[.int .i64 lv.k, .int .i64 lv.r, .int .i64 lv.w, .int .i64 lv.v] 40)).heap.size := Nat.lt_of_lt_of_le hLT5 hb6.size
            clear hLT5 hb6
            generalize w5.alloc (.cells #[.int .i64 lv.k, .int .i64 lv.r, .int .i64 lv.w, .int .i64 lv.v] 40) = w6 at hN HX HST hLT6 ⊢
            generalize w5.heap.size = B1 at hN ⊢
            cases bb with
            | false =>
              have HSU : Hid (succ1 p (vec f) h = []) := succ1_no HOC.out.2 HMO.out
              have ea : succTo p (vec f) (h + 1) = succTo p (vec f) h := by rw [succTo_succ, HSU.out]; simp
              have HEA := Lib.hid ea
              clear hN ea hLT6
              go_wp2_with fail
              go_roundg (p.length - h)
              case measure => have := HHG.out; omega
              case rel => exact ⟨h + 1, g, by go_num, by omega, by omega, by rw [HEA.out]; exact HX.out, HST.out, HL0.out, HNC.out.next (fun e => by rw [HMO.out] at e; cases e)⟩
            | true =>
              have HLVE : Hid (lv = line p f h) := HLV.out (by trivial)
              have HGL : Hid (Pr.Good words lv) := HLVE.out ▸ HF.out.line (HOC.out.1.at0 h h4).1 HMO.out
              have HRN : Hid (Reach p (done f h lv)) := HLVE.out ▸ .step HRF.out hhn HMO.out
              have HSU : Hid (succ1 p (vec f) h = [vec (done f h lv)]) := HLVE.out ▸ succ1_yes HOC.out.2 HMO.out
              have HN := Lib.hid hN
              have HLT := Lib.hid hLT6
              clear hN hLT6
              go_wp2_with fail
              go_loopg [44] (h + 1) (fun gg s44 wr => ∃ k : Nat, s44 = .int .i64 k ∧ k + gg = h + 1 ∧ k ≤ h ∧ Below w6.heap.size w6 wr ∧ ∀ b, b < k → more p f b = true → clash lv (line p f b) = false)
              case atStart => exact ⟨0, rfl, by omega, by omega, Below.refl _ _, fun b hb => by omega⟩
              case round =>
                obtain ⟨k, rfl, hkg, hkh, hbk, hck⟩ := hrel
                have HKG := Lib.hid hkg
                have HBK := Lib.hid hbk
                have HCK2 := Lib.hid hck
                clear hkg hbk hck
                have HX2 := Lib.hid (HX.out.below HBK.out)
                have HST2 := Lib.hid (HST.out.keep (HBK.out.block _ HLT.out))
                have HN2 := Lib.hid (HN.out.below HBK.out HN.out.lt)
                by_cases hkn : k < h
                · have hkI : (k : Int) < h := by omega
                  have b0 : wr.cell? ⟨w.heap.size, 0, none⟩ = some (.int .i64 words) := HX2.out.box.cell 0
                  have b1 : wr.cell? ⟨w.heap.size, 1, none⟩ = some (.slice a p.length cap) := HX2.out.box.cell 1
                  go_wp2_with fail
                  refine (next_any (HX2.out.pg HP.out) HST2.out (show k < p.length by omega) (by omega) (HOC.out.1.at0 k (by omega))).mono ?_
                  rintro e w7 ⟨lv2, bb2, rfl, hmo2, hlv2, hbel2⟩
                  have HMO2 := Lib.hid hmo2
                  have HLV2 := Lib.hid hlv2
                  replace HN2 := Lib.hid (HN2.out.below hbel2 HN2.out.lt)
                  have HB7 := Lib.hid (HBK.out.trans (hbel2.mono HBK.out.size))
                  clear b0 b1 hmo2 hlv2 hbel2 HX2 HST2
                  go_upto_region 19 with fail
                  have hN8 := Blk.new w7 #[.int .i64 lv2.k, .int .i64 lv2.r, .int .i64 lv2.w, .int .i64 lv2.v] 40
                  have hB8 : Below w6.heap.size w6 (w7.alloc (.cells #[.int .i64 lv2.k, .int .i64 lv2.r, .int .i64 lv2.w, .int .i64 lv2.v] 40)) := HB7.out.alloc HB7.out.size _
                  have hN7 := HN2.out.alloc (.cells #[.int .i64 lv2.k, .int .i64 lv2.r, .int .i64 lv2.w, .int .i64 lv2.v] 40)
                  clear HN2 HB7
                  generalize w7.alloc (.cells #[.int .i64 lv2.k, .int .i64 lv2.r, .int .i64 lv2.w, .int .i64 lv2.v] 40) = w8 at hN8 hB8 hN7 ⊢
                  generalize w7.heap.size = B2 at hN8 ⊢
                  have HB8 := Lib.hid hB8
                  clear hB8
                  cases bb2 with
                  | false =>
                    clear hN7 hN8
                    go_wp2_with fail
                    go_roundg (h - k)
                    case measure => have := HKG.out; omega
                    case rel => exact ⟨k + 1, by go_num, by omega, by omega, HB8.out, fun b hb hm => by
                      by_cases e : b = k
                      · subst e; rw [HMO2.out] at hm; cases hm
                      · exact HCK2.out b (by omega) hm⟩
                  | true =>
                    have l0 : w8.cell? ⟨B1, 0, none⟩ = some (.int .i64 lv.k) := hN7.cell 0
                    have l1 : w8.cell? ⟨B1, 1, none⟩ = some (.int .i64 lv.r) := hN7.cell 1
                    have l2 : w8.cell? ⟨B1, 2, none⟩ = some (.int .i64 lv.w) := hN7.cell 2
                    have l3 : w8.cell? ⟨B1, 3, none⟩ = some (.int .i64 lv.v) := hN7.cell 3
                    have m0 : w8.cell? ⟨B2, 0, none⟩ = some (.int .i64 lv2.k) := hN8.cell 0
                    have m1 : w8.cell? ⟨B2, 1, none⟩ = some (.int .i64 lv2.r) := hN8.cell 1
                    have m2 : w8.cell? ⟨B2, 2, none⟩ = some (.int .i64 lv2.w) := hN8.cell 2
                    have m3 : w8.cell? ⟨B2, 3, none⟩ = some (.int .i64 lv2.v) := hN8.cell 3
                    clear hN7 hN8
                    have HLV2E : Hid (lv2 = line p f k) := HLV2.out (by trivial)
                    go_wp2_with fail
                    refine clash_any.mono ?_
                    rintro e w9 ⟨rfl, hb9⟩
                    have HB9 := Lib.hid (HB8.out.trans (hb9.mono HB8.out.size))
                    clear l0 l1 l2 l3 m0 m1 m2 m3 hb9
                    cases hcl : clash lv lv2 with
                    | true =>
                      have HT : Hid (RTold words p (.returned (.tuple #[.bool true, .nilIface]))) := .yes HCK.out (races_yes HF.out HI.out (List.mem_of_getElem? HV.out) (by
                        rw [fn_vec HOC.out.2]
                        exact ⟨h, k, hkn, hhn, HMO.out, HMO2.out, by rw [← HLVE.out, ← HLV2E.out]; exact hcl⟩))
                      have HBL := Lib.hid (HX.out.bel.trans (HB9.out.mono HX.out.bel.size))
                      clear hcl
                      go_wp2_with fail
                      go_ret2
                      exact ⟨HT.out, HBL.out⟩
                    | false =>
                      have HCL := Lib.hid hcl
                      clear hcl
                      go_wp2_with fail
                      go_roundg (h - k)
                      case measure => have := HKG.out; omega
                      case rel => exact ⟨k + 1, by go_num, by omega, by omega, HB9.out, fun b hb hm => by
                        by_cases e : b = k
                        · subst e; rw [← HLV2E.out]; exact HCL.out
                        · exact HCK2.out b (by omega) hm⟩
                · obtain rfl : k = h := by omega
                  have HRG := Lib.hid (st_range HST2.out)
                  have HB : Hid (Blk (wr.alloc (.cells (List.toArray (Value.int .i64 0 :: Value.int .i64 0 :: Value.int .i64 0 :: Value.int .i64 0 :: Value.int .i64 0 :: Value.int .i64 0 :: Value.int .i64 0 :: Value.int .i64 0 :: Value.int .i64 0 :: Value.int .i64 0 :: Value.int .i64 0 :: Value.int .i64 0 :: Value.int .i64 0 :: Value.int .i64 0 :: Value.int .i64 0 :: Value.int .i64 0 :: [])) 67)) wr.heap.size (List.toArray (Value.int .i64 0 :: Value.int .i64 0 :: Value.int .i64 0 :: Value.int .i64 0 :: Value.int .i64 0 :: Value.int .i64 0 :: Value.int .i64 0 :: Value.int .i64 0 :: Value.int .i64 0 :: Value.int .i64 0 :: Value.int .i64 0 :: Value.int .i64 0 :: Value.int .i64 0 :: Value.int .i64 0 :: Value.int .i64 0 :: Value.int .i64 0 :: [])) 67) := Blk.new _ _ _
                  have HNB : Hid (NewBox wr f ((wr.alloc (.cells (List.toArray (Value.int .i64 0 :: Value.int .i64 0 :: Value.int .i64 0 :: Value.int .i64 0 :: Value.int .i64 0 :: Value.int .i64 0 :: Value.int .i64 0 :: Value.int .i64 0 :: Value.int .i64 0 :: Value.int .i64 0 :: Value.int .i64 0 :: Value.int .i64 0 :: Value.int .i64 0 :: Value.int .i64 0 :: Value.int .i64 0 :: Value.int .i64 0 :: [])) 67)).setRow wr.heap.size (ints (vec f)).toArray)) := new_box wr f rfl
                  go_upto_region 23 with (first | (refine wpList_load_mid rfl 67 _ rfl _ _ rfl (ints (vec f)) _ HRG.out Tryd.underlying67 rfl (vec_info2 f) ?_) | (refine wpList_store_row rfl 67 _ _ rfl _ (ints (vec f)).toArray rfl rfl 67 (List.toArray (Value.int .i64 0 :: Value.int .i64 0 :: Value.int .i64 0 :: Value.int .i64 0 :: Value.int .i64 0 :: Value.int .i64 0 :: Value.int .i64 0 :: Value.int .i64 0 :: Value.int .i64 0 :: Value.int .i64 0 :: Value.int .i64 0 :: Value.int .i64 0 :: Value.int .i64 0 :: Value.int .i64 0 :: Value.int .i64 0 :: Value.int .i64 0 :: [])) HB.out (vec_info f) (by rw [vec_size]; rfl) (vec_one f) ?_))
                  generalize (wr.alloc (.cells (List.toArray (Value.int .i64 0 :: Value.int .i64 0 :: Value.int .i64 0 :: Value.int .i64 0 :: Value.int .i64 0 :: Value.int .i64 0 :: Value.int .i64 0 :: Value.int .i64 0 :: Value.int .i64 0 :: Value.int .i64 0 :: Value.int .i64 0 :: Value.int .i64 0 :: Value.int .i64 0 :: Value.int .i64 0 :: Value.int .i64 0 :: Value.int .i64 0 :: [])) 67)).setRow wr.heap.size (ints (vec f)).toArray = w7 at HNB ⊢
                  have hN7 := HN2.out.below HNB.out.bel HN2.out.lt
                  have HLTR : Hid (L < wr.heap.size) := Nat.lt_of_lt_of_le HLT.out HBK.out.size
                  clear HB HRG HN2 HN HX HST HLT HBK
                  have l0 : w7.cell? ⟨B1, 0, none⟩ = some (.int .i64 lv.k) := hN7.cell 0
                  have l1 : w7.cell? ⟨B1, 1, none⟩ = some (.int .i64 lv.r) := hN7.cell 1
                  have l2 : w7.cell? ⟨B1, 2, none⟩ = some (.int .i64 lv.w) := hN7.cell 2
                  have l3 : w7.cell? ⟨B1, 3, none⟩ = some (.int .i64 lv.v) := hN7.cell 3
                  clear hN7
                  go_wp2_with fail
                  refine (do_any HGL.out HF.out.w.2 HNB.out.st h4 (HOC.out.1.at0 k h4)).mono ?_
                  rintro e w8 ⟨rfl, hst, hog⟩
                  have hk8 := HNB.out.bel.trans (hog.below (B := wr.heap.size) (by simp) HNB.out.bel.size)
                  have HST3 := Lib.hid (HST2.out.keep (hk8.block _ HLTR.out))
                  have HX3 := Lib.hid (HX2.out.below hk8)
                  have HL8 : Hid (L < w8.heap.size) := Nat.lt_of_lt_of_le HLTR.out hk8.size
                  clear l0 l1 l2 l3 hog hk8 HNB HST2 HX2
                  generalize done f k lv = f' at hst HRN HSU
                  have HRG := Lib.hid (st_range hst)
                  clear hst
                  go_wp2_with (refine wpList_load_mid rfl 67 _ rfl _ _ rfl (ints (vec f')) _ HRG.out Tryd.underlying67 rfl (vec_info2 f') ?_)
                  refine (add_any HX3.out.q (wf_vec HF.out HRN.out) (by omega)).mono ?_
                  rintro e w9 ⟨rfl, g', hq, ho, hg⟩
                  have hX := HX3.out.add hq ho hg
                  have ea : Bfs.add (Bfs.addAll ss (succTo p (vec f) k)) (vec f') = Bfs.addAll ss (succTo p (vec f) (k + 1)) := by
                    rw [succTo_succ, Bfs.addAll_append, HSU.out]; rfl
                  rw [ea] at hX
                  have HX4 := Lib.hid hX
                  have HST4 := Lib.hid (HST3.out.keep (ho.block L HL8.out (by have := HL0.out; simp; omega)))
                  have HL4 : Hid (w.heap.size < L ∧ L ≠ Q ∧ L ≠ B ∧ L ≠ g') := by
                    have := HL0.out
                    have := HL8.out
                    refine ⟨by omega, by omega, by omega, by omega⟩
                  clear hq ho hg hX ea HRG
                  go_wp2_with fail
                  go_roundg (p.length - k)
                  case measure => have := HHG.out; omega
                  case rel => exact ⟨k + 1, g', by go_num, by omega, by omega, HX4.out, HST4.out, HL4.out, HNC.out.next (fun _ b hb hm => by rw [← HLVE.out]; exact HCK2.out b hb hm)⟩
          · obtain rfl : h = p.length := by omega
            have HNX := Lib.hid (HI.out.next HV.out)
            have HAL : Hid (∀ j v, j < i + 1 → (Bfs.addAll ss (succ p (vec f)))[j]? = some v → ¬ ClashAt p (fn v)) := fun j v hj hv => by
              rw [Bfs.addAll_get (by omega)] at hv
              by_cases e : j = i
              · subst e
                rw [HV.out] at hv
                cases hv
                rw [fn_vec HOC.out.2]
                exact HNC.out.all
              · exact HRO.out j v (by omega) hv
            go_wp2_with fail
            go_roundg (21523361 - (i + 1))
            case measure => have := HIG.out; omega
            case rel => exact ⟨i + 1, g, _, by go_num, by omega, HX.out, HNX.out, HAL.out⟩
      · obtain rfl : i = ss.length := by omega
        have HT : Hid (RTold words p (.returned (.tuple #[.bool false, .nilIface]))) := .no HCK.out (races_no HF.out HI.out (fun v hv => by
          obtain ⟨j, hj⟩ := List.getElem?_of_mem hv
          exact HRO.out j v (List.getElem?_eq_some_iff.1 hj).1 hj))
        go_wp2_with fail
        go_ret2
        exact ⟨HT.out, HX.out.bel⟩
  · have ev : errVal (check words p) = .iface 74 (.int .i64 (check words p)) := by simp [errVal, hc]
    have HCE := Lib.hid hc
    rw [ev]
    clear ev hc
    go_wp2_with fail
    go_ret2
    exact ⟨.err HCE.out, HC.out.bel⟩
end Go.Proofs.YtimbdjmplcgilaaDoor.Sc
