import Derived.Test.YtimbdjmplcgilaaDoorScRes
namespace Go.Proofs.YtimbdjmplcgilaaDoor.Sc
open Go.RowKit Pr SortFn SQ
set_option linter.unusedVariables false

/-- A state laid into a new box. -/
structure NewBox (w : World) (f : St) (w' : World) : Prop where
  bel : Below w.heap.size w w'
  lt : w.heap.size < w'.heap.size
  st : StAt w' w.heap.size f
theorem new_box (w : World) (f : St) {z : Array Value} (hz : z.size = 16) : NewBox w f ((w.alloc (.cells z 67)).setRow w.heap.size (ints (vec f)).toArray) := by
  have hb : Blk (w.alloc (.cells z 67)) w.heap.size z 67 := Blk.new _ _ _
  have h2 := Blk.setRow (c' := (ints (vec f)).toArray) hb
  exact ⟨below_setRow ((Below.refl _ _).alloc (Nat.le_refl _) _) (Nat.le_refl _) _, h2.lt, st_box h2⟩
theorem vec_size (f : St) : (ints (vec f)).toArray.size = 16 := by simp [ints, vec]
theorem vec_one (f : St) : (ints (vec f)).toArray.all (·.oneCell') = true := all_oneCell_toArray (fun v hv => by simp [ints] at hv; obtain ⟨x, -, rfl⟩ := hv; rfl)
theorem vec_info (f : St) : (Tryd.prog.info? 67).map (·.size) = some (ints (vec f)).toArray.size := by rw [infoK, vec_size]
theorem vec_info2 (f : St) : (Tryd.prog.info? 67).map (·.size) = some (ints (vec f)).length := by rw [infoK]; simp [ints, vec]
theorem st_range {w : World} {L : Nat} {f : St} (h : StAt w L f) : w.rangeAt L 0 (ints (vec f)) := by
  intro j v hv
  have hj : j < 16 := by
    have := (List.getElem?_eq_some_iff.1 hv).1
    simpa [ints, vec] using this
  rw [Nat.zero_add, (h j hj).1]
  have := ints_vec f hj
  simp only [List.getElem?_toArray] at this
  rw [this] at hv
  exact hv
theorem succ1_yes {p : List (List Ln)} {f : St} {h : Nat} (hc : Canon f) (hm : more p f h = true) : succ1 p (vec f) h = [vec (done f h (line p f h))] := by
  unfold succ1; rw [fn_vec hc, if_pos hm]
theorem succ1_no {p : List (List Ln)} {f : St} {h : Nat} (hc : Canon f) (hm : more p f h = false) : succ1 p (vec f) h = [] := by
  unfold succ1; rw [fn_vec hc, if_neg (by rw [hm]; simp)]

set_option maxHeartbeats 8000000 in
set_option maxRecDepth 100000 in
theorem results_any {w : World} {words : Int} {u : Value} {p : List (List Ln)} (hp : IsProg w u p) :
    Calls Tryd.prog 8 #[.agg #[.int .i64 words, u]] w fun e w' => Told words p w w' e ∧ Below w.heap.size w w' := by
  have HP := Lib.hid hp
  have HC := Lib.hid (cbox w words u)
  obtain ⟨a, cap, rfl, hl, -⟩ := hp
  unfold maxLen at hl
  go_enter Tryd.func8, Tryd.ntmps8
  go_wp2_with fail
  generalize w.alloc (.cells #[.int .i64 words, .slice a p.length cap] 24) = wx at HC ⊢
  have b0 : wx.cell? ⟨w.heap.size, 0, none⟩ = some (.int .i64 words) := HC.out.box.cell 0
  have b1 : wx.cell? ⟨w.heap.size, 1, none⟩ = some (.slice a p.length cap) := HC.out.box.cell 1
  go_wp2_with fail
  refine (check_any (HP.out.below HC.out.bel)).mono ?_
  rintro e w1 ⟨rfl, hb1⟩
  replace HC := Lib.hid (HC.out.below hb1)
  clear b0 b1 hb1
  by_cases hc : check words p = 0
  · have HCK := Lib.hid hc
    have ev : errVal (check words p) = .nilIface := by rw [hc]; rfl
    rw [ev]
    clear hc ev
    have HF := Lib.hid (fine_of HCK.out)
    have HN3 : p.length ≤ 3 := HF.out.n.2
    go_upto_region 5 with fail
    have hQ : Blk (w1.alloc (.cells #[.map none, .slice none 0 0] 61)) w1.heap.size #[.map none, .slice none 0 0] 61 := Blk.new _ _ _
    have HC2 := Lib.hid (HC.out.alloc (.cells #[.map none, .slice none 0 0] 61))
    have hQ1 : w.heap.size < w1.heap.size := by have := HC.out.size; omega
    clear HC
    generalize w1.alloc (.cells #[.map none, .slice none 0 0] 61) = wy at hQ HC2 ⊢
    generalize w1.heap.size = Q at hQ hQ1 ⊢
    have hadd := add_first hQ (wf_vec HF.out (.zero : Reach p St.zero))
    rw [zero_val] at hadd
    have HADD := Lib.hid hadd
    clear hadd hQ
    go_wp2_with fail
    refine HADD.out.mono ?_
    clear HADD
    rintro e w2 ⟨rfl, B, g, hq, ho, hB, hg⟩
    have HX : Hid (SX w words (.slice a p.length cap) Q B g [vec St.zero] (.slice none 0 0) [] [] w2) := by
      have hsz := HC2.out.size
      refine ⟨HC2.out.bel.trans (ho.below (by simp; omega) (by omega)), Nat.le_trans hsz ho.size_le, ho.blk (by simp; omega) HC2.out.box, by omega, hq, OutAt.nil _ _ _⟩
    clear HC2 hq ho hB hg
    obtain ⟨i0, hi, hz0, hz1, hz2⟩ := info_parts infoRow
    go_wp2_with fail
    go_loopg [6, 7] 21523361 (fun gg s6 s7 wr => ∃ (i g : Nat) (ss R : List (List Int)) (vals : List Value) (v : Value), s6 = v ∧ s7 = .int .i64 i ∧ i + gg = 21523361 ∧ SX w words (.slice a p.length cap) Q B g ss v R vals wr ∧ Bfs.Inv (vec St.zero) (succ p) ss i ∧ R = outs words p ss i)
    case atStart => exact ⟨0, g, [vec St.zero], [], [], _, rfl, rfl, by omega, HX.out, Bfs.Inv.start _ _, by rw [outs_zero]⟩
    case round =>
      clear HX
      obtain ⟨i, g, ss, R, vals, _, rfl, rfl, hig, hX, hI, hR⟩ := hrel
      have HX := Lib.hid hX
      have HI := Lib.hid hI
      have HIG := Lib.hid hig
      have HRO := Lib.hid hR
      have hsl : ss.length ≤ 21523360 := bound HF.out hI
      have hile := hI.le
      clear hX hI hig hR
      go_wp2_with fail
      refine (len_any HX.out.q).mono ?_
      rintro e wr ⟨rfl, rfl⟩
      by_cases hin : i < ss.length
      · have hinI : (i : Int) < ss.length := by omega
        obtain ⟨v, hv⟩ : ∃ v, ss[i]? = some v := ⟨_, List.getElem?_eq_getElem hin⟩
        obtain ⟨f, hr, rfl⟩ := (reach_iff HF.out).1 (HI.out.reach v (List.mem_of_getElem? hv))
        have HV := Lib.hid hv
        have HRF := Lib.hid hr
        have HOC := Lib.hid (hr.fine HF.out)
        clear hv hr
        have b1 : wr.cell? ⟨w.heap.size, 1, none⟩ = some (.slice a p.length cap) := HX.out.box.cell 1
        have HXI : Hid (SX w words (.slice a p.length cap) Q B g (Bfs.addAll ss (succTo p (vec f) 0)) u6 R vals wr) := HX.out
        go_wp2_with fail
        go_loopg [8, 29] (p.length + 1) (fun gg s8 s29 wr => ∃ (h g : Nat) (d : Bool), s8 = .bool d ∧ s29 = .int .i64 h ∧ h + gg = p.length + 1 ∧ h ≤ p.length ∧ decide (succTo p (vec f) h = []) = d ∧ SX w words (.slice a p.length cap) Q B g (Bfs.addAll ss (succTo p (vec f) h)) u6 R vals wr)
        case atStart => exact ⟨0, g, true, rfl, rfl, by omega, by omega, by simp [succTo], HXI.out⟩
        case round =>
          clear HX HXI b1
          obtain ⟨h, g, d, rfl, rfl, hhg, hhp, hd, hX⟩ := hrel
          have HX := Lib.hid hX
          have HD := Lib.hid hd
          have HHG := Lib.hid hhg
          clear hX hd hhg
          have HIN := Lib.hid (HI.out.some HV.out (xs := succTo p (vec f) h) (fun b hb => succTo_mem hhp hb))
          have hsl2 : (Bfs.addAll ss (succTo p (vec f) h)).length ≤ 21523360 := bound HF.out HIN.out
          have HV2 : Hid ((Bfs.addAll ss (succTo p (vec f) h))[i]? = some (vec f)) := by show _ = _; rw [Bfs.addAll_get hin]; exact HV.out
          by_cases hhn : h < p.length
          · have hhI : (h : Int) < p.length := by omega
            have h4 : h < 4 := by omega
            go_wp2_with fail
            refine (at_any HX.out.q HV2.out (by omega)).mono ?_
            rintro e w3 ⟨rfl, hb3⟩
            replace HX := Lib.hid (HX.out.below hb3)
            clear hb3
            unfold stVal
            have HB : Hid (Blk (w3.alloc (.cells (List.toArray (Value.int .i64 0 :: Value.int .i64 0 :: Value.int .i64 0 :: Value.int .i64 0 :: Value.int .i64 0 :: Value.int .i64 0 :: Value.int .i64 0 :: Value.int .i64 0 :: Value.int .i64 0 :: Value.int .i64 0 :: Value.int .i64 0 :: Value.int .i64 0 :: Value.int .i64 0 :: Value.int .i64 0 :: Value.int .i64 0 :: Value.int .i64 0 :: [])) 67)) w3.heap.size (List.toArray (Value.int .i64 0 :: Value.int .i64 0 :: Value.int .i64 0 :: Value.int .i64 0 :: Value.int .i64 0 :: Value.int .i64 0 :: Value.int .i64 0 :: Value.int .i64 0 :: Value.int .i64 0 :: Value.int .i64 0 :: Value.int .i64 0 :: Value.int .i64 0 :: Value.int .i64 0 :: Value.int .i64 0 :: Value.int .i64 0 :: Value.int .i64 0 :: [])) 67) := Blk.new _ _ _
            have HNB : Hid (NewBox w3 f ((w3.alloc (.cells (List.toArray (Value.int .i64 0 :: Value.int .i64 0 :: Value.int .i64 0 :: Value.int .i64 0 :: Value.int .i64 0 :: Value.int .i64 0 :: Value.int .i64 0 :: Value.int .i64 0 :: Value.int .i64 0 :: Value.int .i64 0 :: Value.int .i64 0 :: Value.int .i64 0 :: Value.int .i64 0 :: Value.int .i64 0 :: Value.int .i64 0 :: Value.int .i64 0 :: [])) 67)).setRow w3.heap.size (ints (vec f)).toArray)) := new_box w3 f rfl
            go_upto_region 15 with (refine wpList_store_row rfl 67 _ _ rfl _ (ints (vec f)).toArray rfl rfl 67 (List.toArray (Value.int .i64 0 :: Value.int .i64 0 :: Value.int .i64 0 :: Value.int .i64 0 :: Value.int .i64 0 :: Value.int .i64 0 :: Value.int .i64 0 :: Value.int .i64 0 :: Value.int .i64 0 :: Value.int .i64 0 :: Value.int .i64 0 :: Value.int .i64 0 :: Value.int .i64 0 :: Value.int .i64 0 :: Value.int .i64 0 :: Value.int .i64 0 :: [])) HB.out (vec_info f) (by rw [vec_size]; rfl) (vec_one f) ?_)
            generalize (w3.alloc (.cells (List.toArray (Value.int .i64 0 :: Value.int .i64 0 :: Value.int .i64 0 :: Value.int .i64 0 :: Value.int .i64 0 :: Value.int .i64 0 :: Value.int .i64 0 :: Value.int .i64 0 :: Value.int .i64 0 :: Value.int .i64 0 :: Value.int .i64 0 :: Value.int .i64 0 :: Value.int .i64 0 :: Value.int .i64 0 :: Value.int .i64 0 :: Value.int .i64 0 :: [])) 67)).setRow w3.heap.size (ints (vec f)).toArray = w4 at HNB ⊢
            have HK := Lib.hid HNB.out.bel
            have HST := Lib.hid HNB.out.st
            have HLT := Lib.hid HNB.out.lt
            clear HB HNB
            have b0 : w4.cell? ⟨w.heap.size, 0, none⟩ = some (.int .i64 words) := (HX.out.below HK.out).box.cell 0
            have b1 : w4.cell? ⟨w.heap.size, 1, none⟩ = some (.slice a p.length cap) := (HX.out.below HK.out).box.cell 1
            go_wp2_with fail
            refine (next_any ((HX.out.below HK.out).pg HP.out) HST.out hhn h4 (HOC.out.1.at0 h h4)).mono ?_
            rintro e w5 ⟨lv, bb, rfl, hmo, hlv, hbel⟩
            have HK5 := Lib.hid (HK.out.trans (hbel.mono (by have := HLT.out; omega)))
            have HST5 := Lib.hid (HST.out.keep (hbel.block _ HLT.out))
            have HLT5 : Hid (w3.heap.size < w5.heap.size) := Nat.lt_of_lt_of_le HLT.out hbel.size
            have HMO := Lib.hid hmo
            have HLV := Lib.hid hlv
            clear b0 b1 hbel hmo hlv HK HST HLT
            go_upto_region 16 with fail
            have hN := Blk.new w5 #[.int .i64 lv.k, .int .i64 lv.r, .int .i64 lv.w, .int .i64 lv.v] 40
            have HK6 := Lib.hid (HK5.out.alloc (Nat.le_of_lt HLT5.out) (.cells #[.int .i64 lv.k, .int .i64 lv.r, .int .i64 lv.w, .int .i64 lv.v] 40))
            have HST6 := Lib.hid (HST5.out.keep (w' := w5.alloc (.cells #[.int .i64 lv.k, .int .i64 lv.r, .int .i64 lv.w, .int .i64 lv.v] 40)) (RowKit.Below.heap_alloc _ _ _ HLT5.out))
            clear HK5 HST5
            generalize w5.alloc (.cells #[.int .i64 lv.k, .int .i64 lv.r, .int .i64 lv.w, .int .i64 lv.v] 40) = w6 at hN HK6 HST6 ⊢
            cases bb with
            | true =>
              have l0 : w6.cell? ⟨w5.heap.size, 0, none⟩ = some (.int .i64 lv.k) := hN.cell 0
              have l1 : w6.cell? ⟨w5.heap.size, 1, none⟩ = some (.int .i64 lv.r) := hN.cell 1
              have l2 : w6.cell? ⟨w5.heap.size, 2, none⟩ = some (.int .i64 lv.w) := hN.cell 2
              have l3 : w6.cell? ⟨w5.heap.size, 3, none⟩ = some (.int .i64 lv.v) := hN.cell 3
              clear hN
              have HLVE : Hid (lv = line p f h) := HLV.out (by trivial)
              have HGL : Hid (Pr.Good words lv) := HLVE.out ▸ HF.out.line (HOC.out.1.at0 h h4).1 HMO.out
              have HRN : Hid (Reach p (done f h lv)) := HLVE.out ▸ .step HRF.out hhn HMO.out
              have HSU : Hid (succ1 p (vec f) h = [vec (done f h lv)]) := HLVE.out ▸ succ1_yes HOC.out.2 HMO.out
              go_wp2_with fail
              refine (do_any HGL.out HF.out.w.2 HST6.out h4 (HOC.out.1.at0 h h4)).mono ?_
              rintro e w7 ⟨rfl, hst, hog⟩
              have hk7 := HK6.out.trans (hog.below (B := w3.heap.size) (by simp) HK6.out.size)
              replace HX := Lib.hid (HX.out.below hk7)
              clear l0 l1 l2 l3 hog HK6 HST6 hk7
              generalize done f h lv = f' at hst HRN HSU
              have HRG := Lib.hid (st_range hst)
              clear hst
              go_wp2_with (refine wpList_load_mid rfl 67 _ rfl _ _ rfl (ints (vec f')) _ HRG.out Tryd.underlying67 rfl (vec_info2 f') ?_)
              refine (add_any HX.out.q (wf_vec HF.out HRN.out) (by omega)).mono ?_
              rintro e w8 ⟨rfl, g', hq, ho, hg⟩
              have hX := HX.out.add hq ho hg
              have ea : Bfs.add (Bfs.addAll ss (succTo p (vec f) h)) (vec f') = Bfs.addAll ss (succTo p (vec f) (h + 1)) := by
                rw [succTo_succ, Bfs.addAll_append, HSU.out]; rfl
              rw [ea] at hX
              replace HX := Lib.hid hX
              have HDN : Hid (decide (succTo p (vec f) (h + 1) = []) = false) := by show _ = _; rw [succTo_succ, HSU.out]; simp
              clear hq ho hg hX ea HRG
              go_wp2_with fail
              go_roundg (p.length - h)
              case measure => have := HHG.out; omega
              case rel => exact ⟨h + 1, g', false, rfl, by go_num, by omega, by omega, HDN.out, HX.out⟩
            | false =>
              have HSU : Hid (succ1 p (vec f) h = []) := succ1_no HOC.out.2 HMO.out
              have ea : succTo p (vec f) (h + 1) = succTo p (vec f) h := by rw [succTo_succ, HSU.out]; simp
              have HEA := Lib.hid ea
              replace HX := Lib.hid (HX.out.below HK6.out)
              clear hN ea
              go_wp2_with fail
              go_roundg (p.length - h)
              case measure => have := HHG.out; omega
              case rel => exact ⟨h + 1, g, d, rfl, by go_num, by omega, by omega, by rw [HEA.out]; exact HD.out, by rw [HEA.out]; exact HX.out⟩
          · obtain rfl : h = p.length := by omega
            have HNX := Lib.hid (HI.out.next HV.out)
            have HON := Lib.hid (outs_next (words := words) (p := p) (xs := succ p (vec f)) HV.out)
            cases d with
            | false =>
              have HRN : Hid (R = outs words p (Bfs.addAll ss (succ p (vec f))) (i + 1)) := by
                have := HD.out
                show R = _
                rw [HON.out, if_neg (by simpa [succ] using this), List.append_nil]; exact HRO.out
              go_wp2_with fail
              go_roundg (21523361 - (i + 1))
              case measure => have := HIG.out; omega
              case rel => exact ⟨i + 1, g, _, R, vals, _, rfl, by go_num, by omega, HX.out, HNX.out, HRN.out⟩
            | true =>
              have HRN : Hid (R ++ [result words p f] = outs words p (Bfs.addAll ss (succ p (vec f))) (i + 1)) := by
                have := HD.out
                show R ++ _ = _
                rw [HON.out, if_pos (by simpa [succ] using this), HRO.out]
                unfold resV; rw [fn_vec HOC.out.2]
              have HRL : Hid (R.length ≤ 21523360) := by
                show _ ≤ _
                rw [HRO.out]; exact Nat.le_trans (outs_len _ _ _ _) hsl
              go_wp2_with fail
              refine (at_any HX.out.q HV2.out (by omega)).mono ?_
              rintro e w3 ⟨rfl, hb3⟩
              replace HX := Lib.hid (HX.out.below hb3)
              clear hb3
              unfold stVal
              have HB : Hid (Blk (w3.alloc (.cells (List.toArray (Value.int .i64 0 :: Value.int .i64 0 :: Value.int .i64 0 :: Value.int .i64 0 :: Value.int .i64 0 :: Value.int .i64 0 :: Value.int .i64 0 :: Value.int .i64 0 :: Value.int .i64 0 :: Value.int .i64 0 :: Value.int .i64 0 :: Value.int .i64 0 :: Value.int .i64 0 :: Value.int .i64 0 :: Value.int .i64 0 :: Value.int .i64 0 :: [])) 67)) w3.heap.size (List.toArray (Value.int .i64 0 :: Value.int .i64 0 :: Value.int .i64 0 :: Value.int .i64 0 :: Value.int .i64 0 :: Value.int .i64 0 :: Value.int .i64 0 :: Value.int .i64 0 :: Value.int .i64 0 :: Value.int .i64 0 :: Value.int .i64 0 :: Value.int .i64 0 :: Value.int .i64 0 :: Value.int .i64 0 :: Value.int .i64 0 :: Value.int .i64 0 :: [])) 67) := Blk.new _ _ _
              have HNB : Hid (NewBox w3 f ((w3.alloc (.cells (List.toArray (Value.int .i64 0 :: Value.int .i64 0 :: Value.int .i64 0 :: Value.int .i64 0 :: Value.int .i64 0 :: Value.int .i64 0 :: Value.int .i64 0 :: Value.int .i64 0 :: Value.int .i64 0 :: Value.int .i64 0 :: Value.int .i64 0 :: Value.int .i64 0 :: Value.int .i64 0 :: Value.int .i64 0 :: Value.int .i64 0 :: Value.int .i64 0 :: [])) 67)).setRow w3.heap.size (ints (vec f)).toArray)) := new_box w3 f rfl
              go_upto_region 23 with (refine wpList_store_row rfl 67 _ _ rfl _ (ints (vec f)).toArray rfl rfl 67 (List.toArray (Value.int .i64 0 :: Value.int .i64 0 :: Value.int .i64 0 :: Value.int .i64 0 :: Value.int .i64 0 :: Value.int .i64 0 :: Value.int .i64 0 :: Value.int .i64 0 :: Value.int .i64 0 :: Value.int .i64 0 :: Value.int .i64 0 :: Value.int .i64 0 :: Value.int .i64 0 :: Value.int .i64 0 :: Value.int .i64 0 :: Value.int .i64 0 :: [])) HB.out (vec_info f) (by rw [vec_size]; rfl) (vec_one f) ?_)
              generalize (w3.alloc (.cells (List.toArray (Value.int .i64 0 :: Value.int .i64 0 :: Value.int .i64 0 :: Value.int .i64 0 :: Value.int .i64 0 :: Value.int .i64 0 :: Value.int .i64 0 :: Value.int .i64 0 :: Value.int .i64 0 :: Value.int .i64 0 :: Value.int .i64 0 :: Value.int .i64 0 :: Value.int .i64 0 :: Value.int .i64 0 :: Value.int .i64 0 :: Value.int .i64 0 :: [])) 67)).setRow w3.heap.size (ints (vec f)).toArray = w4 at HNB ⊢
              have b0 : w4.cell? ⟨w.heap.size, 0, none⟩ = some (.int .i64 words) := (HX.out.below HNB.out.bel).box.cell 0
              have b1 : w4.cell? ⟨w.heap.size, 1, none⟩ = some (.slice a p.length cap) := (HX.out.below HNB.out.bel).box.cell 1
              clear HB
              go_wp2_with fail
              refine (result_any ((HX.out.below HNB.out.bel).pg HP.out) HNB.out.st HN3 HF.out.w).mono ?_
              rintro e w5 ⟨x, rfl, hg, hbel⟩
              have HK := Lib.hid (HNB.out.bel.trans (hbel.mono HNB.out.bel.size))
              have HGN : Hid (Nums w5 x (result words p f) ∧ ∃ b, x.ownBlock = some b ∧ w3.heap.size ≤ b ∧ b < w5.heap.size) := by
                obtain ⟨a1, b, b1, b2, b3⟩ := gave_nums hg (by
                  have := result_len (words := words) (p := p) (f := f) (by have := HF.out.w; omega)
                  have := HF.out.w
                  unfold maxLen; omega)
                exact ⟨a1, b, b1, Nat.le_trans HNB.out.bel.size b2, b3⟩
              have HXO : Hid (OutAt w5 (w.heap.size + 1) [Q, B, g] u6 R vals) := (HX.out.below HK.out).out
              obtain ⟨a1, c1, rfl, -⟩ := HGN.out.1
              have HSZ : Hid (w.heap.size + 1 ≤ w5.heap.size) := (HX.out.below HK.out).size
              clear hg hbel b0 b1 HNB
              go_wp2_with (at_builtin; refine wpList_append_own_at _ rfl _ _ 26 rfl (w.heap.size + 1) 47 i0 (.slice none 0 0) 1 24 Tryd.underlying26 hi hz0 hz1 hz2 rfl (by decide) _ R.length vals rfl (HXO.out.own.alloc _) ⟨w5.heap.size, 0, none⟩ 1 1 [.slice a1 (result words p f).length c1] rfl rfl ?c1 ?c2 ?c3 ?c4 ?c5 ?_)
              case c1 => exact fun j u h => news_cell w5 _ _ j u h
              case c2 => intro y hy; simp at hy; subst hy; rfl
              case c3 => have := HRL.out; unfold maxLen; omega
              case c4 => have := HRL.out; omega
              case c5 => have := HSZ.out; simp; omega
              intro v' w6 hown hgrow _ hat
              have hX := HX.out.push HK.out HGN.out hown hgrow (by simpa using hat) rfl rfl
              replace HX := Lib.hid hX
              clear hX hown hgrow hat HXO
              go_wp2_with fail
              go_roundg (21523361 - (i + 1))
              case measure => have := HIG.out; omega
              case rel => exact ⟨i + 1, g, _, _, _, _, rfl, by go_num, by omega, HX.out, HNX.out, HRN.out⟩
      · obtain rfl : i = ss.length := by omega
        have HME : Hid (∀ x, x ∈ R ↔ Ends words p x) := fun x => by rw [HRO.out]; exact outs_mem HF.out HI.out
        have HR0 : Hid (R.length ≠ 0) := by
          obtain ⟨x, hx⟩ := run_nil HCK.out
          have := (HME.out x).2 (run_ends hx)
          intro e
          have : R = [] := by simpa using e
          simp_all
        have HRL : Hid (R.length ≤ 21523360) := by
          show _ ≤ _
          rw [HRO.out]; exact Nat.le_trans (outs_len _ _ _ _) hsl
        go_wp2_with fail
        refine (sorted_any HX.out.out HR0.out (by have := HRL.out; omega) HX.out.size).mono ?_
        rintro e w2 ⟨x, M, rfl, hM, hrise, hmem, hlen, hbel⟩
        have HT : Hid (Told words p w w2 (.returned (.tuple #[x, .nilIface]))) := .ok HCK.out hM ⟨hrise, fun y => by rw [hmem]; exact HME.out y⟩ (Nat.le_trans hlen HRL.out)
        have HBL := Lib.hid (HX.out.bel.trans (hbel.mono (by omega)))
        clear hM hrise hmem hlen hbel
        go_wp2_with fail
        go_ret2
        exact ⟨HT.out, HBL.out⟩
  · have ev : errVal (check words p) = .iface 74 (.int .i64 (check words p)) := by simp [errVal, hc]
    have HCE := Lib.hid hc
    rw [ev]
    clear ev hc
    go_wp2_with fail
    go_ret2
    exact ⟨.err HCE.out, HC.out.bel⟩
end Go.Proofs.YtimbdjmplcgilaaDoor.Sc
