import Derived.Test.YtimbdjmplcgilaaDoorRfPair
import Derived.Deep.DeepCutAuto
namespace Go.Proofs.YtimbdjmplcgilaaDoor.Rf
open Go.RowKit Pr SortFn
open Tso (TS vec dec enc)
set_option linter.unusedVariables false
set_option linter.unusedSimpArgs false

set_option maxHeartbeats 1000000 in
set_option maxRecDepth 100000 in
theorem results_any {w : World} {words : Int} {u : Value} {p : List (List Ln)} {W : Bool} (hp : IsProg w u p) (hc : check words p = 0) :
    Calls Tryd.prog 6 #[.agg #[.int .i64 words, u], .bool W] w fun e w' => ∃ v R, e = .returned v ∧ Mat w' v R ∧ Bfs.Rise R ∧ (∀ x, x ∈ R ↔ EndsW W words p x) ∧ Below w.heap.size w w' := by
  have HP := Lib.hid hp
  have HF := Lib.hid (fine_of hc)
  obtain ⟨a, cap, rfl, hl, -⟩ := hp
  unfold maxLen at hl
  have hn3 : p.length ≤ 3 := HF.out.n.2
  clear hc hl
  go_enter Tryd.func6, Tryd.ntmps6
  have hmk := make_rows
  go_wp2_with fail
  have hB1 : Blk (w.alloc (.cells #[.int .i64 words, .slice a p.length cap] 24)) w.heap.size #[.int .i64 words, .slice a p.length cap] 24 := Blk.new _ _ _
  generalize hx1 : w.alloc (.cells #[.int .i64 words, .slice a p.length cap] 24) = wx at hB1 ⊢
  have hs1 : wx.heap.size = w.heap.size + 1 := by rw [← hx1]; simp
  have hbx : Below w.heap.size w wx := by rw [← hx1]; exact (Below.refl _ _).alloc (Nat.le_refl _) _
  rw [← hs1]
  have hR1 := Blk.new wx (nilsN 1009) 43
  have hB2 := hB1.alloc (.cells (nilsN 1009) 43)
  have hbx2 : Below w.heap.size w (wx.alloc (.cells (nilsN 1009) 43)) := hbx.trans ((Below.refl _ _).alloc (by omega) _)
  generalize hx2 : wx.alloc (.cells (nilsN 1009) 43) = wy at hR1 hB2 hbx2 ⊢
  have hs2 : wy.heap.size = wx.heap.size + 1 := by rw [← hx2]; simp
  rw [← hs2]
  have hF1 := Blk.new wy #[.slice (some ⟨wx.heap.size, 0, none⟩) 1009 1009, .slice none 0 0] 45
  have hB3 := hB2.alloc (.cells #[.slice (some ⟨wx.heap.size, 0, none⟩) 1009 1009, .slice none 0 0] 45)
  have hR3 := hR1.alloc (.cells #[.slice (some ⟨wx.heap.size, 0, none⟩) 1009 1009, .slice none 0 0] 45)
  have hbx3 : Below w.heap.size w (wy.alloc (.cells #[.slice (some ⟨wx.heap.size, 0, none⟩) 1009 1009, .slice none 0 0] 45)) := hbx2.trans ((Below.refl _ _).alloc (by omega) _)
  generalize wy.alloc (.cells #[.slice (some ⟨wx.heap.size, 0, none⟩) 1009 1009, .slice none 0 0] 45) = wz at hF1 hB3 hR3 hbx3 ⊢
  have hFA := found_zero (w := w) hF1 hR3 (by omega) (by omega) (by omega)
  have hRB : wx.heap.size = w.heap.size + 1 := hs1
  have HT : Hid ((fun b => if b = wy.heap.size then 2000 else if b = wx.heap.size then 2001 else 0) w.heap.size = 0) := by
    show (if w.heap.size = wy.heap.size then 2000 else if w.heap.size = wx.heap.size then 2001 else 0) = 0
    rw [if_neg (by omega), if_neg (by omega)]
  generalize (fun b => if b = wy.heap.size then 2000 else if b = wx.heap.size then 2001 else 0) = tag at hFA HT
  generalize hFe : wy.heap.size = F at hFA ⊢
  generalize hRe : wx.heap.size = RB at hFA ⊢
  have HFA := Lib.hid hFA
  have HBX := Lib.hid hbx3
  have HB := Lib.hid hB3
  clear hFA hF1 hB3 hR3 hbx3 hB2 hR1 hbx2 hx2 hx1 hB1 hbx hs1 hs2 hRB hFe hRe hmk
  refine first_any.mono ?_
  rintro e w1 ⟨x, rfl, hgot, hbel⟩
  obtain ⟨hnx, bx, hbx, hbx1, hbx2⟩ := Lib.hid (got_rvl hgot) |>.out
  have hF2 := HFA.out.below hbel
  have HADD := Lib.hid (add_any hF2 hnx (fun b hb => by rw [hbx] at hb; have e := Option.some.inj hb; subst e; exact ⟨HFA.out.fresh bx hbx1, hbx2⟩) (list46_len _) (fun y hy => by
    obtain ⟨j, -, rfl⟩ := List.mem_map.1 hy
    exact ⟨Int.le_refl _, by omega⟩) (by simp))
  have HX1 : Hid (RX w words (.slice a p.length cap) F RB tag [] (.slice none 0 0) [] w1) := by
    have hb0 := HB.out.lt
    exact ⟨HBX.out.trans (hbel.mono HBX.out.size), HB.out.below hbel hb0, HT.out, hF2, w.heap.size, [], OutAt.nil _ _ _, fun b hb => by simp [Value.ownBlock] at hb, fun x hx => by simp at hx⟩
  have hxs : ∃ g c, x = .slice (some ⟨g, 0, none⟩) 46 c := by obtain ⟨g, c, e, -⟩ := hgot; exact ⟨g, c, e⟩
  obtain ⟨gx, cx, rfl⟩ := hxs
  clear hgot hbel hnx hbx hbx1 hbx2 hF2 HFA HBX HB HT
  go_wp2_with fail
  refine HADD.out.mono ?_
  clear HADD
  rintro e w2 ⟨rfl, tag2, hf2, hadd⟩
  have hsz : w1.heap.size ≤ w2.heap.size := hadd.bel.size
  have HX : Hid (RX w words (.slice a p.length cap) F RB tag2 [vec TS.zero] (.slice none 0 0) [] w2) := by
    refine HX1.out.add ?_ hadd hsz
    have e : Bfs.add [] (list46 fun _ => 0) = [vec TS.zero].map r46 := by
      unfold r46
      have hz := r46_vec HF.out.n.2 ((ReachW.zero : ReachW true p TS.zero).ok HF.out)
      show [list46 fun _ => 0] = [r46 (vec TS.zero)]
      rw [hz, row_zero]
    rw [← e]; exact hf2
  clear HX1 hf2 hadd hsz
  go_wp2_with fail
  go_loopg [6, 7] 72832127858 (fun gg s6 s7 wr => ∃ (i : Nat) (ss R : List (List Int)) (v : Value) (tag : Nat → Nat), s6 = v ∧ s7 = .int .i64 i ∧ i + gg = 72832127858 ∧ RX w words (.slice a p.length cap) F RB tag ss v R wr ∧ Bfs.Inv (vec TS.zero) (succ W p) ss i ∧ Bfs.Rise R ∧ R.length ≤ i ∧ ∀ x, x ∈ R ↔ Outs W words p ss i x)
  case atStart => exact ⟨0, [vec TS.zero], [], _, tag2, rfl, rfl, by omega, HX.out, Bfs.Inv.start _ _, by first | exact Bfs.Rise.nil | simp [Bfs.Rise], Nat.le_refl _, fun x => by simp [Outs]⟩
  case round =>
    clear HX
    obtain ⟨i, ss, R, v, tag, rfl, rfl, hig, hX, hI, hRS, hRl, hRm⟩ := hrel
    have HX := Lib.hid hX
    have HI := Lib.hid hI
    have HIG := Lib.hid hig
    have HRS := Lib.hid hRS
    have HRM := Lib.hid hRm
    have HRL := Lib.hid hRl
    have hsl : ss.length ≤ 72832127856 := bound HF.out hI
    have hile := hI.le
    clear hX hI hig hRS hRm hRl
    by_cases hin : i < ss.length
    · have hinI : (i : Int) < ss.length := by omega
      obtain ⟨gl, cl, gx, cx, c1, hgl, c2, hrv, htx⟩ := HX.out.state hin
      obtain ⟨v, hv⟩ : ∃ v, ss[i]? = some v := ⟨_, List.getElem?_eq_getElem hin⟩
      obtain ⟨s, hr, rfl⟩ := (reach_iff HF.out).1 (HI.out.reach v (List.mem_of_getElem? hv))
      have hvd : dec (ss.getD i []) = s := by rw [List.getD_eq_getElem?_getD, hv]; exact Tso.dec_vec HF.out.n.2 (hr.ok HF.out)
      rw [hvd] at hrv
      have HV := Lib.hid hv
      have HR := Lib.hid hr
      have HRV := Lib.hid hrv
      have HTX := Lib.hid htx
      clear hv hr hvd hrv htx hgl
      have HXI : Hid (RX w words (.slice a p.length cap) F RB tag (Bfs.addAll ss (succTo W p (vec s) 0)) u6 R wr) := HX.out
      go_wp2_with fail
      go_loopg [9, 10] (p.length + 1) (fun gg s9 s10 wq => ∃ (h : Nat) (d : Bool) (tag : Nat → Nat), s9 = .bool d ∧ s10 = .int .i64 h ∧ h + gg = p.length + 1 ∧ h ≤ p.length ∧ decide (succTo W p (vec s) h = []) = d ∧ RX w words (.slice a p.length cap) F RB tag (Bfs.addAll ss (succTo W p (vec s) h)) u6 R wq ∧ RV wq (.slice (some ⟨gx, 0, none⟩) 46 cx) (row s) ∧ tag gx = 0)
      case atStart => exact ⟨0, true, tag, rfl, rfl, by omega, by omega, by simp [succTo], HXI.out, HRV.out, HTX.out⟩
      case round =>
        clear HX HXI HRV HTX c1 c2
        obtain ⟨h, d, tag, rfl, rfl, hhg, hhp, hd, hX, hrv, htx⟩ := hrel
        have HX := Lib.hid hX
        have HD := Lib.hid hd
        have HHG := Lib.hid hhg
        have HRV := Lib.hid hrv
        have HTX := Lib.hid htx
        clear hX hd hhg hrv htx
        have b0 := HX.out.box.cell 0
        have b1 := HX.out.box.cell 1
        simp only [List.getElem?_toArray, List.getElem?_cons_zero, List.getElem?_cons_succ] at b0 b1
        by_cases hhn : h < p.length
        · have hhI : (h : Int) < p.length := by omega
          have h3 : h < 3 := by omega
          go_wp2_with fail
          refine (next_any (HP.out.below HX.out.bel) HRV.out hhn h3 (by rw [row_at s h3]; have := (HR.out.ok HF.out).at0 h; omega)).mono ?_
          rintro e w3 ⟨lv, bb, rfl, hmo, hlv, hbel⟩
          have hmo2 : Tso.mor p h (s.l h) = bb := by rw [← hmo]; unfold Tso.mor rmore; rw [row_at s h3]
          have hlv2 : bb = true → lv = Tso.nxt p h (s.l h) := fun e => by rw [hlv e]; unfold Tso.nxt rline; rw [row_at s h3]
          have hgx : gx < wr.heap.size := by obtain ⟨g, c, e, -, hg, -⟩ := HRV.out; cases e; exact hg
          have HRV3 := Lib.hid (HRV.out.below hbel)
          have HX3 := Lib.hid (HX.out.below hbel)
          have HMO := Lib.hid hmo2
          have HLV := Lib.hid hlv2
          clear hmo hlv hbel hmo2 hlv2 HX HRV b0 b1 hgx
          go_upto_region 14 with fail
          have hN := Blk.new w3 #[.int .i64 lv.k, .int .i64 lv.r, .int .i64 lv.w, .int .i64 lv.v] 40
          have hbn : Below w3.heap.size w3 (w3.alloc (.cells #[.int .i64 lv.k, .int .i64 lv.r, .int .i64 lv.w, .int .i64 lv.v] 40)) := (Below.refl _ _).alloc (Nat.le_refl _) _
          have HX4 := Lib.hid (HX3.out.below hbn)
          have HRV4 := Lib.hid (HRV3.out.below hbn)
          have HN := Lib.hid hN
          clear hN hbn HX3 HRV3
          generalize w3.alloc (.cells #[.int .i64 lv.k, .int .i64 lv.r, .int .i64 lv.w, .int .i64 lv.v] 40) = w4 at HX4 HRV4 HN ⊢
          generalize w3.heap.size = c at HN ⊢
          go_cut [68] (fun s68 wz => ∃ m : Nat, s68 = .bool (canW W p h (s.l h)) ∧ wz = w4.drewN m)
          case first =>
            have l0 := HN.out.cell 0
            simp only [List.getElem?_toArray, List.getElem?_cons_zero, List.getElem?_cons_succ] at l0
            have m0 : w4.cell? ⟨gx, 13 + h * 11, none⟩ = some (.int .i64 ((s.l h).b.length : Int)) := by
              obtain ⟨g, c', e, -, -, hr⟩ := HRV4.out
              cases e
              have := (hr (13 + h * 11) (by omega)).1
              rw [row_many s h3] at this
              exact this
            cases bb with
            | false =>
              have HC : Hid (canW W p h (s.l h) = false) := by show _ = _; unfold canW; rw [HMO.out]; rfl
              clear m0 l0
              go_wp2_with fail
              go_meet
              exact ⟨0, by rw [HC.out], rfl⟩
            | true =>
              cases W with
              | false =>
                have HC : Hid (canW false p h (s.l h) = true) := by show _ = _; unfold canW; rw [HMO.out]; rfl
                clear m0 l0
                go_wp2_with fail
                go_meet
                exact ⟨0, by rw [HC.out], rfl⟩
              | true =>
                have hl0 := HLV.out rfl
                have HCN : Hid (canW true p h (s.l h) = ((s.l h).b.isEmpty || !(lv.k == 3 || lv.k == 4))) := by show _ = _; unfold canW; rw [HMO.out, ← hl0]; simp
                clear hl0
                cases hbe : (s.l h).b with
                | nil =>
                  have HC : Hid (canW true p h (s.l h) = true) := by show _ = _; rw [HCN.out, hbe]; rfl
                  rw [hbe] at m0
                  have m1 : w4.cell? ⟨gx, 13 + h * 11, none⟩ = some (.int .i64 0) := m0
                  clear m0 hbe l0
                  go_wp2_with fail
                  go_meet
                  exact ⟨0, by rw [HC.out], rfl⟩
                | cons y r =>
                  have HCC : Hid (canW true p h (s.l h) = !(lv.k == 3 || lv.k == 4)) := by show _ = _; rw [HCN.out, hbe]; rfl
                  have hn0 : (((s.l h).b.length : Int) == 0) = false := by rw [hbe]; simp; omega
                  generalize ((s.l h).b.length : Int) = n at m0 hn0
                  clear hbe
                  obtain ⟨K, hK⟩ : ∃ K, lv.k = K := ⟨_, rfl⟩
                  rw [hK] at l0 HCC
                  clear hK
                  by_cases k3 : K = 3
                  · subst k3
                    have HC : Hid (canW true p h (s.l h) = false) := by show _ = _; rw [HCC.out]; rfl
                    go_wp2_with fail
                    go_meet
                    exact ⟨0, by rw [HC.out], rfl⟩
                  · by_cases k4 : K = 4
                    · subst k4
                      have HC : Hid (canW true p h (s.l h) = false) := by show _ = _; rw [HCC.out]; rfl
                      go_wp2_with fail
                      go_meet
                      exact ⟨0, by rw [HC.out], rfl⟩
                    · have e3 : (K != 3) = true := by simpa using k3
                      have e4 : (K != 4) = true := by simpa using k4
                      have HC : Hid (canW true p h (s.l h) = true) := by show _ = _; rw [HCC.out]; simp [k3, k4]
                      clear k3 k4
                      go_wp2_with fail
                      go_meet
                      exact ⟨0, by rw [HC.out], rfl⟩
          case rest =>
            obtain ⟨m, rfl, rfl⟩ := hcut
            have HX5 := Lib.hid (HX4.out.below (Below.todrewN (Below.refl _ _) m))
            have HRV5 : Hid (RV (w4.drewN m) (.slice (some ⟨gx, 0, none⟩) 46 cx) (row s)) := HRV4.out
            have HN5 : Hid (Blk (w4.drewN m) c #[.int .i64 lv.k, .int .i64 lv.r, .int .i64 lv.w, .int .i64 lv.v] 40) := HN.out
            clear HX4 HRV4 HN
            generalize w4.drewN m = w5 at HX5 HRV5 HN5 ⊢
            have HS1 : Hid (succTo W p (vec s) (h + 1) = succTo W p (vec s) h ++ sA W p s h ++ sB s h) := by
              show _ = _
              rw [succTo_succ, succ1_two HF.out HR.out, List.append_assoc]
            have HIN := Lib.hid (HI.out.some HV.out (xs := succTo W p (vec s) h) (fun b hb => succTo_mem hhp hb))
            have HINA := Lib.hid (HI.out.some HV.out (xs := succTo W p (vec s) h ++ sA W p s h) (fun b hb => succTo_mem (k := h + 1) hhn (by rw [HS1.out]; exact List.mem_append_left _ hb)))
            obtain ⟨cb, hcb⟩ : ∃ cb, canW W p h (s.l h) = cb := ⟨_, rfl⟩
            rw [hcb]
            have HCB := Lib.hid hcb
            clear hcb
            go_upto_if 68 with fail
            go_cut [9] (fun s9 wz => ∃ (d' : Bool) (tag' : Nat → Nat), s9 = .bool d' ∧ decide (succTo W p (vec s) h ++ sA W p s h = []) = d' ∧ RX w words (.slice a p.length cap) F RB tag' (Bfs.addAll ss (succTo W p (vec s) h ++ sA W p s h)) u6 R wz ∧ RV wz (.slice (some ⟨gx, 0, none⟩) 46 cx) (row s) ∧ tag' gx = 0)
            case first =>
              cases cb with
              | false =>
                have HSA : Hid (sA W p s h = []) := by show _ = _; unfold sA; rw [if_neg (by rw [HCB.out]; simp)]
                go_wp2_with fail
                go_meet
                exact ⟨d, tag, rfl, by rw [HSA.out, List.append_nil]; exact HD.out, by rw [HSA.out, List.append_nil]; exact HX5.out, HRV5.out, HTX.out⟩
              | true =>
                have HLN : Hid (Tso.nxt p h (s.l h) = lv) := (HLV.out (by rw [← HMO.out]; exact canW_mor HCB.out)).symm
                have HSA : Hid (sA W p s h = [vec (stepW W p s h)]) := by show _ = _; unfold sA; rw [if_pos HCB.out]
                have n0 := HN5.out.cell 0
                have n1 := HN5.out.cell 1
                have n2 := HN5.out.cell 2
                have n3 := HN5.out.cell 3
                simp only [List.getElem?_toArray, List.getElem?_cons_zero, List.getElem?_cons_succ] at n0 n1 n2 n3
                go_wp2_with fail
                refine (step_any HF.out HR.out HRV5.out hhn HCB.out HLN.out).mono ?_
                rintro e w6 ⟨x, rfl, hgot, hbel⟩
                have HADD := Lib.hid (add_state HF.out HX5.out HIN.out (.step HR.out hhn HCB.out) hgot hbel HRV5.out HTX.out)
                obtain ⟨gy, cy, rfl, -⟩ := hgot
                clear hbel n0 n1 n2 n3
                go_wp2_with fail
                refine HADD.out.mono ?_
                clear HADD
                rintro e w7 ⟨rfl, tag', hX, hrv, htx⟩
                have ea : Bfs.add (Bfs.addAll ss (succTo W p (vec s) h)) (vec (stepW W p s h)) = Bfs.addAll ss (succTo W p (vec s) h ++ sA W p s h) := by
                  rw [Bfs.addAll_append, HSA.out]; rfl
                rw [ea] at hX
                have HXN := Lib.hid hX
                have HRN := Lib.hid hrv
                have HTN := Lib.hid htx
                have HDN : Hid (decide (succTo W p (vec s) h ++ sA W p s h = []) = false) := by show _ = _; rw [HSA.out]; simp
                clear hX hrv htx ea
                go_wp2_with fail
                go_meet
                exact ⟨false, tag', rfl, HDN.out, HXN.out, HRN.out, HTN.out⟩
            case rest =>
              clear HX5 HRV5 HN5 HD HTX HCB HIN tag
              obtain ⟨d', tag, rfl, hd', hX, hrv, htx⟩ := hcut
              have HX := Lib.hid hX
              have HD := Lib.hid hd'
              have HRV := Lib.hid hrv
              have HTX := Lib.hid htx
              clear hX hd' hrv htx
              have m0 : wc.cell? ⟨gx, 13 + h * 11, none⟩ = some (.int .i64 ((s.l h).b.length : Int)) := by
                obtain ⟨g, c', e, -, -, hr⟩ := HRV.out
                cases e
                have := (hr (13 + h * 11) (by omega)).1
                rw [row_many s h3] at this
                exact this
              cases hbe : (s.l h).b with
              | nil =>
                have HSB : Hid (sB s h = []) := by show _ = _; unfold sB; rw [hbe]; rfl
                have HEA : Hid (succTo W p (vec s) (h + 1) = succTo W p (vec s) h ++ sA W p s h) := by show _ = _; rw [HS1.out, HSB.out, List.append_nil]
                rw [hbe] at m0
                have m1 : wc.cell? ⟨gx, 13 + h * 11, none⟩ = some (.int .i64 0) := m0
                clear m0 hbe
                go_wp2_with fail
                go_roundg (p.length - h)
                case measure => have := HHG.out; omega
                case rel => exact ⟨h + 1, d', tag, rfl, by go_num, by omega, by omega, by rw [HEA.out]; exact HD.out, by rw [HEA.out]; exact HX.out, HRV.out, HTX.out⟩
              | cons y r =>
                have HNB : Hid ((s.l h).b ≠ []) := by show _ ≠ _; rw [hbe]; simp
                have HSB : Hid (sB s h = [vec (Tso.flush s h)]) := by show _ = _; unfold sB; rw [hbe]; rfl
                have hn0 : 0 < ((s.l h).b.length : Int) := by rw [hbe]; simp only [List.length_cons]; omega
                generalize ((s.l h).b.length : Int) = n at m0 hn0
                clear hbe
                go_wp2_with fail
                refine (come_ok HF.out (reachW_tso HR.out).1 HRV.out hhn HNB.out).mono ?_
                rintro e w6 ⟨x, rfl, hgot, hbel⟩
                have HADD := Lib.hid (add_state HF.out HX.out HINA.out (.flush HR.out hhn HNB.out) hgot hbel HRV.out HTX.out)
                obtain ⟨gy, cy, rfl, -⟩ := hgot
                clear hbel m0
                go_wp2_with fail
                refine HADD.out.mono ?_
                clear HADD
                rintro e w7 ⟨rfl, tag', hX, hrv, htx⟩
                have ea : Bfs.add (Bfs.addAll ss (succTo W p (vec s) h ++ sA W p s h)) (vec (Tso.flush s h)) = Bfs.addAll ss (succTo W p (vec s) (h + 1)) := by
                  rw [HS1.out, HSB.out, Bfs.addAll_append (xs := succTo W p (vec s) h ++ sA W p s h)]; rfl
                rw [ea] at hX
                have HXN := Lib.hid hX
                have HRN := Lib.hid hrv
                have HTN := Lib.hid htx
                have HDN : Hid (decide (succTo W p (vec s) (h + 1) = []) = false) := by show _ = _; rw [HS1.out, HSB.out]; simp
                clear hX hrv htx ea
                go_wp2_with fail
                go_roundg (p.length - h)
                case measure => have := HHG.out; omega
                case rel => exact ⟨h + 1, false, tag', rfl, by go_num, by omega, by omega, HDN.out, HXN.out, HRN.out, HTN.out⟩
        · obtain rfl : h = p.length := by omega
          have HNX := Lib.hid (HI.out.next HV.out)
          have HON := Lib.hid (outs_next (W := W) (words := words) (p := p) (xs := succ W p (vec s)) HV.out)
          cases d with
          | false =>
            have hne0 := of_decide_eq_false HD.out
            have HNE : Hid (succ W p (vec s) ≠ []) := hne0
            clear hne0
            have HRN : Hid (∀ x, x ∈ R ↔ Outs W words p (Bfs.addAll ss (succ W p (vec s))) (i + 1) x) := fun x => by
              rw [HON.out x, ← HRM.out x]
              exact ⟨.inl, fun q => q.elim id (fun q => absurd q.1 HNE.out)⟩
            go_wp2_with fail
            go_roundg (72832127858 - (i + 1))
            case measure => have := HIG.out; omega
            case rel => exact ⟨i + 1, _, R, _, tag, rfl, by go_num, by omega, HX.out, HNX.out, HRS.out, by have := HRL.out; omega, HRN.out⟩
          | true =>
            have hne0 := of_decide_eq_true HD.out
            have HNE : Hid (succ W p (vec s) = []) := hne0
            clear hne0
            go_wp2_with fail
            refine (result_any (words := words) (HP.out.below HX.out.bel) HRV.out hn3 HF.out.w).mono ?_
            rintro e w3 ⟨x, rfl, hg, hbel⟩
            have hlen : ∀ f, (result words p f).length = 2 * p.length + words.toNat := fun f => by simp [result]
            have hww := HF.out.w
            rw [rresult_row hn3 hww.2] at hg
            obtain ⟨hxn, bx, hbx, hbx1, hbx2⟩ := Sc.gave_nums hg (by rw [hlen]; unfold maxLen; omega)
            have hfr := HX.out.f.fresh bx hbx1
            replace HX := Lib.hid (HX.out.below hbel)
            obtain ⟨base, vals, ho⟩ := HX.out.away
            have HPUT := Lib.hid (put_any (S := tagged tag w3.heap.size) (out_matS ho) hxn (fun b hb => by rw [hbx] at hb; have e := Option.some.inj hb; subst e; exact (not_tagged hbx2).2 hfr) (fun b hb => by simpa using (List.mem_filter.1 hb).1) (by rw [hlen]; omega)
              (fun l hl => by
                obtain ⟨v', -, -, rfl⟩ := (HRM.out l).1 hl
                rw [hlen]; unfold Tso.resV; rw [hlen]) (by have := HRL.out; omega))
            clear hg hxn hbx hbx1 hbx2 hfr hbel ho hlen
            have hev : Tso.resV words p (vec s) = result words p (enc s) := by unfold Tso.resV; rw [Tso.dec_vec hn3 (HR.out.ok HF.out)]
            have HRN : Hid (∀ y, y ∈ putL R (result words p (enc s)) ↔ Outs W words p (Bfs.addAll ss (succ W p (vec s))) (i + 1) y) := fun y => by
              rw [HON.out y, ← HRM.out y, mem_putL, hev]
              exact ⟨fun q => q.elim .inl (fun e => .inr ⟨HNE.out, e⟩), fun q => q.elim .inl (fun e => .inr e.2)⟩
            clear hev
            go_wp2_with fail
            refine HPUT.out.mono ?_
            clear HPUT
            rintro e w4 ⟨v', vals', rfl, hot, hb4⟩
            obtain ⟨av, cv, rfl⟩ := own_shape hot.own
            have HXP := Lib.hid (HX.out.put hot hb4)
            clear HX hot hb4
            go_wp2_with fail
            go_roundg (72832127858 - (i + 1))
            case measure => have := HIG.out; omega
            case rel => exact ⟨i + 1, _, putL R (result words p (enc s)), _, tag, rfl, by go_num, by omega, HXP.out, HNX.out, rise_putL HRS.out _, by have h1 := putL_len R (result words p (enc s)); have := HRL.out; omega, HRN.out⟩
    · obtain rfl : i = ss.length := by omega
      obtain ⟨al, cl, c1⟩ := HX.out.list
      obtain ⟨base, vals, ho, -, -⟩ := HX.out.out
      obtain ⟨ao, co, e⟩ := own_shape ho.own
      subst e
      have HO := Lib.hid (out_mat ho (by have := HRL.out; unfold maxLen; omega))
      clear ho
      go_wp2_with fail
      go_ret
      exact ⟨_, R, rfl, HO.out, HRS.out, fun x => (HRM.out x).trans (outs_all HF.out HI.out x), HX.out.bel⟩
end Go.Proofs.YtimbdjmplcgilaaDoor.Rf
