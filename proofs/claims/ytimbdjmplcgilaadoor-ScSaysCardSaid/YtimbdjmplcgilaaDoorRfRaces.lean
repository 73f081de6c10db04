import Derived.Test.YtimbdjmplcgilaaDoorRfPair
import Derived.Deep.DeepCutAuto
namespace Go.Proofs.YtimbdjmplcgilaaDoor.Rf
open Go.RowKit Pr SortFn
open Tso (TS vec dec enc)
set_option linter.unusedVariables false
set_option linter.unusedSimpArgs false

/-- No two of the first hands touch one word next. -/
def NCT (p : List (List Ln)) (s : TS) (h : Nat) : Prop := ∀ a b, b < a → a < h → Tso.mor p a (s.l a) = true → Tso.mor p b (s.l b) = true → Sc.clash (Tso.nxt p a (s.l a)) (Tso.nxt p b (s.l b)) = false
theorem NCT.all {p : List (List Ln)} {s : TS} (h : NCT p s p.length) : ¬ ClashT p s := by
  rintro ⟨a, b, h1, h2, ma, mb, hc⟩
  rw [h a b h1 h2 ma mb] at hc; cases hc
theorem NCT.next {p : List (List Ln)} {s : TS} {h : Nat} (k : NCT p s h) (hn : Tso.mor p h (s.l h) = true → ∀ b, b < h → Tso.mor p b (s.l b) = true → Sc.clash (Tso.nxt p h (s.l h)) (Tso.nxt p b (s.l b)) = false) : NCT p s (h + 1) := by
  intro a b h1 h2 ma mb
  by_cases e : a = h
  · subst e; exact hn ma b h1 mb
  · exact k a b h1 (by omega) ma mb
theorem racesT_no {words : Int} {p : List (List Ln)} (hf : Fine words p) {l : List (List Int)} (h : Bfs.Inv (vec TS.zero) (succ false p) l l.length) (hc : ∀ v ∈ l, ¬ ClashT p (dec v)) : ¬ Sc.Races p := by
  intro hr
  obtain ⟨s, hs, hx⟩ := (races_iff hf).1 hr
  have := hc (vec s) (h.all.2 ((reach_iff hf).2 ⟨s, hs, rfl⟩))
  rw [Tso.dec_vec hf.n.2 (hs.ok hf)] at this
  exact this hx
theorem succTo_false {words : Int} {p : List (List Ln)} (hf : Fine words p) {s : TS} (hr : ReachW false p s) (h : Nat) : succTo false p (vec s) (h + 1) = succTo false p (vec s) h ++ if Tso.mor p h (s.l h) = true then [vec (dstep s h (Tso.nxt p h (s.l h)))] else [] := by
  rw [succTo_succ, succ1_two hf hr]
  have e : sB s h = [] := by unfold sB; rw [(reachW_tso hr).2 rfl h]; rfl
  rw [e, List.append_nil]
  congr 1
  unfold sA canW stepW
  simp
theorem touches_any {l : Ln} {w : World} :
    Calls Tryd.prog 14 #[.agg #[.int .i64 l.k, .int .i64 l.r, .int .i64 l.w, .int .i64 l.v]] w fun e w' => e = .returned (.bool (Sc.touches l)) ∧ Below w.heap.size w w' := by
  by_cases h : 1 ≤ l.k ∧ l.k ≤ 3
  · have e : Sc.touches l = true := by simp [Sc.touches, h]
    rw [e]; exact touches_yes h.1 h.2
  · have e : Sc.touches l = false := by simp only [Sc.touches, Bool.and_eq_false_iff, decide_eq_false_iff_not]; omega
    rw [e]; exact touches_no (by omega)
/-- A state that is reached is added; what nobody found owns stays. -/
theorem add_state2 {W : Bool} {words : Int} {p : List (List Ln)} (hf : Fine words p) {w wr w6 : World} {u : Value} {F RB i gx cx : Nat} {tag : Nat → Nat} {ss : List (List Int)} {v x : Value} {R : List (List Int)} {t : TS} {f : St}
    (h : RX w words u F RB tag ss v R wr) (hI : Bfs.Inv (vec TS.zero) (succ W p) ss i) (ht : ReachW W p t) (hg : Got (row t) wr x w6) (hb : Below wr.heap.size wr w6) (hrv : RV wr (.slice (some ⟨gx, 0, none⟩) 46 cx) f) (hgx : tag gx = 0) :
    Calls Tryd.prog 15 #[.pointer (some ⟨F, 0, none⟩), x] w6 fun e w' => e = .returned (.tuple #[]) ∧ ∃ tag', RX w words u F RB tag' (Bfs.add ss (vec t)) v R w' ∧ RV w' (.slice (some ⟨gx, 0, none⟩) 46 cx) f ∧ tag' gx = 0 ∧ ∀ b, b < wr.heap.size → tag b = 0 → w'.heap[b]? = wr.heap[b]? ∧ b < w'.heap.size := by
  obtain ⟨hx, bx, hbx, hbx1, hbx2⟩ := got_rvl hg
  have h6 := h.below hb
  have hrv6 := hrv.below hb
  have hlt : gx < w6.heap.size := by obtain ⟨g, c, e, -, hg, -⟩ := hrv6; cases e; exact hg
  have hbd := row_bd hf (reachW_tso ht).1
  have hsl := bound hf hI
  refine (add_any h6.f hx (fun b hb => by rw [hbx] at hb; have e := Option.some.inj hb; subst e; exact ⟨h.f.fresh bx hbx1, hbx2⟩) (list46_len _) (fun y hy => by
    obtain ⟨j, hj, rfl⟩ := List.mem_map.1 hy
    exact hbd j (by simpa using hj)) (by rw [List.length_map]; omega)).mono ?_
  rintro e w' ⟨rfl, tag', hf', ha⟩
  have hs : w6.heap.size ≤ w'.heap.size := ha.bel.size
  have hz := ha.zero gx hlt hgx
  refine ⟨rfl, tag', h6.add ?_ ha hs, ?_, hz.2, fun b hb1 hb2 => ?_⟩
  · rw [← r46_vec hf.n.2 (ht.ok hf)] at hf'
    rw [← map_add hf hI.reach ((reach_iff hf).2 ⟨t, ht, rfl⟩)]
    exact hf'
  · obtain ⟨g, c, e, h1, h2, h3⟩ := hrv6
    cases e
    exact ⟨_, _, rfl, h1, Nat.lt_of_lt_of_le h2 hs, fun k hk => ⟨by rw [World.cell?_of_block (w := w6) hz.1]; exact (h3 k hk).1, by rw [World.frozen?_of_block (w := w6) hz.1]; exact (h3 k hk).2⟩⟩
  · have h1 := hb.block b hb1
    have h2 := hb.size
    exact ⟨(ha.zero b (by omega) hb2).1.trans h1, by omega⟩
theorem blk_same {w w' : World} {b : Nat} {cs : Array Value} {t : Nat} (h : Blk w b cs t) (k : w'.heap[b]? = w.heap[b]?) : Blk w' b cs t := by
  unfold Blk at *
  rw [k]; exact h

set_option maxHeartbeats 1000000 in
set_option maxRecDepth 100000 in
theorem races_any {w : World} {words : Int} {u : Value} {p : List (List Ln)} (hp : IsProg w u p) (hc : check words p = 0) :
    Calls Tryd.prog 7 #[.agg #[.int .i64 words, u]] w fun e w' => ∃ b : Bool, e = .returned (.bool b) ∧ (b = true ↔ Sc.Races p) ∧ Below w.heap.size w w' := by
  have HP := Lib.hid hp
  have HF := Lib.hid (fine_of hc)
  obtain ⟨a, cap, rfl, hl, -⟩ := hp
  unfold maxLen at hl
  have hn3 : p.length ≤ 3 := HF.out.n.2
  clear hc hl
  go_enter Tryd.func7, Tryd.ntmps7
  have hmk := make_rows
  go_wp2_with fail
  have hB1 : Blk (w.alloc (.cells #[.int .i64 words, .slice a p.length cap] 24)) w.heap.size #[.int .i64 words, .slice a p.length cap] 24 := Blk.new _ _ _
  generalize hx1 : w.alloc (.cells #[.int .i64 words, .slice a p.length cap] 24) = wx at hB1 ⊢
  have hs1 : wx.heap.size = w.heap.size + 1 := by rw [← hx1]; simp
  have hbx : Below w.heap.size w wx := by rw [← hx1]; exact (Below.refl _ _).alloc (Nat.le_refl _) _
  rw [← hs1]
  have hR1 := Blk.new wx (nilsN 1009) 43
  have hB2 := hB1.alloc (.cells (nilsN 1009) 43)
  have hbx2 : Below w.heap.size w (wx.alloc (.cells (nilsN 1009) 43)) := hbx.trans ((Below.refl _ _).alloc (by omega) _)
  generalize hx2 : wx.alloc (.cells (nilsN 1009) 43) = wy at hR1 hB2 hbx2 ⊢
  have hs2 : wy.heap.size = wx.heap.size + 1 := by rw [← hx2]; simp
  rw [← hs2]
  have hF1 := Blk.new wy #[.slice (some ⟨wx.heap.size, 0, none⟩) 1009 1009, .slice none 0 0] 45
  have hB3 := hB2.alloc (.cells #[.slice (some ⟨wx.heap.size, 0, none⟩) 1009 1009, .slice none 0 0] 45)
  have hR3 := hR1.alloc (.cells #[.slice (some ⟨wx.heap.size, 0, none⟩) 1009 1009, .slice none 0 0] 45)
  have hbx3 : Below w.heap.size w (wy.alloc (.cells #[.slice (some ⟨wx.heap.size, 0, none⟩) 1009 1009, .slice none 0 0] 45)) := hbx2.trans ((Below.refl _ _).alloc (by omega) _)
  generalize wy.alloc (.cells #[.slice (some ⟨wx.heap.size, 0, none⟩) 1009 1009, .slice none 0 0] 45) = wz at hF1 hB3 hR3 hbx3 ⊢
  have hFA := found_zero (w := w) hF1 hR3 (by omega) (by omega) (by omega)
  have hRB : wx.heap.size = w.heap.size + 1 := hs1
  have HT : Hid ((fun b => if b = wy.heap.size then 2000 else if b = wx.heap.size then 2001 else 0) w.heap.size = 0) := by
    show (if w.heap.size = wy.heap.size then 2000 else if w.heap.size = wx.heap.size then 2001 else 0) = 0
    rw [if_neg (by omega), if_neg (by omega)]
  generalize (fun b => if b = wy.heap.size then 2000 else if b = wx.heap.size then 2001 else 0) = tag at hFA HT
  generalize hFe : wy.heap.size = F at hFA ⊢
  generalize hRe : wx.heap.size = RB at hFA ⊢
  have HFA := Lib.hid hFA
  have HBX := Lib.hid hbx3
  have HB := Lib.hid hB3
  clear hFA hF1 hB3 hR3 hbx3 hB2 hR1 hbx2 hx2 hx1 hB1 hbx hs1 hs2 hRB hFe hRe hmk
  refine first_any.mono ?_
  rintro e w1 ⟨x, rfl, hgot, hbel⟩
  obtain ⟨hnx, bx, hbx, hbx1, hbx2⟩ := Lib.hid (got_rvl hgot) |>.out
  have hF2 := HFA.out.below hbel
  have HADD := Lib.hid (add_any hF2 hnx (fun b hb => by rw [hbx] at hb; have e := Option.some.inj hb; subst e; exact ⟨HFA.out.fresh bx hbx1, hbx2⟩) (list46_len _) (fun y hy => by
    obtain ⟨j, -, rfl⟩ := List.mem_map.1 hy
    exact ⟨Int.le_refl _, by omega⟩) (by simp))
  have HX1 : Hid (RX w words (.slice a p.length cap) F RB tag [] (.slice none 0 0) [] w1) := by
    have hb0 := HB.out.lt
    exact ⟨HBX.out.trans (hbel.mono HBX.out.size), HB.out.below hbel hb0, HT.out, hF2, w.heap.size, [], OutAt.nil _ _ _, fun b hb => by simp [Value.ownBlock] at hb, fun x hx => by simp at hx⟩
  have hxs : ∃ g c, x = .slice (some ⟨g, 0, none⟩) 46 c := by obtain ⟨g, c, e, -⟩ := hgot; exact ⟨g, c, e⟩
  obtain ⟨gx, cx, rfl⟩ := hxs
  clear hgot hbel hnx hbx hbx1 hbx2 hF2 HFA HBX HB HT
  go_wp2_with fail
  refine HADD.out.mono ?_
  clear HADD
  rintro e w2 ⟨rfl, tag2, hf2, hadd⟩
  have hsz : w1.heap.size ≤ w2.heap.size := hadd.bel.size
  have HX : Hid (RX w words (.slice a p.length cap) F RB tag2 [vec TS.zero] (.slice none 0 0) [] w2) := by
    refine HX1.out.add ?_ hadd hsz
    have e : Bfs.add [] (list46 fun _ => 0) = [vec TS.zero].map r46 := by
      unfold r46
      have hz := r46_vec HF.out.n.2 ((ReachW.zero : ReachW true p TS.zero).ok HF.out)
      show [list46 fun _ => 0] = [r46 (vec TS.zero)]
      rw [hz, row_zero]
    rw [← e]; exact hf2
  clear HX1 hf2 hadd hsz
  go_wp2_with fail
  go_loopg [4] 72832127858 (fun gg s4 wr => ∃ (i : Nat) (ss : List (List Int)) (tag : Nat → Nat), s4 = .int .i64 i ∧ i + gg = 72832127858 ∧ RX w words (.slice a p.length cap) F RB tag ss (.slice none 0 0) [] wr ∧ Bfs.Inv (vec TS.zero) (succ false p) ss i ∧ ∀ j v, j < i → ss[j]? = some v → ¬ ClashT p (dec v))
  case atStart => exact ⟨0, [vec TS.zero], tag2, rfl, by omega, HX.out, Bfs.Inv.start _ _, fun j v hj => by omega⟩
  case round =>
    clear HX
    obtain ⟨i, ss, tag, rfl, hig, hX, hI, hRO⟩ := hrel
    have HX := Lib.hid hX
    have HI := Lib.hid hI
    have HIG := Lib.hid hig
    have HRO := Lib.hid hRO
    have hsl : ss.length ≤ 72832127856 := bound HF.out hI
    have hile := hI.le
    clear hX hI hig hRO
    by_cases hin : i < ss.length
    · have hinI : (i : Int) < ss.length := by omega
      obtain ⟨gl, cl, gx, cx, c1, hgl, c2, hrv, htx⟩ := HX.out.state hin
      obtain ⟨v, hv⟩ : ∃ v, ss[i]? = some v := ⟨_, List.getElem?_eq_getElem hin⟩
      obtain ⟨s, hr, rfl⟩ := (reach_iff HF.out).1 (HI.out.reach v (List.mem_of_getElem? hv))
      have hds := Tso.dec_vec HF.out.n.2 (hr.ok HF.out)
      have hvd : dec (ss.getD i []) = s := by rw [List.getD_eq_getElem?_getD, hv]; exact hds
      rw [hvd] at hrv
      have HV := Lib.hid hv
      have HR := Lib.hid hr
      have HRV := Lib.hid hrv
      have HTX := Lib.hid htx
      have HDS := Lib.hid hds
      clear hv hr hvd hrv htx hgl hds
      have HXI : Hid (RX w words (.slice a p.length cap) F RB tag (Bfs.addAll ss (succTo false p (vec s) 0)) (.slice none 0 0) [] wr) := HX.out
      go_wp2_with fail
      go_loopg [6] (p.length + 1) (fun gg s6 wq => ∃ (h : Nat) (tag : Nat → Nat), s6 = .int .i64 h ∧ h + gg = p.length + 1 ∧ h ≤ p.length ∧ RX w words (.slice a p.length cap) F RB tag (Bfs.addAll ss (succTo false p (vec s) h)) (.slice none 0 0) [] wq ∧ RV wq (.slice (some ⟨gx, 0, none⟩) 46 cx) (row s) ∧ tag gx = 0 ∧ NCT p s h)
      case atStart => exact ⟨0, tag, rfl, by omega, by omega, HXI.out, HRV.out, HTX.out, fun a b _ h => by omega⟩
      case round =>
        clear HX HXI HRV HTX c1 c2
        obtain ⟨h, tag, rfl, hhg, hhp, hX, hrv, htx, hnc⟩ := hrel
        have HX := Lib.hid hX
        have HHG := Lib.hid hhg
        have HRV := Lib.hid hrv
        have HTX := Lib.hid htx
        have HNC := Lib.hid hnc
        clear hX hhg hrv htx hnc
        have b0 := HX.out.box.cell 0
        have b1 := HX.out.box.cell 1
        simp only [List.getElem?_toArray, List.getElem?_cons_zero, List.getElem?_cons_succ] at b0 b1
        by_cases hhn : h < p.length
        · have hhI : (h : Int) < p.length := by omega
          have h3 : h < 3 := by omega
          go_wp2_with fail
          refine (next_any (HP.out.below HX.out.bel) HRV.out hhn h3 (by rw [row_at s h3]; have := (HR.out.ok HF.out).at0 h; omega)).mono ?_
          rintro e w3 ⟨lv, bb, rfl, hmo, hlv, hbel⟩
          have hmo2 : Tso.mor p h (s.l h) = bb := by rw [← hmo]; unfold Tso.mor rmore; rw [row_at s h3]
          have hlv2 : bb = true → lv = Tso.nxt p h (s.l h) := fun e => by rw [hlv e]; unfold Tso.nxt rline; rw [row_at s h3]
          have HRV3 := Lib.hid (HRV.out.below hbel)
          have HX3 := Lib.hid (HX.out.below hbel)
          have HMO := Lib.hid hmo2
          have HLV := Lib.hid hlv2
          clear hmo hlv hbel hmo2 hlv2 HX HRV b0 b1
          go_upto_region 11 with fail
          have hN := Blk.new w3 #[.int .i64 lv.k, .int .i64 lv.r, .int .i64 lv.w, .int .i64 lv.v] 40
          have hbn : Below w3.heap.size w3 (w3.alloc (.cells #[.int .i64 lv.k, .int .i64 lv.r, .int .i64 lv.w, .int .i64 lv.v] 40)) := (Below.refl _ _).alloc (Nat.le_refl _) _
          have hct := HX3.out.f.fresh w3.heap.size (Nat.le_refl _)
          have HX4 := Lib.hid (HX3.out.below hbn)
          have HRV4 := Lib.hid (HRV3.out.below hbn)
          have HN := Lib.hid hN
          have HCT := Lib.hid hct
          clear hN hbn HX3 HRV3 hct
          generalize w3.alloc (.cells #[.int .i64 lv.k, .int .i64 lv.r, .int .i64 lv.w, .int .i64 lv.v] 40) = w4 at HX4 HRV4 HN ⊢
          generalize w3.heap.size = c at HN HCT ⊢
          cases bb with
          | false =>
            have HSU : Hid (succTo false p (vec s) (h + 1) = succTo false p (vec s) h) := by
              show _ = _
              rw [succTo_false HF.out HR.out, HMO.out]; simp
            go_wp2_with fail
            go_roundg (p.length - h)
            case measure => have := HHG.out; omega
            case rel => exact ⟨h + 1, tag, by go_num, by omega, by omega, by rw [HSU.out]; exact HX4.out, HRV4.out, HTX.out, HNC.out.next (fun e => by rw [HMO.out] at e; cases e)⟩
          | true =>
            have HLN : Hid (lv = Tso.nxt p h (s.l h)) := HLV.out (by trivial)
            have HG : Hid (Pr.Good words lv) := by
              show Pr.Good _ _
              rw [HLN.out]; exact Tso.nxt_good HF.out ((HR.out.ok HF.out).at0 h).1 HMO.out
            have HCW : Hid (canW false p h (s.l h) = true) := by show _ = _; unfold canW; rw [HMO.out]; rfl
            have HSU : Hid (succTo false p (vec s) (h + 1) = succTo false p (vec s) h ++ [vec (dstep s h lv)]) := by
              show _ = _
              rw [succTo_false HF.out HR.out, HMO.out, HLN.out]; simp
            have HRN : Hid (ReachW false p (dstep s h lv)) := by
              have := ReachW.step HR.out hhn HCW.out
              show ReachW _ _ _
              rw [HLN.out]; exact this
            have HIN := Lib.hid (HI.out.some HV.out (xs := succTo false p (vec s) h) (fun b hb => succTo_mem hhp hb))
            have n0 := HN.out.cell 0
            have n1 := HN.out.cell 1
            have n2 := HN.out.cell 2
            have n3 := HN.out.cell 3
            simp only [List.getElem?_toArray, List.getElem?_cons_zero, List.getElem?_cons_succ] at n0 n1 n2 n3
            go_wp2_with fail
            refine (done_any HRV4.out h3 (row_bd HF.out (reachW_tso HR.out).1) HG.out HF.out.w.2).mono ?_
            rintro e w6 ⟨x, rfl, hgot, hbel⟩
            rw [rdone_row h3 HG.out HF.out.w.2] at hgot
            have HADD := Lib.hid (add_state2 HF.out HX4.out HIN.out HRN.out hgot hbel HRV4.out HTX.out)
            have HCL : Hid (c < w4.heap.size) := HN.out.lt
            obtain ⟨gy, cy, rfl, -⟩ := hgot
            clear hbel n0 n1 n2 n3
            go_wp2_with fail
            refine HADD.out.mono ?_
            clear HADD
            rintro e w7 ⟨rfl, tag', hX, hrv, htx, hkeep⟩
            have hN7 := blk_same HN.out (hkeep c HCL.out HCT.out).1
            rw [show Bfs.add (Bfs.addAll ss (succTo false p (vec s) h)) (vec (dstep s h lv)) = Bfs.addAll ss (succTo false p (vec s) (h + 1)) by rw [HSU.out, Bfs.addAll_append]; rfl] at hX
            have HX7 := Lib.hid hX
            have HRV7 := Lib.hid hrv
            have HTX7 := Lib.hid htx
            have HN7 := Lib.hid hN7
            clear hX hrv htx hkeep hN7 HX4 HRV4 HTX HN HCT HCL HIN
            go_wp2_with fail
            go_loopg [9] (h + 1) (fun gg s9 wq => ∃ k : Nat, s9 = .int .i64 k ∧ k + gg = h + 1 ∧ k ≤ h ∧ Below w7.heap.size w7 wq ∧ ∀ b, b < k → Tso.mor p b (s.l b) = true → Sc.clash lv (Tso.nxt p b (s.l b)) = false)
            case atStart => exact ⟨0, rfl, by omega, by omega, Below.refl _ _, fun b hb => by omega⟩
            case round =>
              obtain ⟨k, rfl, hkg, hkh, hbk, hck⟩ := hrel
              have HKG := Lib.hid hkg
              have HBK := Lib.hid hbk
              have HCK := Lib.hid hck
              clear hkg hbk hck
              have HX8 := Lib.hid (HX7.out.below HBK.out)
              have HRV8 := Lib.hid (HRV7.out.below HBK.out)
              have HN8 := Lib.hid (HN7.out.below HBK.out HN7.out.lt)
              by_cases hkn : k < h
              · have hkI : (k : Int) < h := by omega
                have hk3 : k < 3 := by omega
                have b0 := HX8.out.box.cell 0
                have b1 := HX8.out.box.cell 1
                simp only [List.getElem?_toArray, List.getElem?_cons_zero, List.getElem?_cons_succ] at b0 b1
                go_wp2_with fail
                refine (next_any (HP.out.below HX8.out.bel) HRV8.out (show k < p.length by omega) hk3 (by rw [row_at s hk3]; have := (HR.out.ok HF.out).at0 k; omega)).mono ?_
                rintro e w9 ⟨lv2, bb2, rfl, hmo, hlv, hbel⟩
                have hmo2 : Tso.mor p k (s.l k) = bb2 := by rw [← hmo]; unfold Tso.mor rmore; rw [row_at s hk3]
                have hlv2 : bb2 = true → lv2 = Tso.nxt p k (s.l k) := fun e => by rw [hlv e]; unfold Tso.nxt rline; rw [row_at s hk3]
                have HMO2 := Lib.hid hmo2
                have HLV2 := Lib.hid hlv2
                have hN9 := HN8.out.below hbel HN8.out.lt
                have hB9 := HBK.out.trans (hbel.mono HBK.out.size)
                clear hmo hlv hbel hmo2 hlv2 b0 b1 HX8 HRV8 HN8
                go_upto_region 17 with fail
                have hL10 := Blk.new w9 #[.int .i64 lv2.k, .int .i64 lv2.r, .int .i64 lv2.w, .int .i64 lv2.v] 40
                have hB10 : Below w7.heap.size w7 (w9.alloc (.cells #[.int .i64 lv2.k, .int .i64 lv2.r, .int .i64 lv2.w, .int .i64 lv2.v] 40)) := hB9.alloc hB9.size _
                have hN10 := hN9.alloc (.cells #[.int .i64 lv2.k, .int .i64 lv2.r, .int .i64 lv2.w, .int .i64 lv2.v] 40)
                clear hN9 hB9
                generalize w9.alloc (.cells #[.int .i64 lv2.k, .int .i64 lv2.r, .int .i64 lv2.w, .int .i64 lv2.v] 40) = wA at hL10 hB10 hN10 ⊢
                generalize w9.heap.size = c2 at hL10 ⊢
                have HLA := Lib.hid hL10
                have HBA := Lib.hid hB10
                have HNA := Lib.hid hN10
                clear hL10 hB10 hN10
                go_cut [96] (fun s96 wz => s96 = .bool (bb2 && Sc.clash lv lv2) ∧ Below w7.heap.size w7 wz)
                case first =>
                  cases bb2 with
                  | false =>
                    go_wp2_with fail
                    go_meet
                    exact ⟨rfl, HBA.out⟩
                  | true =>
                    have l0 : wA.cell? ⟨c, 0, none⟩ = some (.int .i64 lv.k) := HNA.out.cell 0
                    have l1 : wA.cell? ⟨c, 1, none⟩ = some (.int .i64 lv.r) := HNA.out.cell 1
                    have l2 : wA.cell? ⟨c, 2, none⟩ = some (.int .i64 lv.w) := HNA.out.cell 2
                    have l3 : wA.cell? ⟨c, 3, none⟩ = some (.int .i64 lv.v) := HNA.out.cell 3
                    go_wp2_with fail
                    refine (touches_any (l := lv)).mono ?_
                    rintro e wB ⟨rfl, hb⟩
                    have HLB := Lib.hid (HLA.out.below hb HLA.out.lt)
                    have HNB := Lib.hid (HNA.out.below hb HNA.out.lt)
                    have HBB := Lib.hid (HBA.out.trans (hb.mono HBA.out.size))
                    clear l0 l1 l2 l3 hb HLA HNA HBA
                    cases ht : Sc.touches lv with
                    | false =>
                      have HT := Lib.hid ht
                      clear ht
                      go_wp2_with fail
                      go_meet
                      exact ⟨by simp [Sc.clash, HT.out], HBB.out⟩
                    | true =>
                      have HT := Lib.hid ht
                      clear ht
                      have m0 : wB.cell? ⟨c2, 0, none⟩ = some (.int .i64 lv2.k) := HLB.out.cell 0
                      have m1 : wB.cell? ⟨c2, 1, none⟩ = some (.int .i64 lv2.r) := HLB.out.cell 1
                      have m2 : wB.cell? ⟨c2, 2, none⟩ = some (.int .i64 lv2.w) := HLB.out.cell 2
                      have m3 : wB.cell? ⟨c2, 3, none⟩ = some (.int .i64 lv2.v) := HLB.out.cell 3
                      go_wp2_with fail
                      refine (touches_any (l := lv2)).mono ?_
                      rintro e wC ⟨rfl, hb⟩
                      have HLC := Lib.hid (HLB.out.below hb HLB.out.lt)
                      have HNC2 := Lib.hid (HNB.out.below hb HNB.out.lt)
                      have HBC := Lib.hid (HBB.out.trans (hb.mono HBB.out.size))
                      clear m0 m1 m2 m3 hb HLB HNB HBB
                      cases ht : Sc.touches lv2 with
                      | false =>
                        have HT2 := Lib.hid ht
                        clear ht
                        go_wp2_with fail
                        go_meet
                        exact ⟨by simp [Sc.clash, HT2.out], HBC.out⟩
                      | true =>
                        have HT2 := Lib.hid ht
                        clear ht
                        have l0 : wC.cell? ⟨c, 0, none⟩ = some (.int .i64 lv.k) := HNC2.out.cell 0
                        have l2 : wC.cell? ⟨c, 2, none⟩ = some (.int .i64 lv.w) := HNC2.out.cell 2
                        have m0 : wC.cell? ⟨c2, 0, none⟩ = some (.int .i64 lv2.k) := HLC.out.cell 0
                        have m2 : wC.cell? ⟨c2, 2, none⟩ = some (.int .i64 lv2.w) := HLC.out.cell 2
                        by_cases hw : lv.w = lv2.w
                        · have HW := Lib.hid hw
                          have e0 : (lv.w == lv.w) = true := by simp
                          rw [← hw] at m2
                          clear hw
                          have t1 := HT.out
                          have t2 := HT2.out
                          simp only [Sc.touches, Bool.and_eq_true, decide_eq_true_eq] at t1 t2
                          obtain h1 | h1 | h1 : lv.k = 1 ∨ lv.k = 2 ∨ lv.k = 3 := by omega
                          all_goals
                            obtain h3 | h3 | h3 : lv2.k = 1 ∨ lv2.k = 2 ∨ lv2.k = 3 := by omega
                            all_goals
                              rw [h1] at l0
                              rw [h3] at m0
                              have H1 := Lib.hid h1
                              have H3 := Lib.hid h3
                              clear h1 h3 t1 t2
                              go_wp2_with fail
                              go_meet
                              exact ⟨by simp [Sc.clash, HT.out, HT2.out, HW.out, H1.out, H3.out], HBC.out⟩
                        · have HW := Lib.hid hw
                          have e0 : (lv.w == lv2.w) = false := by simpa using hw
                          clear hw
                          go_wp2_with fail
                          go_meet
                          exact ⟨by simp [Sc.clash, HW.out], HBC.out⟩
                case rest =>
                  obtain ⟨rfl, hbz⟩ := hcut
                  have HBZ := Lib.hid hbz
                  clear hbz HLA HNA HBA
                  cases hcl : (bb2 && Sc.clash lv lv2) with
                  | true =>
                    obtain ⟨rfl, hc2⟩ : bb2 = true ∧ Sc.clash lv lv2 = true := by simpa using hcl
                    have HLN2 : Hid (lv2 = Tso.nxt p k (s.l k)) := HLV2.out rfl
                    have HT : Hid (Sc.Races p) := (races_iff HF.out).2 ⟨s, HR.out, h, k, hkn, hhn, HMO.out, HMO2.out, by rw [← HLN.out, ← HLN2.out]; exact hc2⟩
                    have HBL := Lib.hid (HX7.out.bel.trans (HBZ.out.mono HX7.out.bel.size))
                    clear hcl hc2
                    go_wp2_with fail
                    go_ret
                    exact .inr ⟨rfl, HT.out, HBL.out⟩
                  | false =>
                    have HCL := Lib.hid hcl
                    clear hcl
                    go_wp2_with fail
                    go_roundg (h - k)
                    case measure => have := HKG.out; omega
                    case rel => exact ⟨k + 1, by go_num, by omega, by omega, HBZ.out, fun b hb hm => by
                      by_cases e : b = k
                      · subst e
                        have hb2 : bb2 = true := by rw [← HMO2.out]; exact hm
                        have := HCL.out
                        rw [hb2, Bool.true_and] at this
                        rw [← HLV2.out hb2]; exact this
                      · exact HCK.out b (by omega) hm⟩
              · obtain rfl : k = h := by omega
                go_wp2_with fail
                go_roundg (p.length - k)
                case measure => have := HHG.out; omega
                case rel => exact ⟨k + 1, tag', by go_num, by omega, by omega, HX8.out, HRV8.out, HTX7.out, HNC.out.next (fun _ b hb hm => by rw [← HLN.out]; exact HCK.out b hb hm)⟩
        · obtain rfl : h = p.length := by omega
          have HNX := Lib.hid (HI.out.next HV.out)
          have HAL : Hid (∀ j v, j < i + 1 → (Bfs.addAll ss (succ false p (vec s)))[j]? = some v → ¬ ClashT p (dec v)) := fun j v hj hv => by
            rw [Bfs.addAll_get (by omega)] at hv
            by_cases e : j = i
            · subst e
              rw [HV.out] at hv
              cases hv
              rw [HDS.out]
              exact HNC.out.all
            · exact HRO.out j v (by omega) hv
          go_wp2_with fail
          go_roundg (72832127858 - (i + 1))
          case measure => have := HIG.out; omega
          case rel => exact ⟨i + 1, _, tag, by go_num, by omega, HX.out, HNX.out, HAL.out⟩
    · obtain rfl : i = ss.length := by omega
      obtain ⟨al, cl, c1⟩ := HX.out.list
      have HT : Hid (¬ Sc.Races p) := racesT_no HF.out HI.out (fun v hv => by
        obtain ⟨j, hj⟩ := List.getElem?_of_mem hv
        exact HRO.out j v (List.getElem?_eq_some_iff.1 hj).1 hj)
      go_wp2_with fail
      go_ret
      exact ⟨false, rfl, ⟨fun e => absurd e (by simp), fun e => absurd e HT.out⟩, HX.out.bel⟩
end Go.Proofs.YtimbdjmplcgilaaDoor.Rf
