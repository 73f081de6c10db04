import Derived.Test.YtllbmjnimfpghaaDoorPrRes
import Derived.Test.YtllbmjnimfpghaaDoorPrPlain2
namespace Go.Proofs.YtllbmjnimfpghaaDoor.Pr
open Go.RowKit
set_option linter.unusedVariables false

/-- A slice of numbers. -/
def Nums (w : World) (v : Value) (z : List Int) : Prop :=
  ∃ a cap, v = .slice a z.length cap ∧ z.length ≤ maxLen ∧ ∀ k, k < z.length → ∃ b o, a = some ⟨b, o, none⟩ ∧ (b < w.heap.size ∧ z.length ≤ cap) ∧ w.cell? ⟨b, o + k, none⟩ = some (.int .i64 (z.getD k 0))
theorem Nums.below {w w' : World} {v : Value} {z : List Int} (h : Nums w v z) (k : Below w.heap.size w w') : Nums w' v z := by
  obtain ⟨a, cap, rfl, hl, hj⟩ := h
  refine ⟨a, cap, rfl, hl, fun j hj' => ?_⟩
  obtain ⟨b, o, rfl, hb, hx⟩ := hj j hj'
  exact ⟨b, o, rfl, ⟨Nat.lt_of_lt_of_le hb.1 k.size, hb.2⟩, by rw [k.cell (p := ⟨b, o + j, none⟩) hb.1]; exact hx⟩
theorem nums_nil (w : World) : Nums w (.slice none 0 0) [] := ⟨none, 0, rfl, by simp, fun k hk => by simp at hk⟩
theorem nums_row {w : World} {a : Option Addr} {len cap : Nat} {zs : List Int} (h : IsRow .i64 w a len cap zs) : ∃ z, Nums w (.slice a len cap) z := by
  rcases h with ⟨rfl, rfl, rfl, rfl⟩ | ⟨⟨b, o, spot⟩, rfl, h1, h2, h3, h4, h5⟩
  · exact ⟨[], nums_nil w⟩
  · have hl : (zs.take len).length = len := by simp; omega
    refine ⟨zs.take len, some ⟨b, o, spot⟩, cap, by rw [hl], by rw [hl]; omega, fun k hk => ?_⟩
    rw [hl] at hk
    have hc := h4 k (by omega)
    have h0 := h4 0 (by omega)
    have hspot : spot = none := by simpa [Addr.add] using World.cell?_spot h0
    subst hspot
    have e : (Addr.add ⟨b, o, none⟩ k) = ⟨b, o + k, none⟩ := by
      unfold Addr.add; split
      · subst_vars; rfl
      · rfl
    rw [e] at hc
    refine ⟨b, o, rfl, ⟨World.block_lt_of_cell? (w := w) (a := ⟨b, o + k, none⟩) hc, by omega⟩, ?_⟩
    rw [hc]
    simp [List.getD_eq_getElem?_getD, hk]
theorem Gave.nums {R : List Int} {w w' : World} {v : Value} (h : Gave R w v w') (hl : R.length ≤ maxLen) : Nums w' v R := by
  obtain ⟨g, cap, rfl, hg, hlt, hr⟩ := h
  exact ⟨_, cap, rfl, hl, fun k hk => ⟨g, 0, rfl, ⟨hlt, hg.2⟩, by have := (hr k hk).1; simpa using this⟩⟩

theorem next_any {w : World} {L h : Nat} {u : Value} {words : Int} {p : List (List Ln)} {f : St} (hp : IsProg w u p) (hs : StAt w L f) (hh : h < p.length) (h4 : h < 4) (h0 : 0 ≤ f h ∧ f h ≤ 10) :
    Calls Tryd.prog 19 #[.pointer (some ⟨L, 0, none⟩), .agg #[.int .i64 words, u], .int .i64 h] w fun e w' =>
      ∃ (lv : Ln) (b : Bool), e = .returned (.tuple #[.agg #[.int .i64 lv.k, .int .i64 lv.r, .int .i64 lv.w, .int .i64 lv.v], .bool b]) ∧ more p f h = b ∧ (b = true → lv = line p f h) ∧ Below w.heap.size w w' := by
  cases hm : more p f h with
  | true => exact (next_yes hp hs hh h4 h0 hm).mono fun e w' q => ⟨_, true, q.1, rfl, fun _ => rfl, q.2⟩
  | false => exact (next_no hp hs hh h4 h0 hm).mono fun e w' q => ⟨_, false, q.1, rfl, fun x => absurd x (by simp), q.2⟩

/-- The walk of Run, amid: the box, and the state. -/
structure RX (w : World) (words : Int) (u : Value) (p : List (List Ln)) (L : Nat) (f : St) (wr : World) : Prop where
  bel : Below w.heap.size w wr
  box : Blk wr w.heap.size #[.int .i64 words, u] 24
  hL : w.heap.size < L ∧ L < wr.heap.size
  st : StAt wr L f
  pg : IsProg wr u p
theorem RX.below {w wr w' : World} {words : Int} {u : Value} {p : List (List Ln)} {L : Nat} {f : St} (h : RX w words u p L f wr) (k : Below wr.heap.size wr w') : RX w words u p L f w' :=
  ⟨h.bel.trans (k.mono h.bel.size), h.box.below k (by have := h.hL; omega), ⟨h.hL.1, Nat.lt_of_lt_of_le h.hL.2 k.size⟩, h.st.keep (k.block _ h.hL.2), h.pg.below k⟩
theorem RX.alloc {w wr : World} {words : Int} {u : Value} {p : List (List Ln)} {L : Nat} {f : St} (h : RX w words u p L f wr) (o : Obj) : RX w words u p L f (wr.alloc o) := h.below ((Below.refl _ _).alloc (Nat.le_refl _) o)
theorem RX.did {w wr w' : World} {words : Int} {u : Value} {p : List (List Ln)} {L : Nat} {f g : St} (hp : IsProg w u p) (h : RX w words u p L f wr) (k : OnlyG [L] wr w') (hs : StAt w' L g) : RX w words u p L g w' := by
  have hb : Below w.heap.size w w' := h.bel.trans (k.below (by intro x hx; simp at hx; have := h.hL; omega) h.bel.size)
  exact ⟨hb, k.blk (by have := h.hL; simp; omega) h.box, ⟨h.hL.1, Nat.lt_of_lt_of_le h.hL.2 k.size_le⟩, hs, hp.below hb⟩

theorem RX.put4 {w wr : World} {words : Int} {u : Value} {p : List (List Ln)} {L B : Nat} {f : St} (hp : IsProg w u p) (h : RX w words u p L f wr) (hB : w.heap.size < B) (hBL : B ≠ L) (v0 v1 v2 v3 : Value) :
    RX w words u p L f ((((wr.setCell ⟨B, 0, none⟩ v0).setCell ⟨B, 1, none⟩ v1).setCell ⟨B, 2, none⟩ v2).setCell ⟨B, 3, none⟩ v3) := by
  have hb := bel4 (c := B) h.bel (by omega) v0 v1 v2 v3
  have hne : B ≠ w.heap.size := by omega
  exact ⟨hb, (((h.box.other hne 0 v0).other hne 1 v1).other hne 2 v2).other hne 3 v3, ⟨h.hL.1, by simpa using h.hL.2⟩,
    (((h.st.other v0 (.inl hBL)).other v1 (.inl hBL)).other v2 (.inl hBL)).other v3 (.inl hBL), hp.below hb⟩

def Ran (words : Int) (p : List (List Ln)) (z : List Int) (w : World) (e : Ending) (w' : World) : Prop :=
  Below w.heap.size w w' ∧ match run words p z with
    | .inl c => e = .returned (.tuple #[.slice none 0 0, errVal c])
    | .inr R => ∃ v, e = .returned (.tuple #[v, .nilIface]) ∧ Gave R w v w'
theorem Ran.err {words : Int} {p : List (List Ln)} {z : List Int} {w w' : World} {c : Int} (h : run words p z = .inl c) (hb : Below w.heap.size w w') : Ran words p z w (.returned (.tuple #[.slice none 0 0, errVal c])) w' := by
  refine ⟨hb, ?_⟩
  rw [h]
theorem Ran.ok {words : Int} {p : List (List Ln)} {z R : List Int} {w w' : World} {v : Value} (h : run words p z = .inr R) (hb : Below w.heap.size w w') (hg : Gave R w v w') : Ran words p z w (.returned (.tuple #[v, .nilIface])) w' := by
  refine ⟨hb, ?_⟩
  rw [h]
  exact ⟨v, rfl, hg⟩

set_option maxHeartbeats 8000000 in
set_option maxRecDepth 100000 in
theorem run_any {w : World} {words : Int} {u v : Value} {p : List (List Ln)} {z : List Int} (hp : IsProg w u p) (hz : Nums w v z) :
    Calls Tryd.prog 8 #[.agg #[.int .i64 words, u], v] w (Ran words p z w) := by
  have HP := Lib.hid hp
  have HZ := Lib.hid hz
  have HC := Lib.hid (cbox w words u)
  obtain ⟨a, cap, rfl, hl, -⟩ := hp
  obtain ⟨az, capz, rfl, hlz, -⟩ := hz
  unfold maxLen at hl hlz
  go_enter Tryd.func8, Tryd.ntmps8
  go_wp2_with fail
  generalize w.alloc (.cells #[.int .i64 words, .slice a p.length cap] 24) = wx at HC ⊢
  have b0 : wx.cell? ⟨w.heap.size, 0, none⟩ = some (.int .i64 words) := HC.out.box.cell 0
  have b1 : wx.cell? ⟨w.heap.size, 1, none⟩ = some (.slice a p.length cap) := HC.out.box.cell 1
  go_wp2_with fail
  refine (check_any (HP.out.below HC.out.bel)).mono ?_
  rintro e w1 ⟨rfl, hb1⟩
  replace HC := Lib.hid (HC.out.below hb1)
  clear b0 b1 hb1
  by_cases hc : check words p = 0
  · have HCK := Lib.hid hc
    have ev : errVal (check words p) = .nilIface := by rw [hc]; rfl
    rw [ev]
    clear hc ev
    by_cases h40 : 40 < z.length
    · have h40I : (40 : Int) < z.length := by omega
      have hr : run words p z = .inl 4 := by unfold run; rw [if_neg (by simpa using HCK.out), if_pos h40]
      have HR := Lib.hid hr
      clear hr
      go_wp2_with fail
      go_ret2
      exact Ran.err HR.out HC.out.bel
    · have h40I : decide ((40 : Int) < z.length) = false := by simp; omega
      have H40 := Lib.hid h40
      have HF := Lib.hid (fine_of HCK.out)
      have HN3 : p.length ≤ 3 := HF.out.n.2
      go_upto_region 7 with fail
      have hrx : RX w words (.slice a p.length cap) p w1.heap.size St.zero (w1.alloc (.cells #[.int .i64 0, .int .i64 0, .int .i64 0, .int .i64 0, .int .i64 0, .int .i64 0, .int .i64 0, .int .i64 0, .int .i64 0, .int .i64 0, .int .i64 0, .int .i64 0, .int .i64 0, .int .i64 0, .int .i64 0, .int .i64 0] 55)) := by
        have hb : Below w.heap.size w (w1.alloc (.cells #[.int .i64 0, .int .i64 0, .int .i64 0, .int .i64 0, .int .i64 0, .int .i64 0, .int .i64 0, .int .i64 0, .int .i64 0, .int .i64 0, .int .i64 0, .int .i64 0, .int .i64 0, .int .i64 0, .int .i64 0, .int .i64 0] 55)) := HC.out.bel.alloc HC.out.bel.size _
        exact ⟨hb, HC.out.box.alloc _, ⟨by have := HC.out.size; omega, by simp⟩, zeros_row (n := 16) (Blk.eq (Blk.new _ _ _) rfl), HP.out.below hb⟩
      generalize w1.alloc (.cells #[.int .i64 0, .int .i64 0, .int .i64 0, .int .i64 0, .int .i64 0, .int .i64 0, .int .i64 0, .int .i64 0, .int .i64 0, .int .i64 0, .int .i64 0, .int .i64 0, .int .i64 0, .int .i64 0, .int .i64 0, .int .i64 0] 55) = wy at hrx ⊢
      generalize w1.heap.size = L at hrx ⊢
      have HX := Lib.hid hrx
      clear hrx HC
      go_wp2_with fail
      go_loopg [26] (z.length + 1) (fun g i wr => ∃ (k : Nat) (f : St), k ≤ z.length ∧ k + g = z.length + 1 ∧ i = .int .i64 k ∧ RX w words (.slice a p.length cap) p L f wr ∧ Ok f ∧ script p z St.zero = script p (z.drop k) f)
      case atStart => exact ⟨0, St.zero, by omega, by omega, rfl, HX.out, ok_zero, by simp⟩
      case round =>
        clear HX
        obtain ⟨k, f, hk, hkg, rfl, hX, hO, hsc⟩ := hrel
        have HX := Lib.hid hX
        have HO := Lib.hid hO
        have HS := Lib.hid hsc
        have HKG := Lib.hid hkg
        clear hX hO hsc hkg
        have b0 : wr.cell? ⟨w.heap.size, 0, none⟩ = some (.int .i64 words) := HX.out.box.cell 0
        have b1 : wr.cell? ⟨w.heap.size, 1, none⟩ = some (.slice a p.length cap) := HX.out.box.cell 1
        by_cases hkn : k < z.length
        · have hkI : (k : Int) < z.length := by omega
          obtain ⟨az', capz', e1, -, hx⟩ := HZ.out
          obtain ⟨b, o, rfl, hb, hc⟩ := hx k hkn
          cases e1
          rw [← HX.out.bel.cell (p := ⟨b, o + k, none⟩) hb.1] at hc
          obtain ⟨x, hxx⟩ : ∃ x, z.getD k 0 = x := ⟨_, rfl⟩
          have hsd := script_drop (p := p) (f := f) hkn
          rw [hxx] at hc hsd
          have HSD := Lib.hid hsd
          clear hx hxx hsd hb
          by_cases hxr : 0 ≤ x ∧ x ≤ (p.length : Int) - 1
          · have HXR := Lib.hid hxr
            obtain ⟨h, rfl⟩ := Int.eq_ofNat_of_zero_le hxr.1
            have hh : h < p.length := by omega
            clear hxr
            go_wp2_with fail
            refine (within_yes HXR.out.1 HXR.out.2).mono ?_
            rintro e wi ⟨rfl, rfl⟩
            go_wp2_with fail
            refine (next_any HX.out.pg HX.out.st hh (by omega) (HO.out.at0 h (by omega))).mono ?_
            rintro e w2 ⟨lv, bb, rfl, hmo, hlv, hbel⟩
            replace HX := Lib.hid (HX.out.below hbel)
            have HMO := Lib.hid hmo
            have HLV := Lib.hid hlv
            clear b0 b1 hc hbel hmo hlv
            go_upto_region 13 with fail
            have hX2 := HX.out.alloc (.cells #[.int .i64 lv.k, .int .i64 lv.r, .int .i64 lv.w, .int .i64 lv.v] 42)
            have hN := Blk.new w2 #[.int .i64 lv.k, .int .i64 lv.r, .int .i64 lv.w, .int .i64 lv.v] 42
            generalize w2.alloc (.cells #[.int .i64 lv.k, .int .i64 lv.r, .int .i64 lv.w, .int .i64 lv.v] 42) = w3 at hX2 hN ⊢
            replace HX := Lib.hid hX2
            clear hX2
            cases bb with
            | true =>
              have l0 : w3.cell? ⟨w2.heap.size, 0, none⟩ = some (.int .i64 lv.k) := hN.cell 0
              have l1 : w3.cell? ⟨w2.heap.size, 1, none⟩ = some (.int .i64 lv.r) := hN.cell 1
              have l2 : w3.cell? ⟨w2.heap.size, 2, none⟩ = some (.int .i64 lv.w) := hN.cell 2
              have l3 : w3.cell? ⟨w2.heap.size, 3, none⟩ = some (.int .i64 lv.v) := hN.cell 3
              clear hN
              have HGL : Hid (Good words lv) := (HLV.out (by trivial)) ▸ HF.out.line (HO.out.at0 h (by omega)).1 HMO.out
              go_wp2_with fail
              refine (do_any HGL.out HF.out.w.2 HX.out.st (by omega) (HO.out.at0 h (by omega))).mono ?_
              rintro e w4 ⟨rfl, hst, hog⟩
              replace HX := Lib.hid (HX.out.did HP.out hog hst)
              clear l0 l1 l2 l3 hst hog
              have HT : Hid (done f h lv = turn p f h) := by show done f h lv = _; unfold turn; rw [if_pos HMO.out, HLV.out (by trivial)]
              go_wp2_with fail
              go_roundg (z.length - k)
              case measure => have := HKG.out; omega
              case rel => exact ⟨k + 1, turn p f h, by omega, by omega, by go_num, HT.out ▸ HX.out, HO.out.turn HF.out (by omega), by rw [HS.out, HSD.out, if_pos HXR.out]; simp⟩
            | false =>
              clear hN
              have HT : Hid (f = turn p f h) := by show f = _; unfold turn; rw [if_neg (by rw [HMO.out]; simp)]
              go_wp2_with fail
              go_roundg (z.length - k)
              case measure => have := HKG.out; omega
              case rel => exact ⟨k + 1, turn p f h, by omega, by omega, by go_num, HT.out ▸ HX.out, HO.out.turn HF.out (by omega), by rw [HS.out, HSD.out, if_pos HXR.out]; simp⟩
          · have HXR : Hid (x < 0 ∨ (p.length : Int) - 1 < x) := by show x < 0 ∨ _; omega
            have HR : Hid (run words p z = .inl 1) := run_none HCK.out H40.out (by rw [HS.out, HSD.out, if_neg hxr])
            clear hxr
            go_wp2_with fail
            refine (within_no HXR.out).mono ?_
            rintro e wi ⟨rfl, rfl⟩
            go_wp2_with fail
            go_ret2
            exact Ran.err HR.out HX.out.bel
        · obtain rfl : k = z.length := by omega
          have HSF : Hid (script p z St.zero = some f) := by show script p z St.zero = _; rw [HS.out, List.drop_length]; rfl
          clear HS HKG
          go_wp2_with fail
          go_loopg [52] (p.length + 1) (fun g i wr => ∃ (k : Nat) (f' : St), k ≤ p.length ∧ k + g = p.length + 1 ∧ i = .int .i64 k ∧ RX w words (.slice a p.length cap) p L f' wr ∧ Ok f' ∧ f' = ends p k f)
          case atStart => exact ⟨0, f, by omega, by omega, rfl, HX.out, HO.out, rfl⟩
          case round =>
            clear HX b0 b1
            obtain ⟨k, f', hk, hkg, rfl, hX, hO', he⟩ := hrel
            have HX := Lib.hid hX
            have HO' := Lib.hid hO'
            have HEN := Lib.hid he
            have HKG := Lib.hid hkg
            clear hX hO' he hkg
            have b0 : wr.cell? ⟨w.heap.size, 0, none⟩ = some (.int .i64 words) := HX.out.box.cell 0
            have b1 : wr.cell? ⟨w.heap.size, 1, none⟩ = some (.slice a p.length cap) := HX.out.box.cell 1
            by_cases hkn : k < p.length
            · have hkI : (k : Int) < p.length := by omega
              have hk4 : k < 4 := by omega
              go_wp2_with fail
              refine (next_any HX.out.pg HX.out.st hkn hk4 (HO'.out.at0 k hk4)).mono ?_
              rintro e w2 ⟨lv, bb, rfl, hmo, hlv, hbel⟩
              replace HX := Lib.hid (HX.out.below hbel)
              have HMO := Lib.hid hmo
              have HLV := Lib.hid hlv
              clear b0 b1 hbel hmo hlv
              go_wp2_with fail
              have hX2 := HX.out.alloc (.cells #[.int .i64 lv.k, .int .i64 lv.r, .int .i64 lv.w, .int .i64 lv.v] 42)
              have hN := Lib.hid (Blk.new w2 #[.int .i64 lv.k, .int .i64 lv.r, .int .i64 lv.w, .int .i64 lv.v] 42)
              have hBs : w.heap.size < w2.heap.size ∧ w2.heap.size ≠ L := by have := HX.out.hL; omega
              generalize w2.alloc (.cells #[.int .i64 lv.k, .int .i64 lv.r, .int .i64 lv.w, .int .i64 lv.v] 42) = w3 at hX2 hN ⊢
              generalize w2.heap.size = B at hN hBs ⊢
              replace HX := Lib.hid hX2
              have HBS := Lib.hid hBs
              clear hX2 hBs
              go_loopg [13, 14] 6 (fun g x y wr => ∃ (f2 : St) (B : Nat) (lv : Ln) (bb : Bool), x = .pointer (some ⟨B, 0, none⟩) ∧ y = .bool bb ∧ RX w words (.slice a p.length cap) p L f2 wr ∧ Ok f2 ∧ Blk wr B #[.int .i64 lv.k, .int .i64 lv.r, .int .i64 lv.w, .int .i64 lv.v] 42 ∧ w.heap.size < B ∧ B ≠ L ∧ more p f2 k = bb ∧ (bb = true → lv = line p f2 k) ∧ out p k 6 f' = out p k g f2 ∧ 5 ≤ f2 k + g)
              case atStart => exact ⟨f', B, lv, bb, rfl, rfl, HX.out, HO'.out, hN.out, HBS.out.1, HBS.out.2, HMO.out, HLV.out, rfl, by have := (HO'.out.at0 k hk4).1; omega⟩
              case round =>
                clear HX hN HBS HMO HLV
                obtain ⟨f2, B, lv, bb, rfl, rfl, hX, hO2, hN, hB1, hB2, hmo, hlv, hou, h5⟩ := hrel
                have HX := Lib.hid hX
                have HO2 := Lib.hid hO2
                have HMO := Lib.hid hmo
                have HLV := Lib.hid hlv
                have HOU := Lib.hid hou
                have H5 := Lib.hid h5
                clear hX hO2 hmo hlv hou h5
                cases bb with
                | false =>
                  clear hN
                  have HT : Hid (f2 = ends p (k + 1) f) := by
                    show f2 = _
                    rw [ends_succ, ← HEN.out, HOU.out]
                    generalize gk = m
                    cases m with
                    | zero => rfl
                    | succ m => simp [out, HMO.out]
                  go_wp2_with fail
                  go_roundg (p.length - k)
                  case measure => have := HKG.out; omega
                  case rel => exact ⟨k + 1, f2, by omega, by omega, by go_num, HX.out, HO2.out, HT.out⟩
                | true =>
                  have l0 : wr.cell? ⟨B, 0, none⟩ = some (.int .i64 lv.k) := hN.cell 0
                  have l1 : wr.cell? ⟨B, 1, none⟩ = some (.int .i64 lv.r) := hN.cell 1
                  have l2 : wr.cell? ⟨B, 2, none⟩ = some (.int .i64 lv.w) := hN.cell 2
                  have l3 : wr.cell? ⟨B, 3, none⟩ = some (.int .i64 lv.v) := hN.cell 3
                  have HGL : Hid (Good words lv) := (HLV.out (by trivial)) ▸ HF.out.line (HO2.out.at0 k hk4).1 HMO.out
                  have HT : Hid (done f2 k lv = turn p f2 k) := by show done f2 k lv = _; unfold turn; rw [if_pos HMO.out, HLV.out (by trivial)]
                  have HUP := Lib.hid (turn_up HF.out HO2.out hk4 HMO.out)
                  have HN := Lib.hid hN
                  clear hN
                  go_wp2_with fail
                  refine (do_any HGL.out HF.out.w.2 HX.out.st hk4 (HO2.out.at0 k hk4)).mono ?_
                  rintro e w4 ⟨rfl, hst, hog⟩
                  replace HX : Hid (RX w words (.slice a p.length cap) p L (turn p f2 k) w4) := HT.out ▸ HX.out.did HP.out hog hst
                  have hN4 := hog.blk (b := B) (by simp; exact hB2) HN.out
                  clear l0 l1 l2 l3 hst hog HN
                  have l0 : w4.cell? ⟨B, 0, none⟩ = some (.int .i64 lv.k) := hN4.cell 0
                  have l1 : w4.cell? ⟨B, 1, none⟩ = some (.int .i64 lv.r) := hN4.cell 1
                  have l2 : w4.cell? ⟨B, 2, none⟩ = some (.int .i64 lv.w) := hN4.cell 2
                  have l3 : w4.cell? ⟨B, 3, none⟩ = some (.int .i64 lv.v) := hN4.cell 3
                  clear hN4
                  go_upto_region 21 with fail
                  have hX2 := HX.out.alloc (.cells #[.int .i64 lv.k, .int .i64 lv.r, .int .i64 lv.w, .int .i64 lv.v] 42)
                  have hN := Lib.hid (Blk.new w4 #[.int .i64 lv.k, .int .i64 lv.r, .int .i64 lv.w, .int .i64 lv.v] 42)
                  have hBs : w.heap.size < w4.heap.size ∧ w4.heap.size ≠ L := by have := HX.out.hL; omega
                  clear l0 l1 l2 l3
                  generalize w4.alloc (.cells #[.int .i64 lv.k, .int .i64 lv.r, .int .i64 lv.w, .int .i64 lv.v] 42) = w5 at hX2 hN ⊢
                  generalize w4.heap.size = B2 at hN hBs ⊢
                  replace HX := Lib.hid hX2
                  have HBS := Lib.hid hBs
                  clear hX2 hBs
                  have b0 : w5.cell? ⟨w.heap.size, 0, none⟩ = some (.int .i64 words) := HX.out.box.cell 0
                  have b1 : w5.cell? ⟨w.heap.size, 1, none⟩ = some (.slice a p.length cap) := HX.out.box.cell 1
                  have ho3 := HO2.out.turn HF.out hk4
                  have HO3 := Lib.hid ho3
                  clear ho3
                  go_wp2_with fail
                  refine (next_any HX.out.pg HX.out.st hkn hk4 (HO3.out.at0 k hk4)).mono ?_
                  rintro e w6 ⟨lv2, bb2, rfl, hmo, hlv, hbel⟩
                  replace HX := Lib.hid (HX.out.below hbel)
                  have hN6 := hN.out.below hbel hN.out.lt
                  have HMO2 := Lib.hid hmo
                  have HLV2 := Lib.hid hlv
                  clear b0 b1 hbel hmo hlv hN
                  have l0 : w6.cell? ⟨B2, 0, none⟩ = some (.int .i64 lv.k) := hN6.cell 0
                  have l1 : w6.cell? ⟨B2, 1, none⟩ = some (.int .i64 lv.r) := hN6.cell 1
                  have l2 : w6.cell? ⟨B2, 2, none⟩ = some (.int .i64 lv.w) := hN6.cell 2
                  have l3 : w6.cell? ⟨B2, 3, none⟩ = some (.int .i64 lv.v) := hN6.cell 3
                  have f0 := hN6.free 0
                  have f1 := hN6.free 1
                  have f2' := hN6.free 2
                  have f3 := hN6.free 3
                  have HN6 := Lib.hid hN6
                  clear hN6
                  go_wp2_with fail
                  have h5 := H5.out
                  have hup := HUP.out
                  have hfl : f2 k < 5 := by
                    have hl5 := (HF.out.lines k).1
                    have := HMO.out
                    simp [more] at this
                    omega
                  obtain ⟨g', rfl⟩ : ∃ g', gk = g' + 1 := ⟨gk - 1, by omega⟩
                  go_roundg g'
                  case measure => omega
                  case rel =>
                    refine ⟨turn p f2 k, B2, lv2, bb2, rfl, rfl, HX.out.put4 HP.out HBS.out.1 HBS.out.2 _ _ _ _, HO3.out, out4 HN6.out _ _ _ _, HBS.out.1, HBS.out.2, HMO2.out, HLV2.out, ?_, by omega⟩
                    rw [HOU.out]; simp [out, HMO.out]
            · obtain rfl : k = p.length := by omega
              have HR : Hid (run words p z = .inr (result words p f')) := HEN.out ▸ run_some HCK.out H40.out HSF.out
              clear HKG
              go_wp2_with fail
              refine (result_any HX.out.pg HX.out.st HN3 HF.out.w).mono ?_
              rintro e w2 ⟨v, rfl, hg, hbel⟩
              have HGV := Lib.hid hg
              have HBL := Lib.hid (HX.out.bel.trans (hbel.mono HX.out.bel.size))
              have hsz := HX.out.bel.size
              clear hg hbel b0 b1
              go_wp2_with fail
              go_ret2
              obtain ⟨g, cp, hv, hg1, hg2, hr⟩ := HGV.out
              exact Ran.ok HR.out HBL.out ⟨g, cp, hv, ⟨by omega, hg1.2⟩, hg2, hr⟩
  · have hr : run words p z = .inl (check words p) := by unfold run; rw [if_pos hc]
    have HR := Lib.hid hr
    have ev : errVal (check words p) = .iface 37 (.int .i64 (check words p)) := by simp [errVal, hc]
    have ev2 := ev
    rw [ev]
    have HE := Lib.hid ev2
    clear hr ev ev2 hc
    go_wp2_with fail
    go_ret2
    rw [← HE.out]
    exact Ran.err HR.out HC.out.bel
end Go.Proofs.YtllbmjnimfpghaaDoor.Pr
