import Derived.Test.YtllbmjnimfpghaaDoorRfSc
import Derived.Test.YtllbmjnimfpghaaDoorRfDone
import Derived.Deep.CutRange
namespace Go.Proofs.YtllbmjnimfpghaaDoor.Rf
open Go.RowKit Pr
set_option linter.unusedVariables false
set_option linter.unusedSimpArgs false

def e0 (words : Int) (p : List (List Ln)) (z : List Int) : Int := if check words p ≠ 0 then check words p else if 40 < z.length then 4 else 0
/-- A run amid: its program in a box, its state a row. -/
structure RunX (w : World) (words : Int) (u : Value) (p : List (List Ln)) (v : Value) (f : St) (wr : World) : Prop where
  cb : CBox w wr words u
  rv : RV wr v (rowS f)
theorem RunX.below {w wr w' : World} {words : Int} {u : Value} {p : List (List Ln)} {v : Value} {f : St} (h : RunX w words u p v f wr) (k : Below wr.heap.size wr w') : RunX w words u p v f w' := ⟨h.cb.below k, h.rv.below k⟩

theorem RunX.put4 {w wr w1 : World} {words : Int} {u : Value} {p : List (List Ln)} {v : Value} {f : St} (h0 : RunX w words u p v f wr) (h : RunX w words u p v f w1) (v0 v1 v2 v3 : Value) :
    RunX w words u p v f ((((w1.setCell ⟨wr.heap.size, 0, none⟩ v0).setCell ⟨wr.heap.size, 1, none⟩ v1).setCell ⟨wr.heap.size, 2, none⟩ v2).setCell ⟨wr.heap.size, 3, none⟩ v3) := by
  obtain ⟨g, cap, rfl, hc, hg, hr⟩ := h0.rv
  obtain ⟨g', cap', e, hc', hg', hr'⟩ := h.rv
  cases e
  have hne : wr.heap.size ≠ g := by omega
  have hs := h0.cb.size
  have hn2 : wr.heap.size ≠ w.heap.size := by omega
  exact ⟨⟨bel4 h.cb.bel (by omega) _ _ _ _, by simpa using h.cb.size, (((h.cb.box.other hn2 _ _).other hn2 _ _).other hn2 _ _).other hn2 _ _⟩,
    ⟨g, cap, rfl, hc', by simpa using hg', (((hr'.other _ (.inl hne)).other _ (.inl hne)).other _ (.inl hne)).other _ (.inl hne)⟩⟩
/-- The next line amid: its box. -/
structure NextX (w : World) (words : Int) (u : Value) (p : List (List Ln)) (v : Value) (f : St) (h c : Nat) (bb : Bool) (lv : Ln) (wz : World) : Prop where
  rx : RunX w words u p v f wz
  ln : Blk wz c #[.int .i64 lv.k, .int .i64 lv.r, .int .i64 lv.w, .int .i64 lv.v] 42
  mo : more p f h = bb
  lv' : bb = true → lv = line p f h
/-- What the document tells of a run. -/
def RTold (words : Int) (p : List (List Ln)) (z : List Int) (w : World) (e : Ending) (w' : World) : Prop :=
  Below w.heap.size w w' ∧ match run words p z with
    | .inl c => e = .returned (.tuple #[.slice none 0 0, .int .i64 c])
    | .inr R => ∃ v, e = .returned (.tuple #[v, .int .i64 0]) ∧ Gave R w v w'

set_option maxHeartbeats 3000000 in
set_option maxRecDepth 100000 in
theorem run_any {w : World} {words : Int} {u v : Value} {p : List (List Ln)} {z : List Int} (hp : IsProg w u p) (hz : Nums w v z) :
    Calls Tryd.prog 7 #[.agg #[.int .i64 words, u], v] w (RTold words p z w) := by
  have HP := Lib.hid hp
  have HZ := Lib.hid hz
  have HC := Lib.hid (cbox w words u)
  obtain ⟨a, cap, rfl, hl, -⟩ := hp
  obtain ⟨az, capz, rfl, hlz, -⟩ := hz
  unfold maxLen at hl hlz
  go_enter Tryd.func7, Tryd.ntmps7
  go_upto_region 1 with fail
  generalize w.alloc (.cells #[.int .i64 words, .slice a p.length cap] 24) = wx at HC ⊢
  have b0 : wx.cell? ⟨w.heap.size, 0, none⟩ = some (.int .i64 words) := HC.out.box.cell 0
  have b1 : wx.cell? ⟨w.heap.size, 1, none⟩ = some (.slice a p.length cap) := HC.out.box.cell 1
  go_wp2_with fail
  refine (prog_any (HP.out.below HC.out.bel)).mono ?_
  rintro e w1 ⟨rfl, hb1⟩
  replace HC := Lib.hid (HC.out.below hb1)
  -- BODY
  clear b0 b1 hb1
  by_cases hc : check words p = 0
  · rw [hc]
    have HCK := Lib.hid hc
    clear hc
    by_cases h40 : 40 < z.length
    · have h40I : (40 : Int) < z.length := by omega
      have HTL : Hid (RTold words p z w (.returned (.tuple #[.slice none 0 0, .int .i64 4])) w1) := by
        refine ⟨HC.out.bel, ?_⟩
        have hr : run words p z = .inl 4 := by unfold run; rw [if_neg (by simpa using HCK.out), if_pos h40]
        rw [hr]
      clear h40
      go_wp2_with fail
      go_loopg [6, 7] 1 (fun g s6 s7 wr => s6 = .int .i64 4 ∧ s7 = .int .i64 0 ∧ wr = w1)
      case atStart => exact ⟨rfl, rfl, rfl⟩
      case round =>
        obtain ⟨rfl, rfl, rfl⟩ := hrel
        by_cases hz0 : z.length = 0
        · obtain rfl : z = [] := by simpa using hz0
          clear hz0
          go_wp2_with fail
          go_ret2
          exact HTL.out
        · have hzI : (0 : Int) < z.length := by omega
          clear hz0
          go_wp2_with fail
          go_ret2
          exact HTL.out
    · have h40I : decide ((40 : Int) < z.length) = false := by simp; omega
      have H40 := Lib.hid h40
      clear h40
      have HF := Lib.hid (fine_of HCK.out)
      have HN3 := Lib.hid HF.out.n
      go_wp2_with fail
      go_loopg [6, 7] (z.length + 1) (fun g s6 s7 wr => ∃ i : Nat, s7 = .int .i64 i ∧ i + g = z.length + 1 ∧ i ≤ z.length ∧ CBox w wr words (.slice a p.length cap) ∧ ((s6 = .int .i64 0 ∧ ∀ j, j < i → inR p (z.getD j 0)) ∨ (s6 = .int .i64 1 ∧ ∃ x ∈ z, ¬ inR p x)))
      case atStart => exact ⟨0, rfl, by omega, by omega, HC.out, .inl ⟨rfl, fun j hj => by omega⟩⟩
      case round =>
        clear HC
        obtain ⟨i, rfl, hig, hil, hC, hcase⟩ := hrel
        have HC := Lib.hid hC
        have HIG := Lib.hid hig
        clear hC hig
        rcases hcase with ⟨rfl, hall⟩ | ⟨rfl, hbad⟩
        · have HAL := Lib.hid hall
          clear hall
          by_cases hin : i < z.length
          · have hinI : (i : Int) < z.length := by omega
            obtain ⟨az', capz', e, -, hzj⟩ := HZ.out
            obtain ⟨bz, oz, rfl, hbz, hzc⟩ := hzj i hin
            cases e
            have c0 : wr.cell? ⟨bz, oz + i, none⟩ = some (.int .i64 (z.getD i 0)) := by rw [HC.out.bel.cell (p := ⟨bz, oz + i, none⟩) hbz.1]; exact hzc
            have b1 : wr.cell? ⟨w.heap.size, 1, none⟩ = some (.slice a p.length cap) := HC.out.box.cell 1
            clear hzj hzc hbz
            obtain ⟨x, hx⟩ : ∃ x, z.getD i 0 = x := ⟨_, rfl⟩
            rw [hx] at c0
            have HX := Lib.hid hx
            clear hx
            have HWR : Hid (IntKind.i64.wrap ((p.length : Int) - 1) = (p.length : Int) - 1) := IntWalk.i64_in _ (by have := HN3.out; omega)
            have hn3a := HN3.out.1
            have hn3b := HN3.out.2
            by_cases hxr : 0 ≤ x ∧ x ≤ (p.length : Int) - 1
            · have P0 := Lib.hid hxr
              clear hxr
              go_wp2_with fail
              go_region_with (go_at_call 13; rw [HWR.out]; refine (in_yes P0.out.1 P0.out.2).mono ?_; rintro e wi ⟨rfl, rfl⟩)
              all_goals
                go_wp2_with fail
                go_roundg (z.length - i)
                case measure => have := HIG.out; omega
                case rel => exact ⟨i + 1, by go_num, by omega, by omega, HC.out.below (Below.todrewN (Below.refl _ _) 1), .inl ⟨rfl, fun j hj => by
                  by_cases e : j = i
                  · subst e; rw [HX.out]; exact P0.out
                  · exact HAL.out j (by omega)⟩⟩
            · have P0 : Hid (x < 0 ∨ (p.length : Int) - 1 < x) := by show _ ∨ _; omega
              have HBD : Hid (∃ x ∈ z, ¬ inR p x) := ⟨z.getD i 0, getD_mem hin, by rw [HX.out]; exact hxr⟩
              clear hxr
              go_wp2_with fail
              go_region_with (go_at_call 13; rw [HWR.out]; refine (in_no P0.out).mono ?_; rintro e wi ⟨rfl, rfl⟩)
              all_goals
                go_wp2_with fail
                go_roundg (z.length - i)
                case measure => have := HIG.out; omega
                case rel => exact ⟨i + 1, by go_num, by omega, by omega, HC.out.below (Below.todrewN (Below.refl _ _) 1), .inr ⟨rfl, HBD.out⟩⟩
          · obtain rfl : i = z.length := by omega
            have HSC : Hid (∃ g, script p z St.zero = some g) := script_all z St.zero (fun x hx => by
              obtain ⟨j, hj, rfl⟩ := List.getElem_of_mem hx
              have := HAL.out j hj
              simpa [List.getD_eq_getElem?_getD, hj] using this)
            obtain ⟨F0, hF0⟩ := HSC.out
            have HF0 := Lib.hid hF0
            clear HSC hF0 HAL HIG hin
            go_wp2_with fail
            refine first_any.mono ?_
            rintro e w2 ⟨x, rfl, hg, hb2⟩
            have HRX : Hid (RunX w words (.slice a p.length cap) p x St.zero w2) := ⟨HC.out.below hb2, by rw [rowS_zero]; exact hg.rv⟩
            clear hg hb2 HC
            go_wp2_with fail
            go_loopg [8, 9] (z.length + 1) (fun g s8 s9 wr => ∃ (i : Nat) (v : Value) (f : St), s8 = v ∧ s9 = .int .i64 i ∧ i + g = z.length + 1 ∧ i ≤ z.length ∧ RunX w words (.slice a p.length cap) p v f wr ∧ Sc.Reach p f ∧ script p (z.drop i) f = some F0)
            case atStart => exact ⟨0, _, St.zero, rfl, rfl, by omega, by omega, HRX.out, .zero, by simpa using HF0.out⟩
            case round =>
              clear HRX
              obtain ⟨i, v, f, rfl, rfl, hig, hil, hX, hre, hsc⟩ := hrel
              have HX := Lib.hid hX
              have HRE := Lib.hid hre
              have HSC := Lib.hid hsc
              have HIG := Lib.hid hig
              clear hX hre hsc hig
              by_cases hin : i < z.length
              · have hinI : (i : Int) < z.length := by omega
                obtain ⟨az', capz', e, -, hzj⟩ := HZ.out
                obtain ⟨bz, oz, rfl, hbz, hzc⟩ := hzj i hin
                cases e
                have HZC : Hid (∀ wq, Below w.heap.size w wq → wq.cell? ⟨bz, oz + i, none⟩ = some (.int .i64 (z.getD i 0))) := fun wq k => by rw [k.cell (p := ⟨bz, oz + i, none⟩) hbz.1]; exact hzc
                clear hzj hzc hbz
                have hsd := HSC.out
                rw [script_drop hin] at hsd
                have hxr : 0 ≤ z.getD i 0 ∧ z.getD i 0 ≤ (p.length : Int) - 1 := by
                  rcases Classical.em (0 ≤ z.getD i 0 ∧ z.getD i 0 ≤ (p.length : Int) - 1) with h | h
                  · exact h
                  · rw [if_neg h] at hsd; cases hsd
                rw [if_pos hxr] at hsd
                obtain ⟨h, hh⟩ := Int.eq_ofNat_of_zero_le hxr.1
                rw [hh] at hsd HZC
                try rw [show (Int.ofNat h).toNat = h from rfl] at hsd
                try simp only [Int.toNat_natCast] at hsd
                have hhn : h < p.length := by have := hxr.2; rw [hh] at this; omega
                have HSD := Lib.hid hsd
                clear hsd hxr hh HSC
                have h3 : h < 3 := by have := HN3.out.2; omega
                have HOK := Lib.hid (HRE.out.fine HF.out).1
                have c0 := HZC.out wr HX.out.cb.bel
                have b0 : wr.cell? ⟨w.heap.size, 0, none⟩ = some (.int .i64 words) := HX.out.cb.box.cell 0
                have b1 : wr.cell? ⟨w.heap.size, 1, none⟩ = some (.slice a p.length cap) := HX.out.cb.box.cell 1
                have HX1 : Hid (RunX w words (.slice a p.length cap) p u8 f wr.drew) := HX.out.below (Below.todrewN (Below.refl _ _) 1)
                have HX2 : Hid (RunX w words (.slice a p.length cap) p u8 f (wr.alloc (.cells #[.int .i64 0, .int .i64 0, .int .i64 0, .int .i64 0] 42)).drew) := (HX.out.below ((Below.refl _ _).alloc (Nat.le_refl _) _)).below (Below.todrewN (Below.refl _ _) 1)
                have HZ2 : Hid (Blk (wr.alloc (.cells #[.int .i64 0, .int .i64 0, .int .i64 0, .int .i64 0] 42)).drew wr.heap.size #[.int .i64 0, .int .i64 0, .int .i64 0, .int .i64 0] 42) := (Blk.new wr #[.int .i64 0, .int .i64 0, .int .i64 0, .int .i64 0] 42).drew
                have c1 := HZC.out _ HX2.out.cb.bel
                have d0 : (wr.alloc (.cells #[.int .i64 0, .int .i64 0, .int .i64 0, .int .i64 0] 42)).drew.cell? ⟨w.heap.size, 0, none⟩ = some (.int .i64 words) := HX2.out.cb.box.cell 0
                have d1 : (wr.alloc (.cells #[.int .i64 0, .int .i64 0, .int .i64 0, .int .i64 0] 42)).drew.cell? ⟨w.heap.size, 1, none⟩ = some (.slice a p.length cap) := HX2.out.cb.box.cell 1
                go_upto_region 15 with fail
                go_cut [10, 11] from 55 to 72 (fun s10 s11 wz => ∃ (c : Nat) (bb : Bool) (lv : Ln), s10 = .pointer (some ⟨c, 0, none⟩) ∧ s11 = .bool bb ∧ NextX w words (.slice a p.length cap) p u8 f h c bb lv wz)
                case first =>
                  go_region_with (go_at_call 16; first | (refine (next_any (words := words) (HP.out.below HX1.out.cb.bel) HX1.out.rv hhn h3 (by rw [rowS_at _ h3]; exact HOK.out.at0 h (by omega))).mono ?_; rintro e w5 ⟨lv, bb, rfl, hmo, hlv, hbel⟩) | (refine (next_any (words := words) (HP.out.below HX2.out.cb.bel) HX2.out.rv hhn h3 (by rw [rowS_at _ h3]; exact HOK.out.at0 h (by omega))).mono ?_; rintro e w5 ⟨lv, bb, rfl, hmo, hlv, hbel⟩; have hz := HZ2.out.below hbel HZ2.out.lt; have n0 := hz.cell 0; have n1 := hz.cell 1; have n2 := hz.cell 2; have n3 := hz.cell 3; have f0 := hz.free 0; have f1 := hz.free 1; have f2 := hz.free 2; have f3 := hz.free 3))
                  all_goals
                    go_wp2_with fail
                    go_meet
                    first
                      | exact ⟨_, bb, lv, rfl, rfl, HX.out.put4 (HX2.out.below hbel) _ _ _ _, out4 hz _ _ _ _, by rw [rowS_more _ h3] at hmo; exact hmo, fun x => by rw [← rowS_line _ h3]; exact hlv x⟩
                      | exact ⟨_, bb, lv, rfl, rfl, (HX1.out.below hbel).below ((Below.refl _ _).alloc (Nat.le_refl _) _), Blk.new _ _ _, by rw [rowS_more _ h3] at hmo; exact hmo, fun x => by rw [← rowS_line _ h3]; exact hlv x⟩
                case rest =>
                  obtain ⟨c, bb, lv, rfl, rfl, hN⟩ := hcut
                  have HN := Lib.hid hN
                  clear hN HX HX1 HX2 HZ2 b0 b1 c0 c1 d0 d1
                  cases bb with
                  | true =>
                    have l0 : wc.cell? ⟨c, 0, none⟩ = some (.int .i64 lv.k) := HN.out.ln.cell 0
                    have l1 : wc.cell? ⟨c, 1, none⟩ = some (.int .i64 lv.r) := HN.out.ln.cell 1
                    have l2 : wc.cell? ⟨c, 2, none⟩ = some (.int .i64 lv.w) := HN.out.ln.cell 2
                    have l3 : wc.cell? ⟨c, 3, none⟩ = some (.int .i64 lv.v) := HN.out.ln.cell 3
                    have c0 := HZC.out wc HN.out.rx.cb.bel
                    have HLVE : Hid (lv = line p f h) := HN.out.lv' rfl
                    have HGL : Hid (Pr.Good words lv) := HLVE.out ▸ HF.out.line (HOK.out.at0 h (by omega)).1 HN.out.mo
                    have HTU : Hid (turn p f h = done f h lv) := by show _ = _; unfold turn; rw [if_pos HN.out.mo, HLVE.out]
                    have HXD : Hid (RunX w words (.slice a p.length cap) p u8 f wc.drew) := HN.out.rx.below (Below.todrewN (Below.refl _ _) 1)
                    go_upto_region 17 with fail
                    go_region_with (go_at_call 17; refine (done_any HXD.out.rv h3 (rowS_bd HF.out HRE.out) HGL.out HF.out.w.2).mono ?_; rintro e w7 ⟨y, rfl, hgot, hb7⟩)
                    all_goals
                      have hrv := hgot.rv
                      rw [rdone_rowS h3 HGL.out HF.out.w.2, ← HTU.out] at hrv
                      have HXN : Hid (RunX w words (.slice a p.length cap) p y (turn p f h) w7) := ⟨HXD.out.cb.below hb7, hrv⟩
                      have HRN : Hid (Sc.Reach p (turn p f h)) := reach_turn HRE.out hhn
                      clear l0 l1 l2 l3 hgot hb7 hrv c0
                      go_wp2_with fail
                      go_roundg (z.length - i)
                      case measure => have := HIG.out; omega
                      case rel => exact ⟨i + 1, _, turn p f h, rfl, by go_num, by omega, by omega, HXN.out, HRN.out, HSD.out⟩
                  | false =>
                    have HTU : Hid (turn p f h = f) := by show _ = _; unfold turn; rw [if_neg (by rw [HN.out.mo]; simp)]
                    have HXN : Hid (RunX w words (.slice a p.length cap) p u8 (turn p f h) wc) := by
                      have := HN.out.rx
                      rw [← HTU.out] at this
                      exact this
                    have HRN : Hid (Sc.Reach p (turn p f h)) := reach_turn HRE.out hhn
                    clear HN
                    go_wp2_with fail
                    go_roundg (z.length - i)
                    case measure => have := HIG.out; omega
                    case rel => exact ⟨i + 1, _, turn p f h, rfl, by go_num, by omega, by omega, HXN.out, HRN.out, HSD.out⟩
              · obtain rfl : i = z.length := by omega
                have hF : f = F0 := by
                  have := HSC.out
                  simpa [script] using this
                have HRX : Hid (RunX w words (.slice a p.length cap) p u8 (ends p 0 F0) wr) := by
                  have := HX.out
                  rw [hF] at this
                  exact this
                have HRF : Hid (Sc.Reach p (ends p 0 F0)) := by
                  have := HRE.out
                  rw [hF] at this
                  exact this
                clear HX HRE HSC HIG hin hF
                go_wp2_with fail
                go_loopg [8, 12] (p.length + 1) (fun g s8 s12 wr => ∃ (k : Nat) (v : Value), s8 = v ∧ s12 = .int .i64 k ∧ k + g = p.length + 1 ∧ k ≤ p.length ∧ RunX w words (.slice a p.length cap) p v (ends p k F0) wr ∧ Sc.Reach p (ends p k F0))
                case atStart => exact ⟨0, _, rfl, rfl, by omega, by omega, HRX.out, HRF.out⟩
                case round =>
                  clear HRX HRF
                  obtain ⟨k, v, rfl, rfl, hkg, hkl, hX, hre⟩ := hrel
                  have HX := Lib.hid hX
                  have HRE := Lib.hid hre
                  have HKG := Lib.hid hkg
                  clear hX hre hkg
                  have b1 : wr.cell? ⟨w.heap.size, 1, none⟩ = some (.slice a p.length cap) := HX.out.cb.box.cell 1
                  by_cases hkn : k < p.length
                  · have hkI : (k : Int) < p.length := by omega
                    have HX0 : Hid (RunX w words (.slice a p.length cap) p u8 (out p k 0 (ends p k F0)) wr) := HX.out
                    have HR0 : Hid (Sc.Reach p (out p k 0 (ends p k F0))) := HRE.out
                    clear HX HRE
                    have h3 : k < 3 := by have := HN3.out.2; omega
                    go_wp2_with fail
                    go_loopg [8, 13] 7 (fun g s8 s13 wr => ∃ (n : Nat) (v : Value), s8 = v ∧ s13 = .int .i64 n ∧ n + g = 7 ∧ n ≤ 6 ∧ RunX w words (.slice a p.length cap) p v (out p k n (ends p k F0)) wr ∧ Sc.Reach p (out p k n (ends p k F0)))
                    case atStart => exact ⟨0, _, rfl, rfl, by omega, by omega, HX0.out, HR0.out⟩
                    case round =>
                      clear HX0 HR0 b1
                      obtain ⟨n, v, rfl, rfl, hng, hn6, hX, hre⟩ := hrel
                      have HX := Lib.hid hX
                      have HRE := Lib.hid hre
                      have HNG := Lib.hid hng
                      clear hX hre hng
                      by_cases hnn : n < 6
                      · have hnI : (n : Int) < 6 := by omega
                        obtain ⟨f, hf⟩ : ∃ f, out p k n (ends p k F0) = f := ⟨_, rfl⟩
                        rw [hf] at HX HRE
                        have HFE : Hid (out p k (n + 1) (ends p k F0) = turn p f k) := by show _ = _; rw [out_step, hf]
                        clear hf
                        have HOK := Lib.hid (HRE.out.fine HF.out).1
                        have b0 : wr.cell? ⟨w.heap.size, 0, none⟩ = some (.int .i64 words) := HX.out.cb.box.cell 0
                        have b1 : wr.cell? ⟨w.heap.size, 1, none⟩ = some (.slice a p.length cap) := HX.out.cb.box.cell 1
                        go_wp2_with fail
                        refine (next_any (HP.out.below HX.out.cb.bel) HX.out.rv (h := k) hkn h3 (by rw [rowS_at _ h3]; exact HOK.out.at0 k (by omega))).mono ?_
                        rintro e w5 ⟨lv, bb, rfl, hmo, hlv, hbel⟩
                        rw [rowS_more _ h3] at hmo
                        rw [rowS_line _ h3] at hlv
                        replace HX := Lib.hid (HX.out.below hbel)
                        have HMO := Lib.hid hmo
                        have HLV := Lib.hid hlv
                        clear b0 b1 hbel hmo hlv 
                        go_upto_region 25 with fail
                        have hN := Blk.new w5 #[.int .i64 lv.k, .int .i64 lv.r, .int .i64 lv.w, .int .i64 lv.v] 42
                        replace HX := Lib.hid (HX.out.below ((Below.refl _ _).alloc (Nat.le_refl _) (.cells #[.int .i64 lv.k, .int .i64 lv.r, .int .i64 lv.w, .int .i64 lv.v] 42)))
                        generalize w5.alloc (.cells #[.int .i64 lv.k, .int .i64 lv.r, .int .i64 lv.w, .int .i64 lv.v] 42) = w6 at hN HX ⊢
                        cases bb with
                        | true =>
                          have l0 : w6.cell? ⟨w5.heap.size, 0, none⟩ = some (.int .i64 lv.k) := hN.cell 0
                          have l1 : w6.cell? ⟨w5.heap.size, 1, none⟩ = some (.int .i64 lv.r) := hN.cell 1
                          have l2 : w6.cell? ⟨w5.heap.size, 2, none⟩ = some (.int .i64 lv.w) := hN.cell 2
                          have l3 : w6.cell? ⟨w5.heap.size, 3, none⟩ = some (.int .i64 lv.v) := hN.cell 3
                          clear hN
                          have HLVE : Hid (lv = line p f k) := HLV.out rfl
                          have HGL : Hid (Pr.Good words lv) := HLVE.out ▸ HF.out.line (HOK.out.at0 k (by omega)).1 HMO.out
                          have HTU : Hid (turn p f k = done f k lv) := by show _ = _; unfold turn; rw [if_pos HMO.out, HLVE.out]
                          go_wp2_with fail
                          refine (done_any HX.out.rv h3 (rowS_bd HF.out HRE.out) HGL.out HF.out.w.2).mono ?_
                          rintro e w7 ⟨y, rfl, hgot, hb7⟩
                          have hrv := hgot.rv
                          rw [rdone_rowS h3 HGL.out HF.out.w.2, ← HTU.out] at hrv
                          have HXN : Hid (RunX w words (.slice a p.length cap) p y (turn p f k) w7) := ⟨HX.out.cb.below hb7, hrv⟩
                          have HRN : Hid (Sc.Reach p (turn p f k)) := reach_turn HRE.out hkn
                          clear l0 l1 l2 l3 hgot hb7 hrv 
                          go_wp2_with fail
                          go_roundg (7 - (n + 1))
                          case measure => have := HNG.out; omega
                          case rel => exact ⟨n + 1, _, rfl, by go_num, by omega, by omega, by rw [HFE.out]; exact HXN.out, by rw [HFE.out]; exact HRN.out⟩
                        | false =>
                          have HTU : Hid (turn p f k = f) := by show _ = _; unfold turn; rw [if_neg (by rw [HMO.out]; simp)]
                          have HXN : Hid (RunX w words (.slice a p.length cap) p u8 (turn p f k) w6) := by
                            have := HX.out
                            rw [← HTU.out] at this
                            exact this
                          have HRN : Hid (Sc.Reach p (turn p f k)) := reach_turn HRE.out hkn
                          clear hN
                          go_wp2_with fail
                          go_roundg (7 - (n + 1))
                          case measure => have := HNG.out; omega
                          case rel => exact ⟨n + 1, _, rfl, by go_num, by omega, by omega, by rw [HFE.out]; exact HXN.out, by rw [HFE.out]; exact HRN.out⟩
                      · obtain rfl : n = 6 := by omega
                        have HXN : Hid (RunX w words (.slice a p.length cap) p u8 (ends p (k + 1) F0) wr) := by
                          have := HX.out
                          rw [← ends_succ] at this
                          exact this
                        have HRN : Hid (Sc.Reach p (ends p (k + 1) F0)) := by
                          have := HRE.out
                          rw [← ends_succ] at this
                          exact this
                        clear HX HRE
                        go_wp2_with fail
                        go_roundg (p.length - k)
                        case measure => have := HKG.out; omega
                        case rel => exact ⟨k + 1, _, rfl, by go_num, by omega, by omega, HXN.out, HRN.out⟩
                  · obtain rfl : k = p.length := by omega
                    have b0 : wr.cell? ⟨w.heap.size, 0, none⟩ = some (.int .i64 words) := HX.out.cb.box.cell 0
                    go_wp2_with fail
                    refine (result_any (HP.out.below HX.out.cb.bel) HX.out.rv HN3.out.2 HF.out.w).mono ?_
                    rintro e w9 ⟨x, rfl, hg, hb9⟩
                    rw [rresult_rowS HN3.out.2 HF.out.w.2] at hg
                    have HTL : Hid (RTold words p z w (.returned (.tuple #[x, .int .i64 0])) w9) := by
                      refine ⟨HX.out.cb.bel.trans (hb9.mono HX.out.cb.bel.size), ?_⟩
                      rw [run_some HCK.out H40.out HF0.out]
                      refine ⟨x, rfl, ?_⟩
                      obtain ⟨g, cp, e1, e2, e3, e4⟩ := hg
                      exact ⟨g, cp, e1, ⟨Nat.le_trans HX.out.cb.bel.size e2.1, e2.2⟩, e3, e4⟩
                    clear hg hb9
                    go_wp2_with fail
                    go_ret2
                    exact HTL.out
        · have HTL : Hid (RTold words p z w (.returned (.tuple #[.slice none 0 0, .int .i64 1])) wr) := by
            refine ⟨HC.out.bel, ?_⟩
            rw [run_none HCK.out H40.out (script_bad z _ hbad)]
          clear hbad
          by_cases hin : i < z.length
          · have hinI : (i : Int) < z.length := by omega
            clear hin
            go_wp2_with fail
            go_ret2
            exact HTL.out
          · obtain rfl : i = z.length := by omega
            clear hin
            go_wp2_with fail
            go_ret2
            exact HTL.out
  · have zc : (check words p == 0) = false := by simpa using hc
    have zn : (check words p != 0) = true := by simpa using hc
    have HTL : Hid (RTold words p z w (.returned (.tuple #[.slice none 0 0, .int .i64 (check words p)])) w1) := by
      refine ⟨HC.out.bel, ?_⟩
      have hr : run words p z = .inl (check words p) := by unfold run; rw [if_pos (by simpa using hc)]
      rw [hr]
    clear hc
    generalize hE : check words p = E at *
    go_wp2_with fail
    go_loopg [6, 7] 1 (fun g s6 s7 wr => s6 = .int .i64 E ∧ s7 = .int .i64 0 ∧ wr = w1)
    case atStart => exact ⟨rfl, rfl, rfl⟩
    case round =>
      obtain ⟨rfl, rfl, rfl⟩ := hrel
      by_cases hz0 : z.length = 0
      · obtain rfl : z = [] := by simpa using hz0
        clear hz0
        go_wp2_with fail
        go_ret2
        exact HTL.out
      · have hzI : (0 : Int) < z.length := by omega
        clear hz0
        go_wp2_with fail
        go_ret2
        exact HTL.out
end Go.Proofs.YtllbmjnimfpghaaDoor.Rf
