import Derived.Test.YtpdhnmkhobfnbaaWorkNew
import Derived.Test.YtpdhnmkhobfnbaaWorkPlain2
import Derived.Test.YtpdhnmkhobfnbaaInT
import Derived.Deep.CutRange
namespace Go.Proofs.Ytpdhnmkhobfnbaa.Work
open Go.RowKit
set_option linter.unusedVariables false

structure Wx (w : World) (fb : List Nat) (bS : Nat) (wr : World) : Prop where
  bel : Below w.heap.size w wr
  ob : w.heap.size ≤ bS ∧ bS < wr.heap.size
  of : ∀ k ∈ fb, w.heap.size ≤ k ∧ k < wr.heap.size ∧ k ≠ bS
theorem Wx.only {w wr w' : World} {fb : List Nat} {bS : Nat} (h : Wx w fb bS wr) (ho : OnlyG fb wr w') : Wx w fb bS w' :=
  ⟨h.bel.trans (ho.below (fun k hk => (h.of k hk).1) h.bel.size), ⟨h.ob.1, Nat.lt_of_lt_of_le h.ob.2 ho.size_le⟩, fun k hk => ⟨(h.of k hk).1, Nat.lt_of_lt_of_le (h.of k hk).2.1 ho.size_le, (h.of k hk).2.2⟩⟩
theorem Wx.row {w wr w' : World} {fb : List Nat} {bS : Nat} {f : Nat → Int} (h : Wx w fb bS wr) (ho : OnlyG fb wr w') (hr : Row wr bS 9 (fun j => j) f) : Row w' bS 9 (fun j => j) f :=
  hr.keep (ho.block bS h.ob.2 (fun hm => (h.of bS hm).2.2 rfl))
theorem Wx.set {w wr : World} {fb : List Nat} {bS : Nat} (h : Wx w fb bS wr) (i : Nat) (v : Value) : Wx w fb bS (wr.setCell ⟨bS, i, none⟩ v) :=
  ⟨h.bel.setCell (p := ⟨bS, i, none⟩) h.ob.1 v, by simpa using h.ob, by simpa using h.of⟩
theorem Wx.rep {w wr : World} {fb : List Nat} {bS n L i : Nat} {s : St} {v : Value} (h : Wx w fb bS wr) (hr : Rep wr n L fb s) : Rep (wr.setCell ⟨bS, i, none⟩ v) n L fb s :=
  hr.keep (fun k hk => Below.heap_setCell _ _ _ _ (fun e => by
    have := (h.of k hk).2.2
    first | exact this e | exact this e.symm))
theorem step_at {w : World} {m n L p : Nat} {fb : List Nat} {s : St} {was : Nat → Int} {d : Bool} {g : Int} (hb : Rep w n L fb s) (hi : Inv m n s was) (hp : p < n) (hn : n ≤ 4) (hl : s.ln p ≠ 0) (hd : fin s p = d) (hg : got s p = g) :
    Calls Try.prog 7 #[.pointer (some ⟨L, 0, none⟩), .int .i64 p] w (Post n L fb w d g (stepN s p)) := by
  subst hd; subst hg; exact step_any hb hi hp hn hl
theorem pop_at {w : World} {n L p : Nat} {fb : List Nat} {s : St} (hp0 : p = 0) (h : Rep w n L fb s) (hp : p < n) (hn : n ≤ 4) (h0 : s.ln p = 0) :
    Calls Try.prog 9 #[.pointer (some ⟨L, 0, none⟩)] w fun e w' => e = .returned .nilIface ∧ Rep w' n L fb (put s p 4 0 0 0) ∧ OnlyG fb w w' := by
  subst hp0; exact pop_any h (by omega) hn h0

def MainRel (m n L bS : Nat) (fb : List Nat) (w : World) (gk : Nat) (none_ i : Value) (wr : World) : Prop :=
  ∃ (k : Nat) (s : St) (was : Nat → Int) (nb : Bool), k + gk = 700 ∧ i = .int .i64 k ∧ none_ = .bool nb ∧ Rep wr n L fb s ∧ Inv m n s was ∧ Row wr bS 9 (fun j => j) was ∧ (nb = true → Over s) ∧ (nb = false → hits n k + mu s ≤ 70) ∧ Wx w fb bS wr
def EndRel (m n L bS : Nat) (fb : List Nat) (w : World) (s0 : Nat → Int) (wr : World) : Prop :=
  ∃ s : St, Rep wr n L fb s ∧ Inv m n s s0 ∧ Over s ∧ Row wr bS 9 (fun j => j) s0 ∧ Wx w fb bS wr

set_option maxHeartbeats 16000000 in
set_option maxRecDepth 100000 in
theorem work_walk (n m : Nat) (hn1 : 1 ≤ n) (hn4 : n ≤ 4) (hm8 : m ≤ 8) (a0 : Option Addr) (len0 cap0 : Nat) (z0 : List Int) (w : World) (w0 : IsRow .i64 w a0 len0 cap0 z0) :
    Calls Try.prog 3 #[.int .i64 n, .int .i64 m, .slice a0 len0 cap0] w fun e w' => e = .returned (.bool true) ∧ Below w.heap.size w w' := by
  have hle := w0.le
  have hat := Lib.hid (w0.at)
  clear w0
  unfold maxLen at hle
  have hnn : 0 ≤ (n : Int) := by omega
  have hnn4 : (n : Int) ≤ 4 := by omega
  have hnn1 : (1 : Int) ≤ n := by omega
  have hmk := fun w => make_ints 9 (by omega) (by omega) w
  simp only [show (9 : Int).toNat = 9 from rfl] at hmk
  go_enter Try.func3, Try.ntmps3
  go_wp2_with fail
  refine (new_any n hn1 hn4 _).mono ?_
  rintro e w1 ⟨L, fb, rfl, hL, hbel0, hfb⟩
  have HR := Lib.hid hL
  have Hb := Lib.hid hbel0
  have Hfb := Lib.hid hfb
  clear hL hbel0 hfb
  go_wp2_with fail
  refine (inT_yes (by omega) (by omega)).mono ?_
  rintro e wi ⟨rfl, rfl⟩
  go_wp2_with fail
  replace HR : Hid (Rep (w1.alloc (.cells (zeros 9) 3)) n L fb (laid 0)) := HR.out.keep (fun x hx => Below.heap_alloc _ _ _ (Hfb.out x hx).2)
  have HS : Hid (Row (w1.alloc (.cells (zeros 9) 3)) w1.heap.size 9 (fun j => j) (fun _ => 0)) := zeros_row (Blk.new _ _ _)
  have HW : Hid (Wx w fb w1.heap.size (w1.alloc (.cells (zeros 9) 3))) :=
    ⟨Hb.out.alloc Hb.out.size _, ⟨Hb.out.size, by simp⟩, fun k hk => ⟨(Hfb.out k hk).1, by have := (Hfb.out k hk).2; simp; omega, Nat.ne_of_lt (Hfb.out k hk).2⟩⟩
  clear Hb Hfb hmk
  generalize w1.alloc (.cells (zeros 9) 3) = w2 at HR HS HW ⊢
  generalize w1.heap.size = bS at HS HW ⊢
  go_loopw [10] (fun i wr => ∃ k : Nat, k ≤ m ∧ i = .int .i64 k ∧ Rep wr n L fb (laid k) ∧ Row wr bS 9 (fun j => j) (fun _ => 0) ∧ Wx w fb bS wr) (fun i _ => m - (intOf i).toNat)
  case atStart => exact ⟨0, by omega, rfl, HR.out, HS.out, HW.out⟩
  case round =>
    clear HR HS HW
    obtain ⟨k, hk, rfl, hR, hS, hW⟩ := hrel
    have HR := Lib.hid hR
    have HS := Lib.hid hS
    have HW := Lib.hid hW
    clear hR hS hW
    by_cases hkm : k < m
    · have hkmI : (k : Int) < m := by omega
      go_wp2_with fail
      refine (push_any (v := k) HR.out hn1 hn4 rfl (by omega)).mono ?_
      rintro e w3 ⟨rfl, hr1, ho1⟩
      replace HS := Lib.hid (HW.out.row ho1 HS.out)
      replace HW := Lib.hid (HW.out.only ho1)
      replace HR := Lib.hid hr1
      clear hr1 ho1
      go_wp2_with fail
      go_loopw [11] (fun j wr => ∃ jj : Nat, jj ≤ 3 ∧ j = .int .i64 jj ∧ Rep wr n L fb (mid k jj) ∧ Row wr bS 9 (fun j => j) (fun _ => 0) ∧ Wx w fb bS wr) (fun j _ => 3 - (intOf j).toNat)
      case atStart => exact ⟨0, by omega, rfl, HR.out, HS.out, HW.out⟩
      case round =>
        clear HR HS HW
        obtain ⟨jj, hj, rfl, hR, hS, hW⟩ := hrel
        have HR := Lib.hid hR
        have HS := Lib.hid hS
        have HW := Lib.hid hW
        clear hR hS hW
        obtain rfl | rfl | rfl | rfl : jj = 0 ∨ jj = 1 ∨ jj = 2 ∨ jj = 3 := by omega
        · go_wp2_with fail
          refine (l1 (p := 0) HR.out (by omega) hn4 rfl (by simp [mid, put, laid, first]; omega)).mono ?_
          rintro e w4 ⟨rfl, hr2, ho2⟩
          rw [mid_step0] at hr2
          replace HS := Lib.hid (HW.out.row ho2 HS.out)
          replace HW := Lib.hid (HW.out.only ho2)
          replace HR := Lib.hid hr2
          clear hr2 ho2
          go_wp2_with fail
          go_roundw
          case rel => exact ⟨1, by omega, by go_num, HR.out, HS.out, HW.out⟩
          case measure => simp [intOf]
        · go_wp2_with fail
          refine (l2 (p := 0) (k := k) HR.out (by omega) hn4 rfl rfl (by omega)).mono ?_
          rintro e w4 ⟨rfl, hr2, ho2⟩
          rw [mid_step1] at hr2
          replace HS := Lib.hid (HW.out.row ho2 HS.out)
          replace HW := Lib.hid (HW.out.only ho2)
          replace HR := Lib.hid hr2
          clear hr2 ho2
          go_wp2_with fail
          go_roundw
          case rel => exact ⟨2, by omega, by go_num, HR.out, HS.out, HW.out⟩
          case measure => simp [intOf]
        · go_wp2_with fail
          refine (l3 (p := 0) HR.out (by omega) hn4 rfl (by simp [mid, put, laid, first]; omega)).mono ?_
          rintro e w4 ⟨rfl, hr2, ho2⟩
          rw [mid_step2] at hr2
          replace HS := Lib.hid (HW.out.row ho2 HS.out)
          replace HW := Lib.hid (HW.out.only ho2)
          replace HR := Lib.hid hr2
          clear hr2 ho2
          go_wp2_with fail
          go_roundw
          case rel => exact ⟨3, by omega, by go_num, HR.out, HS.out, HW.out⟩
          case measure => simp [intOf]
        · go_wp2_with fail
          go_roundw
          case rel => exact ⟨k + 1, by omega, by go_num, HR.out, HS.out, HW.out⟩
          case measure => simp [intOf]; omega
    · obtain rfl : k = m := by omega
      go_wp2_with fail
      clear hkm
      go_loopg [15, 16] 700 (fun g b i wr => MainRel k n L bS fb w g b i wr)
      case atStart => exact ⟨0, laid k, fun _ => 0, false, by omega, rfl, rfl, HR.out, laid_inv hm8, HS.out, fun x => absurd x (by simp), fun _ => by rw [hits_zero (by omega)]; have := (laid_inv (n := n) hm8).mu_bd; omega, HW.out⟩
      case round =>
        clear HR HS HW hk
        generalize k = m at *
        obtain ⟨k, s, was, nb, hk, rfl, rfl, hR, hI, hS, hO, h70, hW⟩ := hrel
        have HR := Lib.hid hR
        have HS := Lib.hid hS
        have HW := Lib.hid hW
        have HIs := Lib.hid hI
        clear hR hS hW hI
        have HK := Lib.hid hk
        have hk700 : k ≤ 700 := by omega
        clear hk
        cases nb with
        | false =>
          have H70 := Lib.hid (h70 rfl)
          clear h70 hO
          by_cases hk1 : k < 700
          · have hk1I : (k : Int) < 700 := by omega
            have hmod : Int.tmod (k : Int) (n : Int) = ((k % n : Nat) : Int) := by rw [Int.tmod_eq_emod_of_nonneg (by omega)]; omega
            have hn0 : (n : Int) ≠ 0 := by omega
            have hn0' : ((n : Int) == 0) = false := by simp; omega
            have hmb : k % n < n := Nat.mod_lt _ (by omega)
            go_upto_region 23 with fail
            clear hmod hn0 hn0'
            go_cut [106] from 79 to 154 (fun v wx => ∃ b : Bool, v = .bool b ∧ (b = true → ∃ (bb off x : Nat), a0 = some ⟨bb, off, none⟩ ∧ k < len0 ∧ k < 300 ∧ x < n ∧ wr.cell? ⟨bb, off + k, none⟩ = some (.int .i64 x)) ∧ wx = wr)
            case first =>
              clear HR HS HIs H70 hmb
              by_cases hA1 : k < len0
              · by_cases hA2 : k < 300
                · obtain ⟨bb, off, x, rfl, hb0, hc, -, -⟩ := hat.out k hA1
                  have hc' : wr.cell? ⟨bb, off + k, none⟩ = some (.int .i64 x) := by
                    rw [HW.out.bel.cell (p := ⟨bb, off + k, none⟩) hb0]; exact hc
                  clear hat hc hb0 HW
                  have hA1I : (k : Int) < len0 := by omega
                  have hA2I : (k : Int) < 300 := by omega
                  by_cases hx : 0 ≤ x ∧ x < n
                  · obtain ⟨p, rfl⟩ := Int.eq_ofNat_of_zero_le hx.1
                    go_wp2_with fail
                    refine (inT_yes hx.1 (by omega)).mono ?_
                    rintro e wi ⟨rfl, rfl⟩
                    go_wp2_with fail
                    go_meet
                    exact ⟨true, rfl, fun _ => ⟨bb, off, p, rfl, hA1, hA2, by omega, hc'⟩, rfl⟩
                  · go_wp2_with fail
                    refine (inT_no (by omega)).mono ?_
                    rintro e wi ⟨rfl, rfl⟩
                    go_wp2_with fail
                    go_meet
                    exact ⟨false, rfl, fun x => absurd x (by simp), rfl⟩
                · clear hat HW
                  have hA1I : (k : Int) < len0 := by omega
                  have hA2I : ¬ (k : Int) < 300 := by omega
                  go_wp2_with fail
                  go_meet
                  exact ⟨false, rfl, fun x => absurd x (by simp), rfl⟩
              · clear hat HW
                have hA1I : ¬ (k : Int) < len0 := by omega
                go_wp2_with fail
                go_meet
                exact ⟨false, rfl, fun x => absurd x (by simp), rfl⟩
            case rest =>
              obtain ⟨b, rfl, hB, rfl⟩ := hcut
              have HB := Lib.hid hB
              clear hB hat
              go_upto_if 106 with fail
              go_cut [17] from 79 to 154 (fun v wx => ∃ p : Nat, v = .int .i64 p ∧ p < n ∧ (300 ≤ k → p = k % n) ∧ wx = wc)
              case first =>
                clear HR HS HW HIs H70
                cases b with
                | false =>
                  go_wp2_with fail
                  go_meet
                  exact ⟨k % n, rfl, hmb, fun _ => rfl, rfl⟩
                | true =>
                  obtain ⟨bb, off, x, rfl, hA1, hA2, hx, hc'⟩ := HB.out rfl
                  go_wp2_with fail
                  go_meet
                  exact ⟨x, rfl, hx, fun h => absurd h (by omega), rfl⟩
              case rest =>
                clear HB hmb
                obtain ⟨p, rfl, hpn, hpk, rfl⟩ := hcut
                have HPK := Lib.hid hpk
                clear hpk
                go_upto_if 114 with fail
                refine (at_any HR.out hpn hn4).mono ?_
                rintro e wi ⟨rfl, rfl⟩
                go_upto_if 114 with fail
                go_cut [] from 79 to 154 (fun wx => ∃ s1, Rep wx n L fb s1 ∧ Inv m n s1 was ∧ s1.ln p ≠ 0 ∧ mu s1 = mu s ∧ Row wx bS 9 (fun j => j) was ∧ Wx w fb bS wx)
                case first =>
                  clear HPK H70
                  by_cases hl0 : s.ln p = 0
                  · by_cases hp0 : p = 0
                    · have z1 : ((p : Int) == 0) = true := by simp [hp0]
                      have HP0 := Lib.hid hp0
                      have HL0 := Lib.hid hl0
                      clear hp0
                      have z0 : (s.ln p == 0) = true := by simp [hl0]
                      clear hl0
                      go_wp2_with fail
                      refine (pop_at HP0.out HR.out hpn hn4 HL0.out).mono ?_
                      rintro e w1 ⟨rfl, hr1, ho1⟩
                      replace HS := Lib.hid (HW.out.row ho1 HS.out)
                      replace HW := Lib.hid (HW.out.only ho1)
                      replace HR := Lib.hid hr1
                      clear hr1 ho1
                      go_wp2_with fail
                      go_meet
                      exact ⟨_, HR.out, HP0.out ▸ HIs.out.begin0 (HP0.out ▸ HL0.out), by simp [put, upd], HP0.out ▸ mu_begin0 (HP0.out ▸ HL0.out), HS.out, HW.out⟩
                    · have z1 : ((p : Int) == 0) = false := by simpa using hp0
                      have HP0 := Lib.hid hp0
                      have HL0 := Lib.hid hl0
                      clear hp0
                      have z0 : (s.ln p == 0) = true := by simp [hl0]
                      clear hl0
                      go_wp2_with fail
                      refine (steal_any HR.out (by have := HP0.out; omega) hpn hn4 HL0.out).mono ?_
                      rintro e w1 ⟨rfl, hr1, ho1⟩
                      replace HS := Lib.hid (HW.out.row ho1 HS.out)
                      replace HW := Lib.hid (HW.out.only ho1)
                      replace HR := Lib.hid hr1
                      clear hr1 ho1
                      go_wp2_with fail
                      go_meet
                      exact ⟨_, HR.out, HIs.out.begin1 (by have := HP0.out; omega) HL0.out, by simp [put, upd], mu_begin1 HP0.out, HS.out, HW.out⟩
                  · have z0 : (s.ln p == 0) = false := by simpa using hl0
                    have HL0 := Lib.hid hl0
                    clear hl0
                    go_wp2_with fail
                    go_meet
                    exact ⟨s, HR.out, HIs.out, HL0.out, rfl, HS.out, HW.out⟩
                case rest =>
                  clear HR HS HW
                  obtain ⟨s1, hR, hI, hl1, hmu, hS, hW⟩ := hcut
                  have HR := Lib.hid hR
                  have HS := Lib.hid hS
                  have HW := Lib.hid hW
                  have HP2 := Lib.hid (hI.stepP hpn hl1)
                  have HI1 := Lib.hid hI
                  have HM := Lib.hid hmu
                  have HL := Lib.hid hl1
                  have hwb := hI.wasb
                  clear hR hS hW hI hmu hl1
                  obtain ⟨F, hF⟩ : ∃ F, fin s1 p = F := ⟨_, rfl⟩
                  obtain ⟨G, hG⟩ : ∃ G, got s1 p = G := ⟨_, rfl⟩
                  have HF := Lib.hid hF
                  have HG := Lib.hid hG
                  clear hF hG
                  have HWB := Lib.hid hwb
                  clear hwb
                  go_upto_region 35 with fail
                  refine (step_at HR.out HI1.out hpn hn4 HL.out HF.out HG.out).mono ?_
                  rintro e w2 ⟨rfl, hr2, ho2⟩
                  go_upto_region 35 with fail
                  replace HS := Lib.hid (HW.out.row ho2 HS.out)
                  replace HW := Lib.hid (HW.out.only ho2)
                  replace HR := Lib.hid hr2
                  clear hr2 ho2
                  go_cut [137] from 79 to 154 (fun v wx => ∃ D, v = .bool D ∧ (D = true ↔ (F = true ∧ 0 ≤ G)) ∧ wx = w2)
                  case first =>
                    clear HR HS HW HP2 HI1 HM HL HF HG HWB HIs H70
                    by_cases hg : 0 ≤ G
                    · have z : decide (0 ≤ G) = true := by simpa using hg
                      cases F <;> (go_wp2_with fail; go_meet; exact ⟨_, rfl, by simp [hg], rfl⟩)
                    · have z : decide (0 ≤ G) = false := by simpa using hg
                      cases F <;> (go_wp2_with fail; go_meet; exact ⟨_, rfl, by simp [hg], rfl⟩)
                  case rest =>
                    obtain ⟨D, rfl, hD, rfl⟩ := hcut
                    have HD := Lib.hid hD
                    clear hD
                    go_upto_if 137 with fail
                    go_cut [] from 79 to 154 (fun wx => Rep wx n L fb (stepN s1 p) ∧ Row wx bS 9 (fun j => j) (more s1 p was) ∧ Wx w fb bS wx)
                    case first =>
                      cases D with
                      | false =>
                        have em : more s1 p was = was := more_not (by rw [HF.out, HG.out]; exact fun x => absurd (HD.out.mpr x) (by simp))
                        have Hmore := Lib.hid em
                        clear em
                        go_wp2_with fail
                        go_meet
                        exact ⟨HR.out, by rw [Hmore.out]; exact HS.out, HW.out⟩
                      | true =>
                        obtain ⟨rfl, hg0⟩ := HD.out.mp rfl
                        obtain ⟨g, rfl⟩ := Int.eq_ofNat_of_zero_le hg0
                        have hgb := HP2.out.2.1 HF.out
                        rw [HG.out] at hgb
                        have hg8 : g < 8 := by omega
                        have em : more s1 p was = upd was g (was g + 1) := more_yes HF.out HG.out
                        have Hmore := Lib.hid em
                        have w0' := (HWB.out g).1
                        have w1' := (HWB.out g).2
                        have z4 : decide ((8 : Int) < (g : Int)) = false := by simp; omega
                        have g9 : (g : Int) < 9 := by omega
                        have cS := (HS.out g (by omega)).1
                        have fS := (HS.out g (by omega)).2
                        simp only at cS fS
                        clear em hgb HD HP2 HI1 HM HL HF HG HWB HIs H70
                        go_wp2_with fail
                        go_meet
                        refine ⟨HW.out.rep HR.out, ?_, HW.out.set g _⟩
                        rw [Hmore.out]
                        exact HS.out.set (i := g) (by omega) (fun j _ e => e) _
                    case rest =>
                      clear HR HS HW HD
                      obtain ⟨hR, hS, hW⟩ := hcut
                      have HR := Lib.hid hR
                      have HS := Lib.hid hS
                      have HW := Lib.hid hW
                      clear hR hS hW
                      by_cases hend : F = true ∧ p = 0 ∧ G = -1
                      · obtain ⟨rfl, hp0, rfl⟩ := hend
                        have Hov : Hid (Over (stepN s1 p)) := HP2.out.2.2.1 hp0 ⟨HF.out, HG.out⟩
                        have z1 : ((p : Int) == 0) = true := by simp [hp0]
                        clear hp0
                        go_wp2_with fail
                        go_roundg (gk - 1)
                        case measure => have := HK.out; omega
                        case rel => exact ⟨k + 1, stepN s1 p, more s1 p was, true, by have := HK.out; omega, by go_num, rfl, HR.out, HP2.out.1, HS.out, fun _ => Hov.out, fun x => absurd x (by simp), HW.out⟩
                      · have Hno : Hid (¬ (F = true ∧ p = 0 ∧ G = -1)) := hend
                        clear hend
                        by_cases hp0 : p = 0
                        · have z1 : ((p : Int) == 0) = true := by simp [hp0]
                          have HP0 := Lib.hid hp0
                          clear hp0
                          cases F with
                          | false =>
                            go_wp2_with fail
                            go_roundg (gk - 1)
                            case measure => have := HK.out; omega
                            case rel => exact ⟨k + 1, stepN s1 p, more s1 p was, false, by have := HK.out; omega, by go_num, rfl, HR.out, HP2.out.1, HS.out, fun x => absurd x (by simp), fun _ => round_ok (p := p) hk1 (HM.out ▸ H70.out) (fun x => HP2.out.2.2.2.1 x (fun y => Hno.out ⟨by first | trivial | exact HF.out.symm.trans y.1, HP0.out, HG.out.symm.trans y.2⟩)) HP2.out.2.2.2.2 HPK.out, HW.out⟩
                          | true =>
                            have z3 : (G == -1) = false := beq_eq_false_iff_ne.mpr (fun x => Hno.out ⟨rfl, HP0.out, x⟩)
                            go_wp2_with fail
                            go_roundg (gk - 1)
                            case measure => have := HK.out; omega
                            case rel => exact ⟨k + 1, stepN s1 p, more s1 p was, false, by have := HK.out; omega, by go_num, rfl, HR.out, HP2.out.1, HS.out, fun x => absurd x (by simp), fun _ => round_ok (p := p) hk1 (HM.out ▸ H70.out) (fun x => HP2.out.2.2.2.1 x (fun y => Hno.out ⟨by first | trivial | exact HF.out.symm.trans y.1, HP0.out, HG.out.symm.trans y.2⟩)) HP2.out.2.2.2.2 HPK.out, HW.out⟩
                        · have z1 : ((p : Int) == 0) = false := by simpa using hp0
                          cases F with
                          | false =>
                            go_wp2_with fail
                            go_roundg (gk - 1)
                            case measure => have := HK.out; omega
                            case rel => exact ⟨k + 1, stepN s1 p, more s1 p was, false, by have := HK.out; omega, by go_num, rfl, HR.out, HP2.out.1, HS.out, fun x => absurd x (by simp), fun _ => round_ok (p := p) hk1 (HM.out ▸ H70.out) (fun x => absurd x hp0) HP2.out.2.2.2.2 HPK.out, HW.out⟩
                          | true =>
                            go_wp2_with fail
                            go_roundg (gk - 1)
                            case measure => have := HK.out; omega
                            case rel => exact ⟨k + 1, stepN s1 p, more s1 p was, false, by have := HK.out; omega, by go_num, rfl, HR.out, HP2.out.1, HS.out, fun x => absurd x (by simp), fun _ => round_ok (p := p) hk1 (HM.out ▸ H70.out) (fun x => absurd x hp0) HP2.out.2.2.2.2 HPK.out, HW.out⟩
          · exfalso
            have := hits_all hn1 hn4
            have := (HIs.out).mu_bd
            obtain rfl : k = 700 := by omega
            have := H70.out
            omega
        | true =>
          have HOv := Lib.hid (hO rfl)
          clear hO h70 hat
          go_upto_region 20 with fail
          go_cut [84] from 79 to 154 (fun v wx => v = .bool false ∧ wx = wr)
          case first =>
            by_cases hk1 : k < 700
            · have hk1I : (k : Int) < 700 := by omega
              go_wp2_with fail
              go_meet
              exact ⟨rfl, rfl⟩
            · have hk1I : ¬ (k : Int) < 700 := by omega
              go_wp2_with fail
              go_meet
              exact ⟨rfl, rfl⟩
          case rest =>
            obtain ⟨rfl, rfl⟩ := hcut
            have HO9 := Lib.hid (HIs.out.over HOv.out)
            clear HK hk700
            go_wp2_with fail
            go_loopg [22] 8 (fun g i wr => ∃ j : Nat, j + g = 8 ∧ i = .int .i64 j ∧ EndRel m n L bS fb w was wr)
            case atStart => exact ⟨0, by omega, rfl, s, HR.out, HIs.out, HOv.out, HS.out, HW.out⟩
            case round =>
              clear HR HS HW HIs HOv
              obtain ⟨j, hj, rfl, s, hR, hI, hO, hS, hW⟩ := hrel
              have HR := Lib.hid hR
              have HS := Lib.hid hS
              have HW := Lib.hid hW
              have HIs := Lib.hid hI
              have HOv := Lib.hid hO
              clear hR hS hW hI hO
              by_cases hj8 : j < 8
              · have hj8I : (j : Int) < 8 := by omega
                have HJ := Lib.hid hj
                clear hj
                go_wp2_with fail
                go_loopg [23] n (fun g p wr => ∃ q : Nat, 1 ≤ q ∧ q ≤ n ∧ q + g = n + 1 ∧ p = .int .i64 q ∧ EndRel m n L bS fb w was wr)
                case atStart => exact ⟨1, by omega, by omega, by omega, rfl, s, HR.out, HIs.out, HOv.out, HS.out, HW.out⟩
                case round =>
                  clear HR HS HW HIs HOv
                  obtain ⟨p, hp1, hpn', hpg, rfl, s, hR, hI, hO, hS, hW⟩ := hrel
                  have HR := Lib.hid hR
                  have HS := Lib.hid hS
                  have HW := Lib.hid hW
                  have HIs := Lib.hid hI
                  have HOv := Lib.hid hO
                  have HPG := Lib.hid hpg
                  clear hR hS hW hI hO hpg
                  by_cases hpn : p < n
                  · have hpnI : (p : Int) < n := by omega
                    go_wp2_with fail
                    refine (at_any HR.out hpn hn4).mono ?_
                    rintro e wi ⟨rfl, rfl⟩
                    by_cases hl0 : s.ln p = 0
                    · have z0 : (s.ln p != 0) = false := by simp [hl0]
                      clear hl0
                      go_wp2_with fail
                      go_roundg (n - p)
                      case measure => have := HPG.out; omega
                      case rel => exact ⟨p + 1, by omega, by omega, by omega, by go_num, s, HR.out, HIs.out, HOv.out, HS.out, HW.out⟩
                    · have z0 : (s.ln p != 0) = true := by simpa using hl0
                      have HP2 := Lib.hid (HIs.out.step1 hp1 hpn hl0)
                      have HN := Lib.hid (more_no (HP2.out.2.2.1 HOv.out).2)
                      have HL := Lib.hid hl0
                      clear hl0
                      obtain ⟨F, hF⟩ : ∃ F, fin s p = F := ⟨_, rfl⟩
                      obtain ⟨G, hG⟩ : ∃ G, got s p = G := ⟨_, rfl⟩
                      have HF := Lib.hid hF
                      have HG := Lib.hid hG
                      clear hF hG
                      go_wp2_with fail
                      refine (step_at HR.out HIs.out hpn hn4 HL.out HF.out HG.out).mono ?_
                      rintro e w2 ⟨rfl, hr2, ho2⟩
                      have HI2 : Hid (Inv m n (stepN s p) was) := by have h := HP2.out.1; rw [(HP2.out.2.2.1 HOv.out).2] at h; exact h
                      have HO2 : Hid (Over (stepN s p)) := (HP2.out.2.2.1 HOv.out).1
                      replace HS := Lib.hid (HW.out.row ho2 HS.out)
                      replace HW := Lib.hid (HW.out.only ho2)
                      replace HR := Lib.hid hr2
                      clear hr2 ho2
                      cases F with
                      | false =>
                        go_wp2_with fail
                        go_roundg (n - p)
                        case measure => have := HPG.out; omega
                        case rel => exact ⟨p + 1, by omega, by omega, by omega, by go_num, stepN s p, HR.out, HI2.out, HO2.out, HS.out, HW.out⟩
                      | true =>
                        have hG : ¬ 0 ≤ G := fun x => HN.out ⟨HF.out, by rw [HG.out]; exact x⟩
                        have z1 : decide (0 ≤ G) = false := by simpa using hG
                        have z2 : decide (8 < G) = false := by simp; omega
                        clear hG
                        go_wp2_with fail
                        go_roundg (n - p)
                        case measure => have := HPG.out; omega
                        case rel => exact ⟨p + 1, by omega, by omega, by omega, by go_num, stepN s p, HR.out, HI2.out, HO2.out, HS.out, HW.out⟩
                  · obtain rfl : p = n := by omega
                    go_wp2_with fail
                    go_roundg (7 - j)
                    case measure => have := HJ.out; omega
                    case rel => exact ⟨j + 1, by have := HJ.out; omega, by go_num, s, HR.out, HIs.out, HOv.out, HS.out, HW.out⟩
              · obtain rfl : j = 8 := by omega
                clear hj
                go_wp2_with fail
                go_loopg [27] (m + 1) (fun g i wx => ∃ j : Nat, j + g = m + 1 ∧ j ≤ m ∧ i = .int .i64 j ∧ wx = wr)
                case atStart => exact ⟨0, by omega, by omega, rfl, rfl⟩
                case round =>
                  obtain ⟨j, hj, hjm', rfl, rfl⟩ := hrel
                  have HJ := Lib.hid hj
                  by_cases hjm : j < m
                  · have hjmI : (j : Int) < m := by omega
                    have hj9 : (j : Int) < 9 := by omega
                    have cS := (HS.out j (by omega)).1
                    rw [HO9.out.1 j hjm] at cS
                    simp only at cS
                    clear hj
                    go_wp2_with fail
                    go_roundg (m - j)
                    case measure => have := HJ.out; omega
                    case rel => exact ⟨j + 1, by have := HJ.out; omega, by omega, by go_num, rfl⟩
                  · obtain rfl : j = m := by omega
                    have cS := (HS.out 8 (by omega)).1
                    rw [HO9.out.2] at cS
                    simp only at cS
                    clear hj
                    go_wp2_with fail
                    go_ret
                    exact ⟨rfl, HW.out.bel⟩

set_option maxHeartbeats 1000000 in
set_option maxRecDepth 100000 in
theorem work_badn (n : Int) (h : n < 1 ∨ 4 < n) (m : Int) (v : Value) (w : World) :
    Calls Try.prog 3 #[.int .i64 n, .int .i64 m, v] w fun e w' => e = .returned (.bool true) ∧ Below w.heap.size w w' := by
  by_cases h1 : n < 1
  · clear h
    have H := Lib.hid h1
    go_enter Try.func3, Try.ntmps3
    go_wp2_with fail
    refine (new_no _ (.inl H.out) _).mono ?_
    rintro e w2 ⟨rfl, rfl⟩
    go_wp2_with fail
    go_ret
    exact ⟨rfl, Below.refl _ _⟩
  · have h2 : 4 < n := by omega
    have h3 : 1 ≤ n := by omega
    have H := Lib.hid h2
    clear h h1
    go_enter Try.func3, Try.ntmps3
    go_wp2_with fail
    refine (new_no _ (.inr H.out) _).mono ?_
    rintro e w2 ⟨rfl, rfl⟩
    go_wp2_with fail
    go_ret
    exact ⟨rfl, Below.refl _ _⟩
set_option maxHeartbeats 1000000 in
set_option maxRecDepth 100000 in
theorem work_badm (n : Nat) (hn1 : 1 ≤ n) (hn4 : n ≤ 4) (m : Int) (hm : m < 0 ∨ 8 < m) (v : Value) (w : World) :
    Calls Try.prog 3 #[.int .i64 n, .int .i64 m, v] w fun e w' => e = .returned (.bool true) ∧ Below w.heap.size w w' := by
  have H := Lib.hid hm
  clear hm
  go_enter Try.func3, Try.ntmps3
  go_wp2_with fail
  refine (new_any n hn1 hn4 _).mono ?_
  rintro e w1 ⟨L, fb, rfl, hL, hbel0, hfb⟩
  have Hb := Lib.hid hbel0
  clear hL hbel0 hfb
  go_wp2_with fail
  refine (inT_no H.out).mono ?_
  rintro e wi ⟨rfl, rfl⟩
  go_wp2_with fail
  go_ret
  exact ⟨rfl, Hb.out⟩
theorem work_any (n m : Int) (a0 : Option Addr) (len0 cap0 : Nat) (z0 : List Int) (w : World) (w0 : IsRow .i64 w a0 len0 cap0 z0) :
    Calls Try.prog 3 #[.int .i64 n, .int .i64 m, .slice a0 len0 cap0] w fun e w' => e = .returned (.bool true) ∧ Below w.heap.size w w' := by
  by_cases h : 1 ≤ n ∧ n ≤ 4
  · obtain ⟨N, rfl⟩ := Int.eq_ofNat_of_zero_le (show 0 ≤ n by omega)
    by_cases hm : 0 ≤ m ∧ m ≤ 8
    · obtain ⟨M, rfl⟩ := Int.eq_ofNat_of_zero_le hm.1
      exact work_walk N M (by omega) (by omega) (by omega) a0 len0 cap0 z0 w w0
    · exact work_badm N (by omega) (by omega) m (by omega) _ w
  · exact work_badn n (by omega) m _ w
end Go.Proofs.Ytpdhnmkhobfnbaa.Work
