import Derived.Test.YtimbdjmplcgilaaDoorRfStep
import Derived.Test.YtimbdjmplcgilaaDoorTsSeen
namespace Go.Proofs.YtimbdjmplcgilaaDoor.Rf
open Go.RowKit Pr
open Tso (TS look nxt mor)
set_option linter.unusedVariables false
set_option linter.unusedSimpArgs false

set_option maxHeartbeats 3000000 in
set_option maxRecDepth 100000 in
theorem load_any {w : World} {h : Nat} {v : Value} {words : Int} {p : List (List Ln)} {s : TS} {W : Bool} (hf : Fine words p) (hr : Tso.Reach p s) (hv : RV w v (row s)) (hh : h < p.length) {l : Ln} (hl : nxt p h (s.l h) = l) (hg : Pr.Good words l) (hk : l.k = 1) :
    Calls Tryd.prog 18 #[v, .int .i64 h, .agg #[.int .i64 1, .int .i64 l.r, .int .i64 l.w, .int .i64 l.v], .bool W] w fun e w' => ∃ x, e = .returned x ∧ Got (row (Tso.step p s h)) w x w' ∧ Below w.heap.size w w' := by
  have h3 : h < 3 := by have := hf.n; omega
  have ho := hr.ok hf
  have hgr := hg.r (by omega)
  have hgw := hg.w (by omega) (by omega)
  have hw4 := hf.w.2
  obtain ⟨R, hR⟩ := Int.eq_ofNat_of_zero_le hgr.1
  obtain ⟨wd, hwd⟩ := Int.eq_ofNat_of_zero_le hgw.1
  have hR1 : R ≤ 1 := by omega
  have hwd4 : wd < 4 := by omega
  obtain ⟨n, hn⟩ : ∃ n, (s.l h).b.length = n := ⟨_, rfl⟩
  have hn5 : n ≤ 5 := by have := (ho.many h).2; omega
  have hm : row s (13 + h * 11) = (n : Int) := by rw [row_many s h3, hn]
  have err : rreg h l = h * 3 + 1 + R := by unfold rreg; rw [if_neg (by omega), hR]; simp
  have hld := rload_row (p := p) (s := s) h3 (by rw [hl]; exact hg) (by rw [hl]; exact hk)
  rw [hl, err, hwd] at hld
  simp only [Int.toNat_natCast, Int.ofNat_eq_natCast] at hld
  obtain ⟨D, hD⟩ : ∃ D, row (dstep s h l) = D := ⟨_, rfl⟩
  rw [hD] at hld
  have hdn : rdone (row s) h l = D := by rw [rdone_row h3 hg hw4, hD]
  have hDr : upd D (h * 3 + 1 + R) (s.m wd) = D := by
    funext j
    by_cases e : j = h * 3 + 1 + R
    · subst e
      rw [upd_same, ← hD, ← err, row_reg _ h3 hgr (by omega)]
      show _ = Tso.rg (Tso.put _ _ _ h) l
      rw [Tso.put_same]
      unfold dloc
      rw [if_neg (by omega), if_pos hk, hwd]
      unfold Tso.rg Tso.setr
      simp only [Int.toNat_natCast, Int.ofNat_eq_natCast]
      split <;> simp_all
    · exact upd_other e
  have HLD := Lib.hid hld
  have HDN := Lib.hid hdn
  have HDR := Lib.hid hDr
  have HBD := Lib.hid (row_bd hf hr)
  have HG := Lib.hid hg
  have HF := Lib.hid hf
  have HN := Lib.hid hn
  have HV := Lib.hid hv
  have HW := Lib.hid (show Hid (∀ i, i < n → row s (13 + h * 11 + 1 + 2 * i) = ((s.l h).b.getD i (0, 0)).1 ∧ row s (13 + h * 11 + 2 + 2 * i) = ((s.l h).b.getD i (0, 0)).2) from fun i hi => by
    rw [show 13 + h * 11 + 1 + 2 * i = 13 + h * 11 + 1 + i * 2 by omega, show 13 + h * 11 + 2 + 2 * i = 13 + h * 11 + 2 + i * 2 by omega, row_bw s h3 (by omega), row_bv s h3 (by omega)]
    exact ⟨rfl, rfl⟩)
  obtain ⟨g, cap, rfl, hc, hgl, hrow⟩ := hv
  have HLn := Lib.hid (Blk.new w #[.int .i64 1, .int .i64 l.r, .int .i64 l.w, .int .i64 l.v] 40)
  have HB : Hid (Below w.heap.size w (w.alloc (.cells #[.int .i64 1, .int .i64 l.r, .int .i64 l.w, .int .i64 l.v] 40))) := (Below.refl _ _).alloc (Nat.le_refl _) _
  have h3I : (h : Int) < 3 := by omega
  have hRI : (R : Int) ≤ 1 := by omega
  have hnI : (n : Int) ≤ 5 := by omega
  have HMC : Hid (∀ i, i < 46 → ∀ wq, Below w.heap.size w wq → wq.cell? ⟨g, i, none⟩ = some (.int .i64 (row s i))) := fun i hi wq k => by rw [k.cell (p := ⟨g, i, none⟩) hgl]; exact (hrow i hi).1
  have HM := Lib.hid hm
  have HRE := Lib.hid hR
  have HWE := Lib.hid hwd
  have HK := Lib.hid hk
  have HHL := Lib.hid hl
  clear hrow hgl hm hk hld hdn hDr hn hg hr ho hgr hgw hwd hR err hD hl
  go_enter Tryd.func18, Tryd.ntmps18
  go_upto_region 1 with fail
  generalize w.alloc (.cells #[.int .i64 1, .int .i64 l.r, .int .i64 l.w, .int .i64 l.v] 40) = wx at HLn HB ⊢
  have l0 := HLn.out.cell 0
  have l1 := HLn.out.cell 1
  have l2 := HLn.out.cell 2
  have l3 := HLn.out.cell 3
  simp only [List.getElem?_toArray, List.getElem?_cons_zero, List.getElem?_cons_succ] at l0 l1 l2 l3
  have hdone := done_any (l := l) (HV.out.below HB.out) h3 HBD.out HG.out HF.out.w.2
  rw [HK.out, HDN.out] at hdone
  have HDO := Lib.hid hdone
  clear hdone
  cases W with
  | false =>
    go_wp2_with fail
    refine HDO.out.mono ?_
    rintro e w5 ⟨x, rfl, hgot, hb5⟩
    have hbb := HB.out.trans (hb5.mono HB.out.size)
    have hl5 := HLn.out.below hb5 HLn.out.lt
    obtain ⟨G, cG, rfl, hcG, e3, e4, e5⟩ := hgot
    have HRC : Hid (46 ≤ cG) := hcG
    have HMX : Hid (MX w G (upd D (h * 3 + 1 + R) (Tso.look ((s.l h).b.take 0) (s.m wd) (wd : Int))) w5) := ⟨hbb, Nat.le_trans HB.out.size e3, by
      rw [List.take_zero, Tso.look_nil, HDR.out]; exact e5⟩
    have HLK : Hid (Blk w5 w.heap.size #[.int .i64 1, .int .i64 (R : Int), .int .i64 (wd : Int), .int .i64 l.v] 40 ∧ w.heap.size < G ∧ w.heap.size < w5.heap.size) := by
      refine ⟨?_, ?_, hl5.lt⟩
      · have := hl5
        rw [HRE.out, HWE.out] at this
        exact this
      · exact Nat.lt_of_lt_of_le HLn.out.lt e3
    clear hbb hl5 hcG e3 e4 e5 hb5 l0 l1 l2 l3 HLn HB HDO HV
    go_wp2_with fail
    go_loopg [12] (n + 1) (fun gg s12 wr => ∃ i : Nat, s12 = .int .i64 i ∧ i + gg = n + 1 ∧ i ≤ n ∧ MX w G (upd D (h * 3 + 1 + R) (Tso.look ((s.l h).b.take i) (s.m wd) (wd : Int))) wr ∧ Blk wr w.heap.size #[.int .i64 1, .int .i64 (R : Int), .int .i64 (wd : Int), .int .i64 l.v] 40)
    case atStart => exact ⟨0, rfl, by omega, by omega, HMX.out, HLK.out.1⟩
    case round =>
      clear HMX
      obtain ⟨i, rfl, hig, hil, hX, hLB⟩ := hrel
      have HX := Lib.hid hX
      have HLB := Lib.hid hLB
      have HIG := Lib.hid hig
      clear hX hLB hig
      have c0 := HMC.out (13 + h * 11) (by omega) wr HX.out.bel
      rw [HM.out] at c0
      have l0 := HLB.out.cell 0
      have l1 := HLB.out.cell 1
      have l2 := HLB.out.cell 2
      simp only [List.getElem?_toArray, List.getElem?_cons_zero, List.getElem?_cons_succ] at l0 l1 l2
      by_cases hin : i < n
      · have hiI : (i : Int) < n := by omega
        have c1 := HMC.out (13 + h * 11 + 1 + 2 * i) (by omega) wr HX.out.bel
        have c2 := HMC.out (13 + h * 11 + 2 + 2 * i) (by omega) wr HX.out.bel
        rw [(HW.out i hin).1] at c1
        rw [(HW.out i hin).2] at c2
        have hlt := Tso.look_take (s.l h).b (s.m wd) (wd : Int) (k := i) (by rw [HN.out]; exact hin)
        have hw2 := (HW.out i hin).2
        generalize (s.l h).b.getD i (0, 0) = y at c1 c2 hlt hw2
        obtain ⟨y1, y2⟩ := y
        simp only at c1 c2 hlt hw2
        have HLT := Lib.hid hlt
        clear hlt
        have HW2 : Hid (row s (13 + h * 11 + 2 + 2 * i) = y2) := hw2
        clear hw2
        have n1 := HX.out.f (i := h * 3 + 1 + R) (by omega)
        have n2 := HX.out.c (i := h * 3 + 1 + R) (by omega)
        by_cases hy : y1 = (wd : Int)
        · have zy : (y1 == (wd : Int)) = true := by simpa using hy
          have HY := Lib.hid hy
          clear hy
          go_wp2_with fail
          go_quiet (fail)
          have hXq := HX.out.drewN nq
          have hLq : Blk (wr.drewN nq) w.heap.size #[.int .i64 1, .int .i64 (R : Int), .int .i64 (wd : Int), .int .i64 l.v] 40 := HLB.out
          clear c0 c1 c2 l0 l1 l2 n1 n2 HX HLB zy
          generalize wr.drewN nq = wq at hXq hLq ⊢
          have HX := Lib.hid hXq
          have HLB := Lib.hid hLq
          clear hXq hLq
          have l1 := HLB.out.cell 1
          simp only [List.getElem?_toArray, List.getElem?_cons_zero, List.getElem?_cons_succ] at l1
          have c2 := HMC.out (13 + h * 11 + 2 + 2 * i) (by omega) wq HX.out.bel
          rw [HW2.out] at c2
          have n1 := HX.out.f (i := h * 3 + 1 + R) (by omega)
          have n2 := HX.out.c (i := h * 3 + 1 + R) (by omega)
          have HXN : Hid (MX w G (upd D (h * 3 + 1 + R) (Tso.look ((s.l h).b.take (i + 1)) (s.m wd) (wd : Int))) (wq.setCell ⟨G, h * 3 + 1 + R, none⟩ (.int .i64 y2))) := by
            have := HX.out.set (i := h * 3 + 1 + R) (by omega) y2
            have e : upd (upd D (h * 3 + 1 + R) (Tso.look ((s.l h).b.take i) (s.m wd) (wd : Int))) (h * 3 + 1 + R) y2 = upd D (h * 3 + 1 + R) y2 := by
              funext j; unfold upd; split <;> rfl
            rw [e] at this
            show MX _ _ _ _
            rw [HLT.out, if_pos HY.out]
            exact this
          have HLN : Hid (Blk (wq.setCell ⟨G, h * 3 + 1 + R, none⟩ (.int .i64 y2)) w.heap.size #[.int .i64 1, .int .i64 (R : Int), .int .i64 (wd : Int), .int .i64 l.v] 40) := HLB.out.other (by have := HLK.out.2.1; omega) _ _
          clear HLT HX HLB
          go_wp2_with fail
          go_region
          go_wp2_with fail
          go_roundg (n - i)
          case measure => have := HIG.out; omega
          case rel => exact ⟨i + 1, by go_num, by omega, by omega, HXN.out.drew, HLN.out⟩
        · have zy : (y1 == (wd : Int)) = false := by simpa using hy
          have HXN : Hid (MX w G (upd D (h * 3 + 1 + R) (Tso.look ((s.l h).b.take (i + 1)) (s.m wd) (wd : Int))) wr) := by
            show MX _ _ _ _
            rw [HLT.out, if_neg hy]; exact HX.out
          clear HLT HX hy
          go_wp2_with fail
          go_quiet (fail)
          go_wp2_with fail
          go_roundg (n - i)
          case measure => have := HIG.out; omega
          case rel => exact ⟨i + 1, by go_num, by omega, by omega, HXN.out.drewN nq, HLB.out⟩
      · obtain rfl : i = n := by omega
        have HRR : Hid (Got (row (Tso.step p s h)) w (.slice (some ⟨G, 0, none⟩) 46 cG) wr) := by
          have e : (s.l h).b.take i = (s.l h).b := List.take_of_length_le (by rw [HN.out]; exact Nat.le_refl _)
          have := HX.out.got (F' := row (Tso.step p s h)) HRC.out (fun j hj => by rw [e, HLD.out])
          exact this
        have HBE := Lib.hid HX.out.bel
        clear HX
        go_wp2_with fail
        go_ret
        exact ⟨_, rfl, HRR.out, HBE.out⟩
  | true =>
    go_wp2_with fail
    refine HDO.out.mono ?_
    rintro e w5 ⟨x, rfl, hgot, hb5⟩
    have hbb := HB.out.trans (hb5.mono HB.out.size)
    have hl5 := HLn.out.below hb5 HLn.out.lt
    obtain ⟨G, cG, rfl, hcG, e3, e4, e5⟩ := hgot
    have HRC : Hid (46 ≤ cG) := hcG
    have HMX : Hid (MX w G (upd D (h * 3 + 1 + R) (Tso.look ((s.l h).b.take 0) (s.m wd) (wd : Int))) w5) := ⟨hbb, Nat.le_trans HB.out.size e3, by
      rw [List.take_zero, Tso.look_nil, HDR.out]; exact e5⟩
    have HLK : Hid (Blk w5 w.heap.size #[.int .i64 1, .int .i64 (R : Int), .int .i64 (wd : Int), .int .i64 l.v] 40 ∧ w.heap.size < G ∧ w.heap.size < w5.heap.size) := by
      refine ⟨?_, ?_, hl5.lt⟩
      · have := hl5
        rw [HRE.out, HWE.out] at this
        exact this
      · exact Nat.lt_of_lt_of_le HLn.out.lt e3
    clear hbb hl5 hcG e3 e4 e5 hb5 l0 l1 l2 l3 HLn HB HDO HV
    go_wp2_with fail
    go_loopg [12] (n + 1) (fun gg s12 wr => ∃ i : Nat, s12 = .int .i64 i ∧ i + gg = n + 1 ∧ i ≤ n ∧ MX w G (upd D (h * 3 + 1 + R) (Tso.look ((s.l h).b.take i) (s.m wd) (wd : Int))) wr ∧ Blk wr w.heap.size #[.int .i64 1, .int .i64 (R : Int), .int .i64 (wd : Int), .int .i64 l.v] 40)
    case atStart => exact ⟨0, rfl, by omega, by omega, HMX.out, HLK.out.1⟩
    case round =>
      clear HMX
      obtain ⟨i, rfl, hig, hil, hX, hLB⟩ := hrel
      have HX := Lib.hid hX
      have HLB := Lib.hid hLB
      have HIG := Lib.hid hig
      clear hX hLB hig
      have c0 := HMC.out (13 + h * 11) (by omega) wr HX.out.bel
      rw [HM.out] at c0
      have l0 := HLB.out.cell 0
      have l1 := HLB.out.cell 1
      have l2 := HLB.out.cell 2
      simp only [List.getElem?_toArray, List.getElem?_cons_zero, List.getElem?_cons_succ] at l0 l1 l2
      by_cases hin : i < n
      · have hiI : (i : Int) < n := by omega
        have c1 := HMC.out (13 + h * 11 + 1 + 2 * i) (by omega) wr HX.out.bel
        have c2 := HMC.out (13 + h * 11 + 2 + 2 * i) (by omega) wr HX.out.bel
        rw [(HW.out i hin).1] at c1
        rw [(HW.out i hin).2] at c2
        have hlt := Tso.look_take (s.l h).b (s.m wd) (wd : Int) (k := i) (by rw [HN.out]; exact hin)
        have hw2 := (HW.out i hin).2
        generalize (s.l h).b.getD i (0, 0) = y at c1 c2 hlt hw2
        obtain ⟨y1, y2⟩ := y
        simp only at c1 c2 hlt hw2
        have HLT := Lib.hid hlt
        clear hlt
        have HW2 : Hid (row s (13 + h * 11 + 2 + 2 * i) = y2) := hw2
        clear hw2
        have n1 := HX.out.f (i := h * 3 + 1 + R) (by omega)
        have n2 := HX.out.c (i := h * 3 + 1 + R) (by omega)
        by_cases hy : y1 = (wd : Int)
        · have zy : (y1 == (wd : Int)) = true := by simpa using hy
          have HY := Lib.hid hy
          clear hy
          go_wp2_with fail
          go_quiet (fail)
          have hXq := HX.out.drewN nq
          have hLq : Blk (wr.drewN nq) w.heap.size #[.int .i64 1, .int .i64 (R : Int), .int .i64 (wd : Int), .int .i64 l.v] 40 := HLB.out
          clear c0 c1 c2 l0 l1 l2 n1 n2 HX HLB zy
          generalize wr.drewN nq = wq at hXq hLq ⊢
          have HX := Lib.hid hXq
          have HLB := Lib.hid hLq
          clear hXq hLq
          have l1 := HLB.out.cell 1
          simp only [List.getElem?_toArray, List.getElem?_cons_zero, List.getElem?_cons_succ] at l1
          have c2 := HMC.out (13 + h * 11 + 2 + 2 * i) (by omega) wq HX.out.bel
          rw [HW2.out] at c2
          have n1 := HX.out.f (i := h * 3 + 1 + R) (by omega)
          have n2 := HX.out.c (i := h * 3 + 1 + R) (by omega)
          have HXN : Hid (MX w G (upd D (h * 3 + 1 + R) (Tso.look ((s.l h).b.take (i + 1)) (s.m wd) (wd : Int))) (wq.setCell ⟨G, h * 3 + 1 + R, none⟩ (.int .i64 y2))) := by
            have := HX.out.set (i := h * 3 + 1 + R) (by omega) y2
            have e : upd (upd D (h * 3 + 1 + R) (Tso.look ((s.l h).b.take i) (s.m wd) (wd : Int))) (h * 3 + 1 + R) y2 = upd D (h * 3 + 1 + R) y2 := by
              funext j; unfold upd; split <;> rfl
            rw [e] at this
            show MX _ _ _ _
            rw [HLT.out, if_pos HY.out]
            exact this
          have HLN : Hid (Blk (wq.setCell ⟨G, h * 3 + 1 + R, none⟩ (.int .i64 y2)) w.heap.size #[.int .i64 1, .int .i64 (R : Int), .int .i64 (wd : Int), .int .i64 l.v] 40) := HLB.out.other (by have := HLK.out.2.1; omega) _ _
          clear HLT HX HLB
          go_wp2_with fail
          go_region
          go_wp2_with fail
          go_roundg (n - i)
          case measure => have := HIG.out; omega
          case rel => exact ⟨i + 1, by go_num, by omega, by omega, HXN.out.drew, HLN.out⟩
        · have zy : (y1 == (wd : Int)) = false := by simpa using hy
          have HXN : Hid (MX w G (upd D (h * 3 + 1 + R) (Tso.look ((s.l h).b.take (i + 1)) (s.m wd) (wd : Int))) wr) := by
            show MX _ _ _ _
            rw [HLT.out, if_neg hy]; exact HX.out
          clear HLT HX hy
          go_wp2_with fail
          go_quiet (fail)
          go_wp2_with fail
          go_roundg (n - i)
          case measure => have := HIG.out; omega
          case rel => exact ⟨i + 1, by go_num, by omega, by omega, HXN.out.drewN nq, HLB.out⟩
      · obtain rfl : i = n := by omega
        have HRR : Hid (Got (row (Tso.step p s h)) w (.slice (some ⟨G, 0, none⟩) 46 cG) wr) := by
          have e : (s.l h).b.take i = (s.l h).b := List.take_of_length_le (by rw [HN.out]; exact Nat.le_refl _)
          have := HX.out.got (F' := row (Tso.step p s h)) HRC.out (fun j hj => by rw [e, HLD.out])
          exact this
        have HBE := Lib.hid HX.out.bel
        clear HX
        go_wp2_with fail
        go_ret
        exact ⟨_, rfl, HRR.out, HBE.out⟩

/-- A hand's line, or what waits of it. -/
theorem step_any {w : World} {h : Nat} {v : Value} {words : Int} {p : List (List Ln)} {s : TS} {W : Bool} (hf : Fine words p) (hr : ReachW W p s) (hv : RV w v (row s)) (hh : h < p.length) (hc : canW W p h (s.l h) = true) {l : Ln} (hl : nxt p h (s.l h) = l) :
    Calls Tryd.prog 18 #[v, .int .i64 h, .agg #[.int .i64 l.k, .int .i64 l.r, .int .i64 l.w, .int .i64 l.v], .bool W] w fun e w' => ∃ x, e = .returned x ∧ Got (row (stepW W p s h)) w x w' ∧ Below w.heap.size w w' := by
  have h3 : h < 3 := by have := hf.n; omega
  have htr := (reachW_tso hr).1
  have hb0 := (reachW_tso hr).2
  have ho := htr.ok hf
  have hm := canW_mor hc
  have hg : Pr.Good words l := by rw [← hl]; exact Tso.nxt_good hf (ho.at0 h).1 hm
  have hmn : row s (13 + h * 11) = (((s.l h).b.length : Nat) : Int) := row_many s h3
  by_cases k1 : l.k = 1
  · have e : stepW W p s h = Tso.step p s h := by
      cases W with
      | true => rfl
      | false =>
        show dstep s h (nxt p h (s.l h)) = _
        exact dstep_other (hb0 rfl h) (by rw [hl]; omega)
    rw [e, k1]
    exact load_any hf htr hv hh hl hg k1
  · by_cases k2 : W = true ∧ l.k = 2
    · obtain ⟨rfl, k2⟩ := k2
      have hgr := hg.r (by omega)
      obtain ⟨R, hR⟩ := Int.eq_ofNat_of_zero_le hgr.1
      have hlt : (s.l h).b.length < 5 := by
        have h1 := (ho.many h).1
        have h2 := (hf.lines h).1
        unfold Tso.mor at hm
        simp at hm
        omega
      have hp := rpush_row (p := p) (s := s) h3 hlt (by rw [hl]; exact k2)
      have err : rreg h l = h * 3 + 1 + R := by unfold rreg; rw [if_neg (by omega), hR]; simp
      rw [hl, ← row_reg s h3 hgr (by omega), err, ← row_at s h3] at hp
      rw [k2, hR]
      refine (push_any hv h3 hlt (by omega) (row_bd hf htr) hmn (R := R)).mono ?_
      rintro e w' ⟨x, rfl, ⟨G, cG, e1, e2, e3, e4, e5⟩, hbl⟩
      exact ⟨x, rfl, ⟨G, cG, e1, e2, e3, e4, e5.eq hp⟩, hbl⟩
    · have e : rdone (row s) h l = row (stepW W p s h) := by
        rw [rdone_row h3 hg hf.w.2]
        cases W with
        | false => rw [← hl]; rfl
        | true =>
          have k2' : l.k ≠ 2 := fun x => k2 ⟨rfl, x⟩
          show _ = row (Tso.step p s h)
          rw [← hl]
          rw [rother_row (p := p) (by rw [hl]; exact k1) (by rw [hl]; exact k2')]
      rw [← e]
      refine plain_any hv h3 (row_bd hf htr) hg hf.w.2 hmn (.inr k1) ?_
      cases W with
      | false => exact .inl rfl
      | true => exact .inr (fun x => k2 ⟨rfl, x⟩)
theorem come_ok {w : World} {h : Nat} {v : Value} {words : Int} {p : List (List Ln)} {s : TS} (hf : Fine words p) (hr : Tso.Reach p s) (hv : RV w v (row s)) (hh : h < p.length) (hb : (s.l h).b ≠ []) :
    Calls Tryd.prog 19 #[v, .int .i64 h] w fun e w' => ∃ x, e = .returned x ∧ Got (row (Tso.flush s h)) w x w' ∧ Below w.heap.size w w' := by
  have h3 : h < 3 := by have := hf.n; omega
  have ho := hr.ok hf
  have hw := hf.w
  obtain ⟨⟨x, y⟩, r, e⟩ := List.exists_cons_of_ne_nil hb
  have hx := ho.wb h (x, y) (by rw [e]; simp)
  simp only at hx
  obtain ⟨wd, rfl⟩ := Int.eq_ofNat_of_zero_le hx.1
  have hl := (ho.many h).2
  have e1 : row s (13 + h * 11 + 1) = ((wd : Nat) : Int) := by
    have := row_bw s h3 (i := 0) (by omega)
    rw [e] at this
    simpa using this
  refine (come_any hv h3 (wd := wd) (by have := hx.2; omega) e1 (by rw [row_many s h3]; have : 0 < (s.l h).b.length := List.length_pos_iff.2 hb; omega)).mono ?_
  rintro e w' ⟨x, rfl, ⟨G, cG, e1, e2, e3, e4, e5⟩, hbl⟩
  exact ⟨x, rfl, ⟨G, cG, e1, e2, e3, e4, e5.eq (rcome_row hf ho h3 hb)⟩, hbl⟩
end Go.Proofs.YtimbdjmplcgilaaDoor.Rf
