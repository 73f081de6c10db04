import Derived.Test.YtimbdjmplcgilaaDoorPrNext
import Derived.Deep.CutRange
namespace Go.Proofs.YtimbdjmplcgilaaDoor.Pr
open Go.RowKit
set_option linter.unusedVariables false

set_option maxHeartbeats 4000000 in
set_option maxRecDepth 100000 in
theorem do_0 {w : World} {L h R : Nat} {f : St} {r : Int} {wv v : Int} (hs : StAt w L f) (h4 : h < 4) (h0 : 0 ≤ f h ∧ f h ≤ 10) (hR : (r ≤ 0 ∧ R = 0) ∨ (1 ≤ r ∧ R = 1)) :
    Calls Tryd.prog 28 #[.pointer (some ⟨L, 0, none⟩), .int .i64 h, .agg #[.int .i64 0, .int .i64 r, .int .i64 wv, .int .i64 v]] w fun e w' =>
      e = .returned (.tuple #[]) ∧ StAt w' L (done f h ⟨0, r, wv, v⟩) ∧ OnlyG [L] w w' := by
  have hreg : reg h ⟨0, r, wv, v⟩ = 4 + h * 2 + R := by
    unfold reg; simp only
    rcases hR with ⟨a, b⟩ | ⟨a, b⟩
    · rw [if_neg (by omega), b]
    · rw [if_pos (by omega), b]
  have hR2 : R < 2 := by omega
  have hR2I : (R : Int) < 2 := by omega
  have HREG := Lib.hid hreg
  have HRR := Lib.hid hR
  have hx : OnlyG [L] w (w.alloc (.cells #[.int .i64 0, .int .i64 r, .int .i64 wv, .int .i64 v] 40)) := (OnlyG.refl _ _).alloc _
  have hB := Blk.new w #[.int .i64 0, .int .i64 r, .int .i64 wv, .int .i64 v] 40
  have hLb : L < w.heap.size := World.block_lt_of_cell? (w := w) (a := ⟨L, h, none⟩) (hs h (by omega)).1
  have hS : StAt (w.alloc (.cells #[.int .i64 0, .int .i64 r, .int .i64 wv, .int .i64 v] 40)) L f := hs.keep (Below.heap_alloc _ _ _ hLb)
  have h4I : (h : Int) < 4 := by omega
  clear hs hreg
  go_enter Tryd.func28, Tryd.ntmps28
  go_wp2_with fail
  generalize w.alloc (.cells #[.int .i64 0, .int .i64 r, .int .i64 wv, .int .i64 v] 40) = wx at hx hB hS ⊢
  have l0 : wx.cell? ⟨w.heap.size, 0, none⟩ = some (.int .i64 0) := hB.cell 0
  have l1 : wx.cell? ⟨w.heap.size, 1, none⟩ = some (.int .i64 r) := hB.cell 1
  have l2 : wx.cell? ⟨w.heap.size, 2, none⟩ = some (.int .i64 wv) := hB.cell 2
  have l3 : wx.cell? ⟨w.heap.size, 3, none⟩ = some (.int .i64 v) := hB.cell 3
  have c0 := (hS h (by omega)).1
  have g0 := (hS h (by omega)).2
  have c1 := (hS (4 + h * 2 + R) (by omega)).1
  have g1 := (hS (4 + h * 2 + R) (by omega)).2
  simp only at c0 g0 c1 g1
  have HX := Lib.hid hx
  have HB := Lib.hid hB
  have HS := Lib.hid hS
  clear hx hB hS hR
  go_region
  go_wp2_with fail
  have hS2 := (HS.out.set (i := h) (by omega) (fun j _ e => e) (f h + 1)).drew
  have hX2 : OnlyG [L] w ((wx.setCell ⟨L, h, none⟩ (.int .i64 (f h + 1))).drew) := (HX.out.set (by simp) h (.int .i64 (f h + 1))).drew
  have hB2 := (HB.out.other (b' := L) (by omega) h (.int .i64 (f h + 1))).drew
  clear HS HX HB l0 l1 l2 l3 c0 g0 c1 g1
  generalize (wx.setCell ⟨L, h, none⟩ (.int .i64 (f h + 1))).drew = w2 at hS2 hX2 hB2 ⊢
  have l1 : w2.cell? ⟨w.heap.size, 1, none⟩ = some (.int .i64 r) := hB2.cell 1
  have HX := Lib.hid hX2
  have HS := Lib.hid hS2
  have HB := Lib.hid hB2
  clear hX2 hB2 hS2
  go_upto_region 2 with fail
  go_cut [6] from 7 (fun v6 w3 => v6 = .pointer (some ⟨L, 4 + h * 2 + R, none⟩) ∧ OnlyG [L] w w3 ∧ StAt w3 L (upd f h (f h + 1)) ∧ Blk w3 w.heap.size #[.int .i64 0, .int .i64 r, .int .i64 wv, .int .i64 v] 40)
  case first =>
    rcases HRR.out with ⟨hr, rfl⟩ | ⟨hr, rfl⟩
    · by_cases hr0 : r = 0
      · subst hr0
        go_quiet (fail)
        go_wp2_with fail
        go_meet
        exact ⟨rfl, HX.out.drewN _, HS.out.drewN _, HB.out.drewN _⟩
      · have hr1 : r < 0 := by omega
        go_quiet (fail)
        go_wp2_with fail
        go_meet
        exact ⟨rfl, HX.out.drewN _, HS.out.drewN _, HB.out.drewN _⟩
    · by_cases hr0 : r = 1
      · subst hr0
        go_quiet (fail)
        go_wp2_with fail
        go_meet
        exact ⟨rfl, HX.out.drewN _, HS.out.drewN _, HB.out.drewN _⟩
      · have hr1 : ¬ r < 0 := by omega
        have hr2 : ¬ r ≤ 1 := by omega
        go_quiet (fail)
        go_wp2_with fail
        go_meet
        exact ⟨rfl, HX.out.drewN _, HS.out.drewN _, HB.out.drewN _⟩
  case rest =>
    clear HX HS HB l1
    obtain ⟨rfl, hX, hS, hB⟩ := hcut
    have l0 : wc.cell? ⟨w.heap.size, 0, none⟩ = some (.int .i64 0) := hB.cell 0
    have l2 : wc.cell? ⟨w.heap.size, 2, none⟩ = some (.int .i64 wv) := hB.cell 2
    have l3 : wc.cell? ⟨w.heap.size, 3, none⟩ = some (.int .i64 v) := hB.cell 3
    have c0 := (hS h (by omega)).1
    have g0 := (hS h (by omega)).2
    have c1 := (hS (4 + h * 2 + R) (by omega)).1
    have g1 := (hS (4 + h * 2 + R) (by omega)).2
    simp only at c0 g0 c1 g1
    rw [upd_same] at c0
    rw [upd_other (by omega)] at c1
    have HX := Lib.hid hX
    have HS := Lib.hid hS
    clear hX hS hB
    go_wp2_with fail
    go_end0
    refine ⟨rfl, ?_, HX.out.set (by simp) _ _⟩
    have e : done f h ⟨0, r, wv, v⟩ = upd (upd f h (f h + 1)) (4 + h * 2 + R) v := by simp [done, HREG.out]
    rw [e]
    exact HS.out.set (i := 4 + h * 2 + R) (by omega) (fun j _ e => e) v

set_option maxHeartbeats 4000000 in
set_option maxRecDepth 100000 in
theorem do_1 {w : World} {L h R : Nat} {f : St} {r : Int} {wd : Nat} {v : Int} (hs : StAt w L f) (h4 : h < 4) (h0 : 0 ≤ f h ∧ f h ≤ 10) (hR : (r ≤ 0 ∧ R = 0) ∨ (1 ≤ r ∧ R = 1)) (hw : wd < 4) :
    Calls Tryd.prog 28 #[.pointer (some ⟨L, 0, none⟩), .int .i64 h, .agg #[.int .i64 1, .int .i64 r, .int .i64 wd, .int .i64 v]] w fun e w' =>
      e = .returned (.tuple #[]) ∧ StAt w' L (done f h ⟨1, r, (wd : Int), v⟩) ∧ OnlyG [L] w w' := by
  have hreg : reg h ⟨1, r, (wd : Int), v⟩ = 4 + h * 2 + R := by
    unfold reg; simp only
    rcases hR with ⟨a, b⟩ | ⟨a, b⟩
    · rw [if_neg (by omega), b]
    · rw [if_pos (by omega), b]
  have hR2 : R < 2 := by omega
  have hR2I : (R : Int) < 2 := by omega
  have HREG := Lib.hid hreg
  have HRR := Lib.hid hR
  have hx : OnlyG [L] w (w.alloc (.cells #[.int .i64 1, .int .i64 r, .int .i64 wd, .int .i64 v] 40)) := (OnlyG.refl _ _).alloc _
  have hB := Blk.new w #[.int .i64 1, .int .i64 r, .int .i64 wd, .int .i64 v] 40
  have hLb : L < w.heap.size := World.block_lt_of_cell? (w := w) (a := ⟨L, h, none⟩) (hs h (by omega)).1
  have hS : StAt (w.alloc (.cells #[.int .i64 1, .int .i64 r, .int .i64 wd, .int .i64 v] 40)) L f := hs.keep (Below.heap_alloc _ _ _ hLb)
  have h4I : (h : Int) < 4 := by omega
  clear hs hreg
  go_enter Tryd.func28, Tryd.ntmps28
  go_wp2_with fail
  generalize w.alloc (.cells #[.int .i64 1, .int .i64 r, .int .i64 wd, .int .i64 v] 40) = wx at hx hB hS ⊢
  have l0 : wx.cell? ⟨w.heap.size, 0, none⟩ = some (.int .i64 1) := hB.cell 0
  have l1 : wx.cell? ⟨w.heap.size, 1, none⟩ = some (.int .i64 r) := hB.cell 1
  have l2 : wx.cell? ⟨w.heap.size, 2, none⟩ = some (.int .i64 wd) := hB.cell 2
  have l3 : wx.cell? ⟨w.heap.size, 3, none⟩ = some (.int .i64 v) := hB.cell 3
  have c0 := (hS h (by omega)).1
  have g0 := (hS h (by omega)).2
  have c1 := (hS (4 + h * 2 + R) (by omega)).1
  have g1 := (hS (4 + h * 2 + R) (by omega)).2
  have c2 := (hS (12 + wd) (by omega)).1
  have g2 := (hS (12 + wd) (by omega)).2
  have hwI : (wd : Int) < 4 := by omega
  simp only at c0 g0 c1 g1 c2 g2
  have HX := Lib.hid hx
  have HB := Lib.hid hB
  have HS := Lib.hid hS
  clear hx hB hS hR
  go_region
  go_wp2_with fail
  have hS2 := (HS.out.set (i := h) (by omega) (fun j _ e => e) (f h + 1)).drew
  have hX2 : OnlyG [L] w ((wx.setCell ⟨L, h, none⟩ (.int .i64 (f h + 1))).drew) := (HX.out.set (by simp) h (.int .i64 (f h + 1))).drew
  have hB2 := (HB.out.other (b' := L) (by omega) h (.int .i64 (f h + 1))).drew
  clear HS HX HB l0 l1 l2 l3 c0 g0 c1 g1 c2 g2
  generalize (wx.setCell ⟨L, h, none⟩ (.int .i64 (f h + 1))).drew = w2 at hS2 hX2 hB2 ⊢
  have l1 : w2.cell? ⟨w.heap.size, 1, none⟩ = some (.int .i64 r) := hB2.cell 1
  have HX := Lib.hid hX2
  have HS := Lib.hid hS2
  have HB := Lib.hid hB2
  clear hX2 hB2 hS2
  go_upto_region 2 with fail
  go_cut [6] from 7 (fun v6 w3 => v6 = .pointer (some ⟨L, 4 + h * 2 + R, none⟩) ∧ OnlyG [L] w w3 ∧ StAt w3 L (upd f h (f h + 1)) ∧ Blk w3 w.heap.size #[.int .i64 1, .int .i64 r, .int .i64 wd, .int .i64 v] 40)
  case first =>
    rcases HRR.out with ⟨hr, rfl⟩ | ⟨hr, rfl⟩
    · by_cases hr0 : r = 0
      · subst hr0
        go_quiet (fail)
        go_wp2_with fail
        go_meet
        exact ⟨rfl, HX.out.drewN _, HS.out.drewN _, HB.out.drewN _⟩
      · have hr1 : r < 0 := by omega
        go_quiet (fail)
        go_wp2_with fail
        go_meet
        exact ⟨rfl, HX.out.drewN _, HS.out.drewN _, HB.out.drewN _⟩
    · by_cases hr0 : r = 1
      · subst hr0
        go_quiet (fail)
        go_wp2_with fail
        go_meet
        exact ⟨rfl, HX.out.drewN _, HS.out.drewN _, HB.out.drewN _⟩
      · have hr1 : ¬ r < 0 := by omega
        have hr2 : ¬ r ≤ 1 := by omega
        go_quiet (fail)
        go_wp2_with fail
        go_meet
        exact ⟨rfl, HX.out.drewN _, HS.out.drewN _, HB.out.drewN _⟩
  case rest =>
    clear HX HS HB l1
    obtain ⟨rfl, hX, hS, hB⟩ := hcut
    have l0 : wc.cell? ⟨w.heap.size, 0, none⟩ = some (.int .i64 1) := hB.cell 0
    have l2 : wc.cell? ⟨w.heap.size, 2, none⟩ = some (.int .i64 wd) := hB.cell 2
    have l3 : wc.cell? ⟨w.heap.size, 3, none⟩ = some (.int .i64 v) := hB.cell 3
    have c0 := (hS h (by omega)).1
    have g0 := (hS h (by omega)).2
    have c1 := (hS (4 + h * 2 + R) (by omega)).1
    have g1 := (hS (4 + h * 2 + R) (by omega)).2
    have c2 := (hS (12 + wd) (by omega)).1
    have g2 := (hS (12 + wd) (by omega)).2
    have hwI : (wd : Int) < 4 := by omega
    simp only at c0 g0 c1 g1 c2 g2
    rw [upd_other (by omega)] at c2
    rw [upd_same] at c0
    rw [upd_other (by omega)] at c1
    have HX := Lib.hid hX
    have HS := Lib.hid hS
    clear hX hS hB
    go_wp2_with fail
    go_region
    go_wp2_with fail
    go_end0
    refine ⟨rfl, ?_, (HX.out.set (by simp) _ _).drew⟩
    have e : done f h ⟨1, r, wd, v⟩ = upd (upd f h (f h + 1)) (4 + h * 2 + R) (f (12 + wd)) := by simp [done, HREG.out]
    rw [e]
    exact (HS.out.set (i := 4 + h * 2 + R) (by omega) (fun j _ e => e) _).drew

set_option maxHeartbeats 4000000 in
set_option maxRecDepth 100000 in
theorem do_2 {w : World} {L h R : Nat} {f : St} {r : Int} {wd : Nat} {v : Int} (hs : StAt w L f) (h4 : h < 4) (h0 : 0 ≤ f h ∧ f h ≤ 10) (hR : (r ≤ 0 ∧ R = 0) ∨ (1 ≤ r ∧ R = 1)) (hw : wd < 4) :
    Calls Tryd.prog 28 #[.pointer (some ⟨L, 0, none⟩), .int .i64 h, .agg #[.int .i64 2, .int .i64 r, .int .i64 wd, .int .i64 v]] w fun e w' =>
      e = .returned (.tuple #[]) ∧ StAt w' L (done f h ⟨2, r, (wd : Int), v⟩) ∧ OnlyG [L] w w' := by
  have hreg : reg h ⟨2, r, (wd : Int), v⟩ = 4 + h * 2 + R := by
    unfold reg; simp only
    rcases hR with ⟨a, b⟩ | ⟨a, b⟩
    · rw [if_neg (by omega), b]
    · rw [if_pos (by omega), b]
  have hR2 : R < 2 := by omega
  have hR2I : (R : Int) < 2 := by omega
  have HREG := Lib.hid hreg
  have HRR := Lib.hid hR
  have hx : OnlyG [L] w (w.alloc (.cells #[.int .i64 2, .int .i64 r, .int .i64 wd, .int .i64 v] 40)) := (OnlyG.refl _ _).alloc _
  have hB := Blk.new w #[.int .i64 2, .int .i64 r, .int .i64 wd, .int .i64 v] 40
  have hLb : L < w.heap.size := World.block_lt_of_cell? (w := w) (a := ⟨L, h, none⟩) (hs h (by omega)).1
  have hS : StAt (w.alloc (.cells #[.int .i64 2, .int .i64 r, .int .i64 wd, .int .i64 v] 40)) L f := hs.keep (Below.heap_alloc _ _ _ hLb)
  have h4I : (h : Int) < 4 := by omega
  clear hs hreg
  go_enter Tryd.func28, Tryd.ntmps28
  go_wp2_with fail
  generalize w.alloc (.cells #[.int .i64 2, .int .i64 r, .int .i64 wd, .int .i64 v] 40) = wx at hx hB hS ⊢
  have l0 : wx.cell? ⟨w.heap.size, 0, none⟩ = some (.int .i64 2) := hB.cell 0
  have l1 : wx.cell? ⟨w.heap.size, 1, none⟩ = some (.int .i64 r) := hB.cell 1
  have l2 : wx.cell? ⟨w.heap.size, 2, none⟩ = some (.int .i64 wd) := hB.cell 2
  have l3 : wx.cell? ⟨w.heap.size, 3, none⟩ = some (.int .i64 v) := hB.cell 3
  have c0 := (hS h (by omega)).1
  have g0 := (hS h (by omega)).2
  have c1 := (hS (4 + h * 2 + R) (by omega)).1
  have g1 := (hS (4 + h * 2 + R) (by omega)).2
  have c2 := (hS (12 + wd) (by omega)).1
  have g2 := (hS (12 + wd) (by omega)).2
  have hwI : (wd : Int) < 4 := by omega
  simp only at c0 g0 c1 g1 c2 g2
  have HX := Lib.hid hx
  have HB := Lib.hid hB
  have HS := Lib.hid hS
  clear hx hB hS hR
  go_region
  go_wp2_with fail
  have hS2 := (HS.out.set (i := h) (by omega) (fun j _ e => e) (f h + 1)).drew
  have hX2 : OnlyG [L] w ((wx.setCell ⟨L, h, none⟩ (.int .i64 (f h + 1))).drew) := (HX.out.set (by simp) h (.int .i64 (f h + 1))).drew
  have hB2 := (HB.out.other (b' := L) (by omega) h (.int .i64 (f h + 1))).drew
  clear HS HX HB l0 l1 l2 l3 c0 g0 c1 g1 c2 g2
  generalize (wx.setCell ⟨L, h, none⟩ (.int .i64 (f h + 1))).drew = w2 at hS2 hX2 hB2 ⊢
  have l1 : w2.cell? ⟨w.heap.size, 1, none⟩ = some (.int .i64 r) := hB2.cell 1
  have HX := Lib.hid hX2
  have HS := Lib.hid hS2
  have HB := Lib.hid hB2
  clear hX2 hB2 hS2
  go_upto_region 2 with fail
  go_cut [6] from 7 (fun v6 w3 => v6 = .pointer (some ⟨L, 4 + h * 2 + R, none⟩) ∧ OnlyG [L] w w3 ∧ StAt w3 L (upd f h (f h + 1)) ∧ Blk w3 w.heap.size #[.int .i64 2, .int .i64 r, .int .i64 wd, .int .i64 v] 40)
  case first =>
    rcases HRR.out with ⟨hr, rfl⟩ | ⟨hr, rfl⟩
    · by_cases hr0 : r = 0
      · subst hr0
        go_quiet (fail)
        go_wp2_with fail
        go_meet
        exact ⟨rfl, HX.out.drewN _, HS.out.drewN _, HB.out.drewN _⟩
      · have hr1 : r < 0 := by omega
        go_quiet (fail)
        go_wp2_with fail
        go_meet
        exact ⟨rfl, HX.out.drewN _, HS.out.drewN _, HB.out.drewN _⟩
    · by_cases hr0 : r = 1
      · subst hr0
        go_quiet (fail)
        go_wp2_with fail
        go_meet
        exact ⟨rfl, HX.out.drewN _, HS.out.drewN _, HB.out.drewN _⟩
      · have hr1 : ¬ r < 0 := by omega
        have hr2 : ¬ r ≤ 1 := by omega
        go_quiet (fail)
        go_wp2_with fail
        go_meet
        exact ⟨rfl, HX.out.drewN _, HS.out.drewN _, HB.out.drewN _⟩
  case rest =>
    clear HX HS HB l1
    obtain ⟨rfl, hX, hS, hB⟩ := hcut
    have l0 : wc.cell? ⟨w.heap.size, 0, none⟩ = some (.int .i64 2) := hB.cell 0
    have l2 : wc.cell? ⟨w.heap.size, 2, none⟩ = some (.int .i64 wd) := hB.cell 2
    have l3 : wc.cell? ⟨w.heap.size, 3, none⟩ = some (.int .i64 v) := hB.cell 3
    have c0 := (hS h (by omega)).1
    have g0 := (hS h (by omega)).2
    have c1 := (hS (4 + h * 2 + R) (by omega)).1
    have g1 := (hS (4 + h * 2 + R) (by omega)).2
    have c2 := (hS (12 + wd) (by omega)).1
    have g2 := (hS (12 + wd) (by omega)).2
    have hwI : (wd : Int) < 4 := by omega
    simp only at c0 g0 c1 g1 c2 g2
    rw [upd_other (by omega)] at c2
    rw [upd_same] at c0
    rw [upd_other (by omega)] at c1
    have HX := Lib.hid hX
    have HS := Lib.hid hS
    clear hX hS hB
    go_wp2_with fail
    go_region
    go_wp2_with fail
    go_end0
    refine ⟨rfl, ?_, (HX.out.set (by simp) _ _).drew⟩
    have e : done f h ⟨2, r, wd, v⟩ = upd (upd f h (f h + 1)) (12 + wd) (f (4 + h * 2 + R)) := by simp [done, HREG.out]
    rw [e]
    exact (HS.out.set (i := 12 + wd) (by omega) (fun j _ e => e) _).drew

set_option maxHeartbeats 4000000 in
set_option maxRecDepth 100000 in
theorem do_3 {w : World} {L h R : Nat} {f : St} {r : Int} {wd : Nat} {v : Int} (hs : StAt w L f) (h4 : h < 4) (h0 : 0 ≤ f h ∧ f h ≤ 10) (hR : (r ≤ 0 ∧ R = 0) ∨ (1 ≤ r ∧ R = 1)) (hw : wd < 4) :
    Calls Tryd.prog 28 #[.pointer (some ⟨L, 0, none⟩), .int .i64 h, .agg #[.int .i64 3, .int .i64 r, .int .i64 wd, .int .i64 v]] w fun e w' =>
      e = .returned (.tuple #[]) ∧ StAt w' L (done f h ⟨3, r, (wd : Int), v⟩) ∧ OnlyG [L] w w' := by
  have hreg : reg h ⟨3, r, (wd : Int), v⟩ = 4 + h * 2 + R := by
    unfold reg; simp only
    rcases hR with ⟨a, b⟩ | ⟨a, b⟩
    · rw [if_neg (by omega), b]
    · rw [if_pos (by omega), b]
  have hR2 : R < 2 := by omega
  have hR2I : (R : Int) < 2 := by omega
  have HREG := Lib.hid hreg
  have HRR := Lib.hid hR
  have hx : OnlyG [L] w (w.alloc (.cells #[.int .i64 3, .int .i64 r, .int .i64 wd, .int .i64 v] 40)) := (OnlyG.refl _ _).alloc _
  have hB := Blk.new w #[.int .i64 3, .int .i64 r, .int .i64 wd, .int .i64 v] 40
  have hLb : L < w.heap.size := World.block_lt_of_cell? (w := w) (a := ⟨L, h, none⟩) (hs h (by omega)).1
  have hS : StAt (w.alloc (.cells #[.int .i64 3, .int .i64 r, .int .i64 wd, .int .i64 v] 40)) L f := hs.keep (Below.heap_alloc _ _ _ hLb)
  have h4I : (h : Int) < 4 := by omega
  clear hs hreg
  go_enter Tryd.func28, Tryd.ntmps28
  go_wp2_with fail
  generalize w.alloc (.cells #[.int .i64 3, .int .i64 r, .int .i64 wd, .int .i64 v] 40) = wx at hx hB hS ⊢
  have l0 : wx.cell? ⟨w.heap.size, 0, none⟩ = some (.int .i64 3) := hB.cell 0
  have l1 : wx.cell? ⟨w.heap.size, 1, none⟩ = some (.int .i64 r) := hB.cell 1
  have l2 : wx.cell? ⟨w.heap.size, 2, none⟩ = some (.int .i64 wd) := hB.cell 2
  have l3 : wx.cell? ⟨w.heap.size, 3, none⟩ = some (.int .i64 v) := hB.cell 3
  have c0 := (hS h (by omega)).1
  have g0 := (hS h (by omega)).2
  have c1 := (hS (4 + h * 2 + R) (by omega)).1
  have g1 := (hS (4 + h * 2 + R) (by omega)).2
  have c2 := (hS (12 + wd) (by omega)).1
  have g2 := (hS (12 + wd) (by omega)).2
  have hwI : (wd : Int) < 4 := by omega
  simp only at c0 g0 c1 g1 c2 g2
  have HX := Lib.hid hx
  have HB := Lib.hid hB
  have HS := Lib.hid hS
  clear hx hB hS hR
  go_region
  go_wp2_with fail
  have hS2 := (HS.out.set (i := h) (by omega) (fun j _ e => e) (f h + 1)).drew
  have hX2 : OnlyG [L] w ((wx.setCell ⟨L, h, none⟩ (.int .i64 (f h + 1))).drew) := (HX.out.set (by simp) h (.int .i64 (f h + 1))).drew
  have hB2 := (HB.out.other (b' := L) (by omega) h (.int .i64 (f h + 1))).drew
  clear HS HX HB l0 l1 l2 l3 c0 g0 c1 g1 c2 g2
  generalize (wx.setCell ⟨L, h, none⟩ (.int .i64 (f h + 1))).drew = w2 at hS2 hX2 hB2 ⊢
  have l1 : w2.cell? ⟨w.heap.size, 1, none⟩ = some (.int .i64 r) := hB2.cell 1
  have HX := Lib.hid hX2
  have HS := Lib.hid hS2
  have HB := Lib.hid hB2
  clear hX2 hB2 hS2
  go_upto_region 2 with fail
  go_cut [6] from 7 (fun v6 w3 => v6 = .pointer (some ⟨L, 4 + h * 2 + R, none⟩) ∧ OnlyG [L] w w3 ∧ StAt w3 L (upd f h (f h + 1)) ∧ Blk w3 w.heap.size #[.int .i64 3, .int .i64 r, .int .i64 wd, .int .i64 v] 40)
  case first =>
    rcases HRR.out with ⟨hr, rfl⟩ | ⟨hr, rfl⟩
    · by_cases hr0 : r = 0
      · subst hr0
        go_quiet (fail)
        go_wp2_with fail
        go_meet
        exact ⟨rfl, HX.out.drewN _, HS.out.drewN _, HB.out.drewN _⟩
      · have hr1 : r < 0 := by omega
        go_quiet (fail)
        go_wp2_with fail
        go_meet
        exact ⟨rfl, HX.out.drewN _, HS.out.drewN _, HB.out.drewN _⟩
    · by_cases hr0 : r = 1
      · subst hr0
        go_quiet (fail)
        go_wp2_with fail
        go_meet
        exact ⟨rfl, HX.out.drewN _, HS.out.drewN _, HB.out.drewN _⟩
      · have hr1 : ¬ r < 0 := by omega
        have hr2 : ¬ r ≤ 1 := by omega
        go_quiet (fail)
        go_wp2_with fail
        go_meet
        exact ⟨rfl, HX.out.drewN _, HS.out.drewN _, HB.out.drewN _⟩
  case rest =>
    clear HX HS HB l1
    obtain ⟨rfl, hX, hS, hB⟩ := hcut
    have l0 : wc.cell? ⟨w.heap.size, 0, none⟩ = some (.int .i64 3) := hB.cell 0
    have l2 : wc.cell? ⟨w.heap.size, 2, none⟩ = some (.int .i64 wd) := hB.cell 2
    have l3 : wc.cell? ⟨w.heap.size, 3, none⟩ = some (.int .i64 v) := hB.cell 3
    have c0 := (hS h (by omega)).1
    have g0 := (hS h (by omega)).2
    have c1 := (hS (4 + h * 2 + R) (by omega)).1
    have g1 := (hS (4 + h * 2 + R) (by omega)).2
    have c2 := (hS (12 + wd) (by omega)).1
    have g2 := (hS (12 + wd) (by omega)).2
    have hwI : (wd : Int) < 4 := by omega
    simp only at c0 g0 c1 g1 c2 g2
    rw [upd_other (by omega)] at c2
    rw [upd_same] at c0
    rw [upd_other (by omega)] at c1
    have HX := Lib.hid hX
    have HS := Lib.hid hS
    clear hX hS hB
    go_wp2_with fail
    go_region
    go_wp2_with fail
    go_end0
    refine ⟨rfl, ?_, ((HX.out.set (by simp) _ _).set (by simp) _ _).drew⟩
    have e : done f h ⟨3, r, wd, v⟩ = upd (upd (upd f h (f h + 1)) (12 + wd) (f (4 + h * 2 + R))) (4 + h * 2 + R) (f (12 + wd)) := by simp [done, HREG.out]
    rw [e]
    exact ((HS.out.set (i := 12 + wd) (by omega) (fun j _ e => e) _).set (i := 4 + h * 2 + R) (by omega) (fun j _ e => e) _).drew

set_option maxHeartbeats 4000000 in
set_option maxRecDepth 100000 in
theorem do_4 {w : World} {L h R : Nat} {f : St} {r : Int} {wv v : Int} (hs : StAt w L f) (h4 : h < 4) (h0 : 0 ≤ f h ∧ f h ≤ 10) (hR : (r ≤ 0 ∧ R = 0) ∨ (1 ≤ r ∧ R = 1)) :
    Calls Tryd.prog 28 #[.pointer (some ⟨L, 0, none⟩), .int .i64 h, .agg #[.int .i64 4, .int .i64 r, .int .i64 wv, .int .i64 v]] w fun e w' =>
      e = .returned (.tuple #[]) ∧ StAt w' L (done f h ⟨4, r, wv, v⟩) ∧ OnlyG [L] w w' := by
  have hreg : reg h ⟨4, r, wv, v⟩ = 4 + h * 2 + R := by
    unfold reg; simp only
    rcases hR with ⟨a, b⟩ | ⟨a, b⟩
    · rw [if_neg (by omega), b]
    · rw [if_pos (by omega), b]
  have hR2 : R < 2 := by omega
  have hR2I : (R : Int) < 2 := by omega
  have HREG := Lib.hid hreg
  have HRR := Lib.hid hR
  have hx : OnlyG [L] w (w.alloc (.cells #[.int .i64 4, .int .i64 r, .int .i64 wv, .int .i64 v] 40)) := (OnlyG.refl _ _).alloc _
  have hB := Blk.new w #[.int .i64 4, .int .i64 r, .int .i64 wv, .int .i64 v] 40
  have hLb : L < w.heap.size := World.block_lt_of_cell? (w := w) (a := ⟨L, h, none⟩) (hs h (by omega)).1
  have hS : StAt (w.alloc (.cells #[.int .i64 4, .int .i64 r, .int .i64 wv, .int .i64 v] 40)) L f := hs.keep (Below.heap_alloc _ _ _ hLb)
  have h4I : (h : Int) < 4 := by omega
  clear hs hreg
  go_enter Tryd.func28, Tryd.ntmps28
  go_wp2_with fail
  generalize w.alloc (.cells #[.int .i64 4, .int .i64 r, .int .i64 wv, .int .i64 v] 40) = wx at hx hB hS ⊢
  have l0 : wx.cell? ⟨w.heap.size, 0, none⟩ = some (.int .i64 4) := hB.cell 0
  have l1 : wx.cell? ⟨w.heap.size, 1, none⟩ = some (.int .i64 r) := hB.cell 1
  have l2 : wx.cell? ⟨w.heap.size, 2, none⟩ = some (.int .i64 wv) := hB.cell 2
  have l3 : wx.cell? ⟨w.heap.size, 3, none⟩ = some (.int .i64 v) := hB.cell 3
  have c0 := (hS h (by omega)).1
  have g0 := (hS h (by omega)).2
  have c1 := (hS (4 + h * 2 + R) (by omega)).1
  have g1 := (hS (4 + h * 2 + R) (by omega)).2
  simp only at c0 g0 c1 g1
  have HX := Lib.hid hx
  have HB := Lib.hid hB
  have HS := Lib.hid hS
  clear hx hB hS hR
  go_region
  go_wp2_with fail
  have hS2 := (HS.out.set (i := h) (by omega) (fun j _ e => e) (f h + 1)).drew
  have hX2 : OnlyG [L] w ((wx.setCell ⟨L, h, none⟩ (.int .i64 (f h + 1))).drew) := (HX.out.set (by simp) h (.int .i64 (f h + 1))).drew
  have hB2 := (HB.out.other (b' := L) (by omega) h (.int .i64 (f h + 1))).drew
  clear HS HX HB l0 l1 l2 l3 c0 g0 c1 g1
  generalize (wx.setCell ⟨L, h, none⟩ (.int .i64 (f h + 1))).drew = w2 at hS2 hX2 hB2 ⊢
  have l1 : w2.cell? ⟨w.heap.size, 1, none⟩ = some (.int .i64 r) := hB2.cell 1
  have HX := Lib.hid hX2
  have HS := Lib.hid hS2
  have HB := Lib.hid hB2
  clear hX2 hB2 hS2
  go_upto_region 2 with fail
  go_cut [6] from 7 (fun v6 w3 => v6 = .pointer (some ⟨L, 4 + h * 2 + R, none⟩) ∧ OnlyG [L] w w3 ∧ StAt w3 L (upd f h (f h + 1)) ∧ Blk w3 w.heap.size #[.int .i64 4, .int .i64 r, .int .i64 wv, .int .i64 v] 40)
  case first =>
    rcases HRR.out with ⟨hr, rfl⟩ | ⟨hr, rfl⟩
    · by_cases hr0 : r = 0
      · subst hr0
        go_quiet (fail)
        go_wp2_with fail
        go_meet
        exact ⟨rfl, HX.out.drewN _, HS.out.drewN _, HB.out.drewN _⟩
      · have hr1 : r < 0 := by omega
        go_quiet (fail)
        go_wp2_with fail
        go_meet
        exact ⟨rfl, HX.out.drewN _, HS.out.drewN _, HB.out.drewN _⟩
    · by_cases hr0 : r = 1
      · subst hr0
        go_quiet (fail)
        go_wp2_with fail
        go_meet
        exact ⟨rfl, HX.out.drewN _, HS.out.drewN _, HB.out.drewN _⟩
      · have hr1 : ¬ r < 0 := by omega
        have hr2 : ¬ r ≤ 1 := by omega
        go_quiet (fail)
        go_wp2_with fail
        go_meet
        exact ⟨rfl, HX.out.drewN _, HS.out.drewN _, HB.out.drewN _⟩
  case rest =>
    clear HX HS HB l1
    obtain ⟨rfl, hX, hS, hB⟩ := hcut
    have l0 : wc.cell? ⟨w.heap.size, 0, none⟩ = some (.int .i64 4) := hB.cell 0
    have l2 : wc.cell? ⟨w.heap.size, 2, none⟩ = some (.int .i64 wv) := hB.cell 2
    have l3 : wc.cell? ⟨w.heap.size, 3, none⟩ = some (.int .i64 v) := hB.cell 3
    have c0 := (hS h (by omega)).1
    have g0 := (hS h (by omega)).2
    have c1 := (hS (4 + h * 2 + R) (by omega)).1
    have g1 := (hS (4 + h * 2 + R) (by omega)).2
    simp only at c0 g0 c1 g1
    rw [upd_same] at c0
    rw [upd_other (by omega)] at c1
    have HX := Lib.hid hX
    have HS := Lib.hid hS
    clear hX hS hB
    go_wp2_with fail
    go_end0
    refine ⟨rfl, ?_, HX.out⟩
    have e : done f h ⟨4, r, wv, v⟩ = upd f h (f h + 1) := by simp [done]
    rw [e]
    exact HS.out

set_option maxHeartbeats 4000000 in
set_option maxRecDepth 100000 in
theorem do_5 {w : World} {L h R : Nat} {f : St} {r : Int} {wv v : Int} (hs : StAt w L f) (h4 : h < 4) (h0 : 0 ≤ f h ∧ f h ≤ 10) (hR : (r ≤ 0 ∧ R = 0) ∨ (1 ≤ r ∧ R = 1)) (hv : 0 ≤ v ∧ v ≤ 5) :
    Calls Tryd.prog 28 #[.pointer (some ⟨L, 0, none⟩), .int .i64 h, .agg #[.int .i64 5, .int .i64 r, .int .i64 wv, .int .i64 v]] w fun e w' =>
      e = .returned (.tuple #[]) ∧ StAt w' L (done f h ⟨5, r, wv, v⟩) ∧ OnlyG [L] w w' := by
  have hreg : reg h ⟨5, r, wv, v⟩ = 4 + h * 2 + R := by
    unfold reg; simp only
    rcases hR with ⟨a, b⟩ | ⟨a, b⟩
    · rw [if_neg (by omega), b]
    · rw [if_pos (by omega), b]
  have hR2 : R < 2 := by omega
  have hR2I : (R : Int) < 2 := by omega
  have HREG := Lib.hid hreg
  have HRR := Lib.hid hR
  have hx : OnlyG [L] w (w.alloc (.cells #[.int .i64 5, .int .i64 r, .int .i64 wv, .int .i64 v] 40)) := (OnlyG.refl _ _).alloc _
  have hB := Blk.new w #[.int .i64 5, .int .i64 r, .int .i64 wv, .int .i64 v] 40
  have hLb : L < w.heap.size := World.block_lt_of_cell? (w := w) (a := ⟨L, h, none⟩) (hs h (by omega)).1
  have hS : StAt (w.alloc (.cells #[.int .i64 5, .int .i64 r, .int .i64 wv, .int .i64 v] 40)) L f := hs.keep (Below.heap_alloc _ _ _ hLb)
  have h4I : (h : Int) < 4 := by omega
  clear hs hreg
  go_enter Tryd.func28, Tryd.ntmps28
  go_wp2_with fail
  generalize w.alloc (.cells #[.int .i64 5, .int .i64 r, .int .i64 wv, .int .i64 v] 40) = wx at hx hB hS ⊢
  have l0 : wx.cell? ⟨w.heap.size, 0, none⟩ = some (.int .i64 5) := hB.cell 0
  have l1 : wx.cell? ⟨w.heap.size, 1, none⟩ = some (.int .i64 r) := hB.cell 1
  have l2 : wx.cell? ⟨w.heap.size, 2, none⟩ = some (.int .i64 wv) := hB.cell 2
  have l3 : wx.cell? ⟨w.heap.size, 3, none⟩ = some (.int .i64 v) := hB.cell 3
  have c0 := (hS h (by omega)).1
  have g0 := (hS h (by omega)).2
  have c1 := (hS (4 + h * 2 + R) (by omega)).1
  have g1 := (hS (4 + h * 2 + R) (by omega)).2
  simp only at c0 g0 c1 g1
  have HX := Lib.hid hx
  have HB := Lib.hid hB
  have HS := Lib.hid hS
  clear hx hB hS hR
  go_region
  go_wp2_with fail
  have hS2 := (HS.out.set (i := h) (by omega) (fun j _ e => e) (f h + 1)).drew
  have hX2 : OnlyG [L] w ((wx.setCell ⟨L, h, none⟩ (.int .i64 (f h + 1))).drew) := (HX.out.set (by simp) h (.int .i64 (f h + 1))).drew
  have hB2 := (HB.out.other (b' := L) (by omega) h (.int .i64 (f h + 1))).drew
  clear HS HX HB l0 l1 l2 l3 c0 g0 c1 g1
  generalize (wx.setCell ⟨L, h, none⟩ (.int .i64 (f h + 1))).drew = w2 at hS2 hX2 hB2 ⊢
  have l1 : w2.cell? ⟨w.heap.size, 1, none⟩ = some (.int .i64 r) := hB2.cell 1
  have HX := Lib.hid hX2
  have HS := Lib.hid hS2
  have HB := Lib.hid hB2
  clear hX2 hB2 hS2
  go_upto_region 2 with fail
  go_cut [6] from 7 (fun v6 w3 => v6 = .pointer (some ⟨L, 4 + h * 2 + R, none⟩) ∧ OnlyG [L] w w3 ∧ StAt w3 L (upd f h (f h + 1)) ∧ Blk w3 w.heap.size #[.int .i64 5, .int .i64 r, .int .i64 wv, .int .i64 v] 40)
  case first =>
    rcases HRR.out with ⟨hr, rfl⟩ | ⟨hr, rfl⟩
    · by_cases hr0 : r = 0
      · subst hr0
        go_quiet (fail)
        go_wp2_with fail
        go_meet
        exact ⟨rfl, HX.out.drewN _, HS.out.drewN _, HB.out.drewN _⟩
      · have hr1 : r < 0 := by omega
        go_quiet (fail)
        go_wp2_with fail
        go_meet
        exact ⟨rfl, HX.out.drewN _, HS.out.drewN _, HB.out.drewN _⟩
    · by_cases hr0 : r = 1
      · subst hr0
        go_quiet (fail)
        go_wp2_with fail
        go_meet
        exact ⟨rfl, HX.out.drewN _, HS.out.drewN _, HB.out.drewN _⟩
      · have hr1 : ¬ r < 0 := by omega
        have hr2 : ¬ r ≤ 1 := by omega
        go_quiet (fail)
        go_wp2_with fail
        go_meet
        exact ⟨rfl, HX.out.drewN _, HS.out.drewN _, HB.out.drewN _⟩
  case rest =>
    clear HX HS HB l1
    obtain ⟨rfl, hX, hS, hB⟩ := hcut
    have l0 : wc.cell? ⟨w.heap.size, 0, none⟩ = some (.int .i64 5) := hB.cell 0
    have l2 : wc.cell? ⟨w.heap.size, 2, none⟩ = some (.int .i64 wv) := hB.cell 2
    have l3 : wc.cell? ⟨w.heap.size, 3, none⟩ = some (.int .i64 v) := hB.cell 3
    have c0 := (hS h (by omega)).1
    have g0 := (hS h (by omega)).2
    have c1 := (hS (4 + h * 2 + R) (by omega)).1
    have g1 := (hS (4 + h * 2 + R) (by omega)).2
    simp only at c0 g0 c1 g1
    rw [upd_same] at c0
    rw [upd_other (by omega)] at c1
    have HX := Lib.hid hX
    have HS := Lib.hid hS
    clear hX hS hB
    by_cases hz : f (4 + h * 2 + R) = 0
    · have HZ := Lib.hid hz
      rw [hz] at c1
      clear hz
      go_wp2_with fail
      go_region
      go_wp2_with fail
      go_end0
      refine ⟨rfl, ?_, (HX.out.set (by simp) _ _).drew⟩
      have e : done f h ⟨5, r, wv, v⟩ = upd (upd f h (f h + 1)) h (f h + 1 + v) := by simp [done, HREG.out, HZ.out, upd_upd]
      rw [e]
      exact (HS.out.set (i := h) (by omega) (fun j _ e => e) _).drew
    · have z : (f (4 + h * 2 + R) == 0) = false := by simpa using hz
      have HZ := Lib.hid hz
      clear hz
      go_wp2_with fail
      go_end0
      refine ⟨rfl, ?_, HX.out⟩
      have e : done f h ⟨5, r, wv, v⟩ = upd f h (f h + 1) := by simp [done, HREG.out, HZ.out]
      rw [e]
      exact HS.out
end Go.Proofs.YtimbdjmplcgilaaDoor.Pr
