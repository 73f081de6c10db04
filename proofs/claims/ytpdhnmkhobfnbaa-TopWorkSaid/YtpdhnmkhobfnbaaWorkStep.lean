import Derived.Test.YtpdhnmkhobfnbaaWorkBase
namespace Go.Proofs.Ytpdhnmkhobfnbaa.Work
open Go.RowKit
set_option linter.unusedVariables false
set_option linter.unusedSimpArgs false

set_option maxHeartbeats 4000000 in
set_option maxRecDepth 100000 in
theorem l1 {w : World} {n L p : Nat} {fb : List Nat} {s : St} (h : Rep w n L fb s) (hp : p < n) (hn : n ≤ 4) (hl : s.ln p = 1) (hb : 0 ≤ s.tp ∧ s.tp ≤ s.bt ∧ s.bt < 8) :
    Calls Try.prog 7 #[.pointer (some ⟨L, 0, none⟩), .int .i64 p] w (Post n L fb w false (0) (stepN s p)) := by
  have hst : stepN s p = { s with ln := upd s.ln p 2 } := by simp [stepN, hl, put, rest, upd_id]
  rw [hst]
  clear hst
  obtain ⟨bH, cap, rfl, hcap, hLH, hB, rL, rV, rT, rB⟩ := h
  have HD := Lib.hid (Dx.start (T := 41) hp hLH hB rL rV rT rB)
  have c10 : w.cell? ⟨L, 10, none⟩ = some (.slice (some ⟨bH, 0, none⟩) n cap) := hB.cell 10
  have hpn : (p : Int) ≤ (n : Int) - 1 := by omega
  have hpn2 : (p : Int) < n := by omega
  have Hl := Lib.hid hl
  have hLn := hB.lt
  have hne : L ≠ w.heap.size := Nat.ne_of_lt hLn
  clear hB rL rV rT rB hl
  have b1 := hb.1
  have b2 := hb.2.1
  have b3 := hb.2.2
  have t0 : decide (8 ≤ s.bt - s.tp) = false := by simp; omega
  clear hb
  go_enter Try.func7, Try.ntmps7
  go_wp2_with fail
  refine (within_yes (by omega) hpn).mono ?_
  rintro e wi ⟨rfl, rfl⟩
  go_upto_region 5 with fail
  generalize w.alloc (.cells #[.pointer (some ⟨bH, p * 4, none⟩)] 41) = wx at HD ⊢
  clear c10 hLn
  generalize w.heap.size = N at *
  have cN := HD.out.own
  have t8 : wx.cell? ⟨L, 8, none⟩ = some (.int .i64 (s.tp)) := HD.out.top.trans (by simp)
  have t9 : wx.cell? ⟨L, 9, none⟩ = some (.int .i64 (s.bt)) := HD.out.bot.trans (by simp)
  have e0 : wx.cell? ⟨bH, p * 4, none⟩ = some (.int .i64 (1)) := ((HD.out.rL p hp).1).trans (by simp [Hl.out])
  have e1 : wx.cell? ⟨bH, p * 4 + 1, none⟩ = some (.int .i64 (s.vl p)) := ((HD.out.rV p hp).1).trans (by simp [upd])
  have e2 : wx.cell? ⟨bH, p * 4 + 2, none⟩ = some (.int .i64 (s.ht p)) := ((HD.out.rT p hp).1).trans (by simp [upd])
  have e3 : wx.cell? ⟨bH, p * 4 + 3, none⟩ = some (.int .i64 (s.hb p)) := ((HD.out.rB p hp).1).trans (by simp [upd])
  have f8 := HD.out.blk.free 8
  have f9 := HD.out.blk.free 9
  have g0 := (HD.out.rL p hp).2
  have g1 := (HD.out.rV p hp).2
  have g2 := (HD.out.rT p hp).2
  have g3 := (HD.out.rB p hp).2
  simp only at g0 g1 g2 g3
  go_wp2_with fail
  go_quiet (fail)
  go_wp2_with fail
  go_ret3
  have HF := (HD.out.drewN nq).setLn hp 2
  exact ⟨rfl, HF.rep hcap, HF.only⟩

set_option maxHeartbeats 4000000 in
set_option maxRecDepth 100000 in
theorem l2 {w : World} {n L p : Nat} {fb : List Nat} {s : St} (h : Rep w n L fb s) (hp : p < n) (hn : n ≤ 4) (hl : s.ln p = 2) {k : Nat} (hk : s.bt = (k : Int)) (hk8 : k < 8) :
    Calls Try.prog 7 #[.pointer (some ⟨L, 0, none⟩), .int .i64 p] w (Post n L fb w false (0) (stepN s p)) := by
  have hst : stepN s p = { { s with pc := upd s.pc k (s.vl p) } with ln := upd s.ln p 3 } := by simp [stepN, hl, put, rest, upd_id, hk]
  rw [hst]
  clear hst
  obtain ⟨bH, cap, rfl, hcap, hLH, hB, rL, rV, rT, rB⟩ := h
  have HD := Lib.hid (Dx.start (T := 41) hp hLH hB rL rV rT rB)
  have c10 : w.cell? ⟨L, 10, none⟩ = some (.slice (some ⟨bH, 0, none⟩) n cap) := hB.cell 10
  have hpn : (p : Int) ≤ (n : Int) - 1 := by omega
  have hpn2 : (p : Int) < n := by omega
  have Hl := Lib.hid hl
  have hLn := hB.lt
  have hne : L ≠ w.heap.size := Nat.ne_of_lt hLn
  clear hB rL rV rT rB hl
  have Hk := Lib.hid hk
  clear hk
  go_enter Try.func7, Try.ntmps7
  go_wp2_with fail
  refine (within_yes (by omega) hpn).mono ?_
  rintro e wi ⟨rfl, rfl⟩
  go_upto_region 5 with fail
  generalize w.alloc (.cells #[.pointer (some ⟨bH, p * 4, none⟩)] 41) = wx at HD ⊢
  clear c10 hLn
  generalize w.heap.size = N at *
  have cN := HD.out.own
  have t8 : wx.cell? ⟨L, 8, none⟩ = some (.int .i64 (s.tp)) := HD.out.top.trans (by simp)
  have t9 : wx.cell? ⟨L, 9, none⟩ = some (.int .i64 (s.bt)) := HD.out.bot.trans (by simp)
  have e0 : wx.cell? ⟨bH, p * 4, none⟩ = some (.int .i64 (2)) := ((HD.out.rL p hp).1).trans (by simp [Hl.out])
  have e1 : wx.cell? ⟨bH, p * 4 + 1, none⟩ = some (.int .i64 (s.vl p)) := ((HD.out.rV p hp).1).trans (by simp [upd])
  have e2 : wx.cell? ⟨bH, p * 4 + 2, none⟩ = some (.int .i64 (s.ht p)) := ((HD.out.rT p hp).1).trans (by simp [upd])
  have e3 : wx.cell? ⟨bH, p * 4 + 3, none⟩ = some (.int .i64 (s.hb p)) := ((HD.out.rB p hp).1).trans (by simp [upd])
  have f8 := HD.out.blk.free 8
  have f9 := HD.out.blk.free 9
  have g0 := (HD.out.rL p hp).2
  have g1 := (HD.out.rV p hp).2
  have g2 := (HD.out.rT p hp).2
  have g3 := (HD.out.rB p hp).2
  simp only at g0 g1 g2 g3
  have pk := HD.out.pcs k hk8
  have fk := HD.out.blk.free k
  rw [Hk.out] at t9
  have n9 : L ≠ bH := hLH
  go_wp2_with fail
  replace HD := Lib.hid HD.out.drew
  have u0 : wx.drew.cell? ⟨N, 0, none⟩ = some (.pointer (some ⟨bH, p * 4, none⟩)) := HD.out.own
  have v0 : (wx.drew.setCell ⟨L, k, none⟩ (.int .i64 (s.vl p))).cell? ⟨N, 0, none⟩ = some (.pointer (some ⟨bH, p * 4, none⟩)) := (HD.out.setPlace k hk8 (s.vl p)).own
  have u1 : wx.drew.cell? ⟨L, 9, none⟩ = some (.int .i64 (k : Int)) := HD.out.bot.trans (by simp [Hk.out])
  have v1 : (wx.drew.setCell ⟨L, k, none⟩ (.int .i64 (s.vl p))).cell? ⟨L, 9, none⟩ = some (.int .i64 (k : Int)) := (HD.out.setPlace k hk8 (s.vl p)).bot.trans (by simp [Hk.out])
  have u2 : wx.drew.cell? ⟨bH, p * 4 + 1, none⟩ = some (.int .i64 (s.vl p)) := (HD.out.rV p hp).1
  have v2 : (wx.drew.setCell ⟨L, k, none⟩ (.int .i64 (s.vl p))).cell? ⟨bH, p * 4 + 1, none⟩ = some (.int .i64 (s.vl p)) := ((HD.out.setPlace k hk8 (s.vl p)).rV p hp).1
  go_region_held3 (fun w' => w'.cell? ⟨N, 0, none⟩ = some (.pointer (some ⟨bH, p * 4, none⟩)) ∧ w'.cell? ⟨L, 9, none⟩ = some (.int .i64 (k : Int)) ∧ w'.cell? ⟨bH, p * 4 + 1, none⟩ = some (.int .i64 (s.vl p)))
    (first | (with_reducible exact ⟨u0, u1, u2⟩) | (with_reducible exact ⟨v0, v1, v2⟩) | exact ⟨u0, u1, u2⟩ | exact ⟨v0, v1, v2⟩)
    ((go_at_call 15; refine (place_at (k := k) rfl hk8).mono ?_; rintro e w' ⟨rfl, rfl⟩))
  go_wp2_with fail
  go_ret3
  have HF := (HD.out.setPlace k hk8 (s.vl p)).setLn hp 3
  exact ⟨rfl, HF.rep hcap, HF.only⟩

set_option maxHeartbeats 4000000 in
set_option maxRecDepth 100000 in
theorem l3 {w : World} {n L p : Nat} {fb : List Nat} {s : St} (h : Rep w n L fb s) (hp : p < n) (hn : n ≤ 4) (hl : s.ln p = 3) (hb : 0 ≤ s.bt ∧ s.bt ≤ 100) :
    Calls Try.prog 7 #[.pointer (some ⟨L, 0, none⟩), .int .i64 p] w (Post n L fb w true (-1) (stepN s p)) := by
  have hst : stepN s p = { rest s p with bt := s.bt + 1 } := by simp [stepN, hl, put, rest, upd_id]
  rw [hst]
  clear hst
  obtain ⟨bH, cap, rfl, hcap, hLH, hB, rL, rV, rT, rB⟩ := h
  have HD := Lib.hid (Dx.start (T := 41) hp hLH hB rL rV rT rB)
  have c10 : w.cell? ⟨L, 10, none⟩ = some (.slice (some ⟨bH, 0, none⟩) n cap) := hB.cell 10
  have hpn : (p : Int) ≤ (n : Int) - 1 := by omega
  have hpn2 : (p : Int) < n := by omega
  have Hl := Lib.hid hl
  have hLn := hB.lt
  have hne : L ≠ w.heap.size := Nat.ne_of_lt hLn
  clear hB rL rV rT rB hl
  have b1 := hb.1
  have b2 := hb.2
  clear hb
  go_enter Try.func7, Try.ntmps7
  go_wp2_with fail
  refine (within_yes (by omega) hpn).mono ?_
  rintro e wi ⟨rfl, rfl⟩
  go_upto_region 5 with fail
  generalize w.alloc (.cells #[.pointer (some ⟨bH, p * 4, none⟩)] 41) = wx at HD ⊢
  clear c10 hLn
  generalize w.heap.size = N at *
  have cN := HD.out.own
  have t8 : wx.cell? ⟨L, 8, none⟩ = some (.int .i64 (s.tp)) := HD.out.top.trans (by simp)
  have t9 : wx.cell? ⟨L, 9, none⟩ = some (.int .i64 (s.bt)) := HD.out.bot.trans (by simp)
  have e0 : wx.cell? ⟨bH, p * 4, none⟩ = some (.int .i64 (3)) := ((HD.out.rL p hp).1).trans (by simp [Hl.out])
  have e1 : wx.cell? ⟨bH, p * 4 + 1, none⟩ = some (.int .i64 (s.vl p)) := ((HD.out.rV p hp).1).trans (by simp [upd])
  have e2 : wx.cell? ⟨bH, p * 4 + 2, none⟩ = some (.int .i64 (s.ht p)) := ((HD.out.rT p hp).1).trans (by simp [upd])
  have e3 : wx.cell? ⟨bH, p * 4 + 3, none⟩ = some (.int .i64 (s.hb p)) := ((HD.out.rB p hp).1).trans (by simp [upd])
  have f8 := HD.out.blk.free 8
  have f9 := HD.out.blk.free 9
  have g0 := (HD.out.rL p hp).2
  have g1 := (HD.out.rV p hp).2
  have g2 := (HD.out.rT p hp).2
  have g3 := (HD.out.rB p hp).2
  simp only at g0 g1 g2 g3
  go_wp2_with fail
  refine (done_any (HD.out.setBot (s.bt + 1)) hp).mono ?_
  rintro e w9 ⟨rfl, HF⟩
  clear cN t8 t9 e0 e1 e2 e3 f8 f9 g0 g1 g2 g3
  go_wp2_with fail
  go_ret3
  exact ⟨rfl, (HF.re (by rfl)).rep hcap, HF.only⟩

set_option maxHeartbeats 4000000 in
set_option maxRecDepth 100000 in
theorem l4 {w : World} {n L p : Nat} {fb : List Nat} {s : St} (h : Rep w n L fb s) (hp : p < n) (hn : n ≤ 4) (hl : s.ln p = 4) (hb : 0 ≤ s.bt ∧ s.bt ≤ 100) :
    Calls Try.prog 7 #[.pointer (some ⟨L, 0, none⟩), .int .i64 p] w (Post n L fb w false (0) (stepN s p)) := by
  have hst : stepN s p = { { { s with bt := s.bt - 1 } with hb := upd s.hb p (s.bt - 1) } with ln := upd s.ln p 5 } := by simp [stepN, hl, put, rest, upd_id]
  rw [hst]
  clear hst
  obtain ⟨bH, cap, rfl, hcap, hLH, hB, rL, rV, rT, rB⟩ := h
  have HD := Lib.hid (Dx.start (T := 41) hp hLH hB rL rV rT rB)
  have c10 : w.cell? ⟨L, 10, none⟩ = some (.slice (some ⟨bH, 0, none⟩) n cap) := hB.cell 10
  have hpn : (p : Int) ≤ (n : Int) - 1 := by omega
  have hpn2 : (p : Int) < n := by omega
  have Hl := Lib.hid hl
  have hLn := hB.lt
  have hne : L ≠ w.heap.size := Nat.ne_of_lt hLn
  clear hB rL rV rT rB hl
  have b1 := hb.1
  have b2 := hb.2
  clear hb
  go_enter Try.func7, Try.ntmps7
  go_wp2_with fail
  refine (within_yes (by omega) hpn).mono ?_
  rintro e wi ⟨rfl, rfl⟩
  go_upto_region 5 with fail
  generalize w.alloc (.cells #[.pointer (some ⟨bH, p * 4, none⟩)] 41) = wx at HD ⊢
  clear c10 hLn
  generalize w.heap.size = N at *
  have cN := HD.out.own
  have t8 : wx.cell? ⟨L, 8, none⟩ = some (.int .i64 (s.tp)) := HD.out.top.trans (by simp)
  have t9 : wx.cell? ⟨L, 9, none⟩ = some (.int .i64 (s.bt)) := HD.out.bot.trans (by simp)
  have e0 : wx.cell? ⟨bH, p * 4, none⟩ = some (.int .i64 (4)) := ((HD.out.rL p hp).1).trans (by simp [Hl.out])
  have e1 : wx.cell? ⟨bH, p * 4 + 1, none⟩ = some (.int .i64 (s.vl p)) := ((HD.out.rV p hp).1).trans (by simp [upd])
  have e2 : wx.cell? ⟨bH, p * 4 + 2, none⟩ = some (.int .i64 (s.ht p)) := ((HD.out.rT p hp).1).trans (by simp [upd])
  have e3 : wx.cell? ⟨bH, p * 4 + 3, none⟩ = some (.int .i64 (s.hb p)) := ((HD.out.rB p hp).1).trans (by simp [upd])
  have f8 := HD.out.blk.free 8
  have f9 := HD.out.blk.free 9
  have g0 := (HD.out.rL p hp).2
  have g1 := (HD.out.rV p hp).2
  have g2 := (HD.out.rT p hp).2
  have g3 := (HD.out.rB p hp).2
  simp only at g0 g1 g2 g3
  go_wp2_with fail
  replace HD := Lib.hid (HD.out.setBot (s.bt - 1))
  clear cN t8 t9 e0 e1 e2 e3 f8 f9 g0 g1 g2 g3
  generalize wx.setCell ⟨L, 9, none⟩ (.int .i64 (s.bt - 1)) = wy at HD ⊢
  have cN := HD.out.own
  have t8 : wy.cell? ⟨L, 8, none⟩ = some (.int .i64 (s.tp)) := HD.out.top.trans (by simp)
  have t9 : wy.cell? ⟨L, 9, none⟩ = some (.int .i64 (s.bt - 1)) := HD.out.bot.trans (by simp)
  have e0 : wy.cell? ⟨bH, p * 4, none⟩ = some (.int .i64 (4)) := ((HD.out.rL p hp).1).trans (by simp [Hl.out])
  have e1 : wy.cell? ⟨bH, p * 4 + 1, none⟩ = some (.int .i64 (s.vl p)) := ((HD.out.rV p hp).1).trans (by simp [upd])
  have e2 : wy.cell? ⟨bH, p * 4 + 2, none⟩ = some (.int .i64 (s.ht p)) := ((HD.out.rT p hp).1).trans (by simp [upd])
  have e3 : wy.cell? ⟨bH, p * 4 + 3, none⟩ = some (.int .i64 (s.hb p)) := ((HD.out.rB p hp).1).trans (by simp [upd])
  have f8 := HD.out.blk.free 8
  have f9 := HD.out.blk.free 9
  have g0 := (HD.out.rL p hp).2
  have g1 := (HD.out.rV p hp).2
  have g2 := (HD.out.rT p hp).2
  have g3 := (HD.out.rB p hp).2
  simp only at g0 g1 g2 g3
  go_region
  all_goals go_wp2_with fail
  all_goals go_ret3
  all_goals
    have HF := ((HD.out.setHb hp (s.bt - 1)).setLn hp 5).drew
    exact ⟨rfl, HF.rep hcap, HF.only⟩

set_option maxHeartbeats 4000000 in
set_option maxRecDepth 100000 in
theorem l5a {w : World} {n L p : Nat} {fb : List Nat} {s : St} (h : Rep w n L fb s) (hp : p < n) (hn : n ≤ 4) (hl : s.ln p = 5) {k : Nat} (hk : s.hb p = (k : Int)) (hk8 : k < 8) (hx : s.tp < s.hb p) :
    Calls Try.prog 7 #[.pointer (some ⟨L, 0, none⟩), .int .i64 p] w (Post n L fb w true (s.pc k) (stepN s p)) := by
  have hst : stepN s p = rest s p := by simp [stepN, hl, put, rest, upd_id, hx]
  rw [hst]
  clear hst
  obtain ⟨bH, cap, rfl, hcap, hLH, hB, rL, rV, rT, rB⟩ := h
  have HD := Lib.hid (Dx.start (T := 41) hp hLH hB rL rV rT rB)
  have c10 : w.cell? ⟨L, 10, none⟩ = some (.slice (some ⟨bH, 0, none⟩) n cap) := hB.cell 10
  have hpn : (p : Int) ≤ (n : Int) - 1 := by omega
  have hpn2 : (p : Int) < n := by omega
  have Hl := Lib.hid hl
  have hLn := hB.lt
  have hne : L ≠ w.heap.size := Nat.ne_of_lt hLn
  clear hB rL rV rT rB hl
  have Hk := Lib.hid hk
  have t0 : decide (s.tp < s.hb p) = true := by simpa using hx
  clear hx hk
  go_enter Try.func7, Try.ntmps7
  go_wp2_with fail
  refine (within_yes (by omega) hpn).mono ?_
  rintro e wi ⟨rfl, rfl⟩
  go_upto_region 5 with fail
  generalize w.alloc (.cells #[.pointer (some ⟨bH, p * 4, none⟩)] 41) = wx at HD ⊢
  clear c10 hLn
  generalize w.heap.size = N at *
  have cN := HD.out.own
  have t8 : wx.cell? ⟨L, 8, none⟩ = some (.int .i64 (s.tp)) := HD.out.top.trans (by simp)
  have t9 : wx.cell? ⟨L, 9, none⟩ = some (.int .i64 (s.bt)) := HD.out.bot.trans (by simp)
  have e0 : wx.cell? ⟨bH, p * 4, none⟩ = some (.int .i64 (5)) := ((HD.out.rL p hp).1).trans (by simp [Hl.out])
  have e1 : wx.cell? ⟨bH, p * 4 + 1, none⟩ = some (.int .i64 (s.vl p)) := ((HD.out.rV p hp).1).trans (by simp [upd])
  have e2 : wx.cell? ⟨bH, p * 4 + 2, none⟩ = some (.int .i64 (s.ht p)) := ((HD.out.rT p hp).1).trans (by simp [upd])
  have e3 : wx.cell? ⟨bH, p * 4 + 3, none⟩ = some (.int .i64 (s.hb p)) := ((HD.out.rB p hp).1).trans (by simp [upd])
  have f8 := HD.out.blk.free 8
  have f9 := HD.out.blk.free 9
  have g0 := (HD.out.rL p hp).2
  have g1 := (HD.out.rV p hp).2
  have g2 := (HD.out.rT p hp).2
  have g3 := (HD.out.rB p hp).2
  simp only at g0 g1 g2 g3
  go_wp2_with fail
  go_region
  go_wp2_with fail
  replace HD := Lib.hid ((HD.out.setHt hp s.tp).drew)
  clear cN t8 t9 e0 e1 e2 e3 f8 f9 g0 g1 g2 g3
  generalize (wx.setCell ⟨bH, p * 4 + 2, none⟩ (.int .i64 s.tp)).drew = wy at HD ⊢
  have cN := HD.out.own
  have t8 : wy.cell? ⟨L, 8, none⟩ = some (.int .i64 (s.tp)) := HD.out.top.trans (by simp)
  have t9 : wy.cell? ⟨L, 9, none⟩ = some (.int .i64 (s.bt)) := HD.out.bot.trans (by simp)
  have e0 : wy.cell? ⟨bH, p * 4, none⟩ = some (.int .i64 (5)) := ((HD.out.rL p hp).1).trans (by simp [Hl.out])
  have e1 : wy.cell? ⟨bH, p * 4 + 1, none⟩ = some (.int .i64 (s.vl p)) := ((HD.out.rV p hp).1).trans (by simp [upd])
  have e2 : wy.cell? ⟨bH, p * 4 + 2, none⟩ = some (.int .i64 (s.tp)) := ((HD.out.rT p hp).1).trans (by simp [upd])
  have e3 : wy.cell? ⟨bH, p * 4 + 3, none⟩ = some (.int .i64 (s.hb p)) := ((HD.out.rB p hp).1).trans (by simp [upd])
  have f8 := HD.out.blk.free 8
  have f9 := HD.out.blk.free 9
  have g0 := (HD.out.rL p hp).2
  have g1 := (HD.out.rV p hp).2
  have g2 := (HD.out.rT p hp).2
  have g3 := (HD.out.rB p hp).2
  simp only at g0 g1 g2 g3
  go_quiet (fail)
  go_wp2_with fail
  replace HD := Lib.hid (HD.out.drewN nq)
  clear cN t8 t9 e0 e1 e2 e3 f8 f9 g0 g1 g2 g3
  generalize wy.drewN nq = wz at HD ⊢
  have cN := HD.out.own
  have t8 : wz.cell? ⟨L, 8, none⟩ = some (.int .i64 (s.tp)) := HD.out.top.trans (by simp)
  have t9 : wz.cell? ⟨L, 9, none⟩ = some (.int .i64 (s.bt)) := HD.out.bot.trans (by simp)
  have e0 : wz.cell? ⟨bH, p * 4, none⟩ = some (.int .i64 (5)) := ((HD.out.rL p hp).1).trans (by simp [Hl.out])
  have e1 : wz.cell? ⟨bH, p * 4 + 1, none⟩ = some (.int .i64 (s.vl p)) := ((HD.out.rV p hp).1).trans (by simp [upd])
  have e2 : wz.cell? ⟨bH, p * 4 + 2, none⟩ = some (.int .i64 (s.tp)) := ((HD.out.rT p hp).1).trans (by simp [upd])
  have e3 : wz.cell? ⟨bH, p * 4 + 3, none⟩ = some (.int .i64 (s.hb p)) := ((HD.out.rB p hp).1).trans (by simp [upd])
  have f8 := HD.out.blk.free 8
  have f9 := HD.out.blk.free 9
  have g0 := (HD.out.rL p hp).2
  have g1 := (HD.out.rV p hp).2
  have g2 := (HD.out.rT p hp).2
  have g3 := (HD.out.rB p hp).2
  simp only at g0 g1 g2 g3
  have pk := HD.out.pcs k hk8
  go_wp2_with fail
  refine (place_at (k := k) Hk.out hk8).mono ?_
  rintro e w' ⟨rfl, rfl⟩
  go_wp2_with fail
  refine (done_any (HD.out) hp).mono ?_
  rintro e w9 ⟨rfl, HF⟩
  clear cN t8 t9 e0 e1 e2 e3 f8 f9 g0 g1 g2 g3
  go_wp2_with fail
  go_ret3
  exact ⟨rfl, (HF.re (by simp [rest, put, upd_upd])).rep hcap, HF.only⟩

set_option maxHeartbeats 4000000 in
set_option maxRecDepth 100000 in
theorem l5b {w : World} {n L p : Nat} {fb : List Nat} {s : St} (h : Rep w n L fb s) (hp : p < n) (hn : n ≤ 4) (hl : s.ln p = 5) (hx : s.hb p = s.tp) :
    Calls Try.prog 7 #[.pointer (some ⟨L, 0, none⟩), .int .i64 p] w (Post n L fb w false (0) (stepN s p)) := by
  have hst : stepN s p = { { s with ht := upd s.ht p s.tp } with ln := upd s.ln p 7 } := by simp [stepN, hl, put, rest, upd_id, hx, upd_self s.hb p hx]
  rw [hst]
  clear hst
  obtain ⟨bH, cap, rfl, hcap, hLH, hB, rL, rV, rT, rB⟩ := h
  have HD := Lib.hid (Dx.start (T := 41) hp hLH hB rL rV rT rB)
  have c10 : w.cell? ⟨L, 10, none⟩ = some (.slice (some ⟨bH, 0, none⟩) n cap) := hB.cell 10
  have hpn : (p : Int) ≤ (n : Int) - 1 := by omega
  have hpn2 : (p : Int) < n := by omega
  have Hl := Lib.hid hl
  have hLn := hB.lt
  have hne : L ≠ w.heap.size := Nat.ne_of_lt hLn
  clear hB rL rV rT rB hl
  have t0 : decide (s.tp < s.hb p) = false := by simp; omega
  have t1 : (s.hb p == s.tp) = true := by simpa using hx
  clear hx
  go_enter Try.func7, Try.ntmps7
  go_wp2_with fail
  refine (within_yes (by omega) hpn).mono ?_
  rintro e wi ⟨rfl, rfl⟩
  go_upto_region 5 with fail
  generalize w.alloc (.cells #[.pointer (some ⟨bH, p * 4, none⟩)] 41) = wx at HD ⊢
  clear c10 hLn
  generalize w.heap.size = N at *
  have cN := HD.out.own
  have t8 : wx.cell? ⟨L, 8, none⟩ = some (.int .i64 (s.tp)) := HD.out.top.trans (by simp)
  have t9 : wx.cell? ⟨L, 9, none⟩ = some (.int .i64 (s.bt)) := HD.out.bot.trans (by simp)
  have e0 : wx.cell? ⟨bH, p * 4, none⟩ = some (.int .i64 (5)) := ((HD.out.rL p hp).1).trans (by simp [Hl.out])
  have e1 : wx.cell? ⟨bH, p * 4 + 1, none⟩ = some (.int .i64 (s.vl p)) := ((HD.out.rV p hp).1).trans (by simp [upd])
  have e2 : wx.cell? ⟨bH, p * 4 + 2, none⟩ = some (.int .i64 (s.ht p)) := ((HD.out.rT p hp).1).trans (by simp [upd])
  have e3 : wx.cell? ⟨bH, p * 4 + 3, none⟩ = some (.int .i64 (s.hb p)) := ((HD.out.rB p hp).1).trans (by simp [upd])
  have f8 := HD.out.blk.free 8
  have f9 := HD.out.blk.free 9
  have g0 := (HD.out.rL p hp).2
  have g1 := (HD.out.rV p hp).2
  have g2 := (HD.out.rT p hp).2
  have g3 := (HD.out.rB p hp).2
  simp only at g0 g1 g2 g3
  go_wp2_with fail
  go_region
  go_wp2_with fail
  replace HD := Lib.hid ((HD.out.setHt hp s.tp).drew)
  clear cN t8 t9 e0 e1 e2 e3 f8 f9 g0 g1 g2 g3
  generalize (wx.setCell ⟨bH, p * 4 + 2, none⟩ (.int .i64 s.tp)).drew = wy at HD ⊢
  have cN := HD.out.own
  have t8 : wy.cell? ⟨L, 8, none⟩ = some (.int .i64 (s.tp)) := HD.out.top.trans (by simp)
  have t9 : wy.cell? ⟨L, 9, none⟩ = some (.int .i64 (s.bt)) := HD.out.bot.trans (by simp)
  have e0 : wy.cell? ⟨bH, p * 4, none⟩ = some (.int .i64 (5)) := ((HD.out.rL p hp).1).trans (by simp [Hl.out])
  have e1 : wy.cell? ⟨bH, p * 4 + 1, none⟩ = some (.int .i64 (s.vl p)) := ((HD.out.rV p hp).1).trans (by simp [upd])
  have e2 : wy.cell? ⟨bH, p * 4 + 2, none⟩ = some (.int .i64 (s.tp)) := ((HD.out.rT p hp).1).trans (by simp [upd])
  have e3 : wy.cell? ⟨bH, p * 4 + 3, none⟩ = some (.int .i64 (s.hb p)) := ((HD.out.rB p hp).1).trans (by simp [upd])
  have f8 := HD.out.blk.free 8
  have f9 := HD.out.blk.free 9
  have g0 := (HD.out.rL p hp).2
  have g1 := (HD.out.rV p hp).2
  have g2 := (HD.out.rT p hp).2
  have g3 := (HD.out.rB p hp).2
  simp only at g0 g1 g2 g3
  go_quiet (fail)
  go_wp2_with fail
  replace HD := Lib.hid (HD.out.drewN nq)
  clear cN t8 t9 e0 e1 e2 e3 f8 f9 g0 g1 g2 g3
  generalize wy.drewN nq = wz at HD ⊢
  have cN := HD.out.own
  have t8 : wz.cell? ⟨L, 8, none⟩ = some (.int .i64 (s.tp)) := HD.out.top.trans (by simp)
  have t9 : wz.cell? ⟨L, 9, none⟩ = some (.int .i64 (s.bt)) := HD.out.bot.trans (by simp)
  have e0 : wz.cell? ⟨bH, p * 4, none⟩ = some (.int .i64 (5)) := ((HD.out.rL p hp).1).trans (by simp [Hl.out])
  have e1 : wz.cell? ⟨bH, p * 4 + 1, none⟩ = some (.int .i64 (s.vl p)) := ((HD.out.rV p hp).1).trans (by simp [upd])
  have e2 : wz.cell? ⟨bH, p * 4 + 2, none⟩ = some (.int .i64 (s.tp)) := ((HD.out.rT p hp).1).trans (by simp [upd])
  have e3 : wz.cell? ⟨bH, p * 4 + 3, none⟩ = some (.int .i64 (s.hb p)) := ((HD.out.rB p hp).1).trans (by simp [upd])
  have f8 := HD.out.blk.free 8
  have f9 := HD.out.blk.free 9
  have g0 := (HD.out.rL p hp).2
  have g1 := (HD.out.rV p hp).2
  have g2 := (HD.out.rT p hp).2
  have g3 := (HD.out.rB p hp).2
  simp only at g0 g1 g2 g3
  go_quiet (fail)
  go_wp2_with fail
  go_ret3
  have HF := (HD.out.drewN nq).setLn hp 7
  exact ⟨rfl, HF.rep hcap, HF.only⟩

set_option maxHeartbeats 4000000 in
set_option maxRecDepth 100000 in
theorem l5c {w : World} {n L p : Nat} {fb : List Nat} {s : St} (h : Rep w n L fb s) (hp : p < n) (hn : n ≤ 4) (hl : s.ln p = 5) (hx : s.hb p < s.tp) :
    Calls Try.prog 7 #[.pointer (some ⟨L, 0, none⟩), .int .i64 p] w (Post n L fb w false (0) (stepN s p)) := by
  have hst : stepN s p = { { s with ht := upd s.ht p s.tp } with ln := upd s.ln p 6 } := by simp [stepN, hl, put, rest, upd_id, show ¬ s.tp < s.hb p by omega, show ¬ s.hb p = s.tp by omega]
  rw [hst]
  clear hst
  obtain ⟨bH, cap, rfl, hcap, hLH, hB, rL, rV, rT, rB⟩ := h
  have HD := Lib.hid (Dx.start (T := 41) hp hLH hB rL rV rT rB)
  have c10 : w.cell? ⟨L, 10, none⟩ = some (.slice (some ⟨bH, 0, none⟩) n cap) := hB.cell 10
  have hpn : (p : Int) ≤ (n : Int) - 1 := by omega
  have hpn2 : (p : Int) < n := by omega
  have Hl := Lib.hid hl
  have hLn := hB.lt
  have hne : L ≠ w.heap.size := Nat.ne_of_lt hLn
  clear hB rL rV rT rB hl
  have t0 : decide (s.tp < s.hb p) = false := by simp; omega
  have t1 : (s.hb p == s.tp) = false := by simp; omega
  clear hx
  go_enter Try.func7, Try.ntmps7
  go_wp2_with fail
  refine (within_yes (by omega) hpn).mono ?_
  rintro e wi ⟨rfl, rfl⟩
  go_upto_region 5 with fail
  generalize w.alloc (.cells #[.pointer (some ⟨bH, p * 4, none⟩)] 41) = wx at HD ⊢
  clear c10 hLn
  generalize w.heap.size = N at *
  have cN := HD.out.own
  have t8 : wx.cell? ⟨L, 8, none⟩ = some (.int .i64 (s.tp)) := HD.out.top.trans (by simp)
  have t9 : wx.cell? ⟨L, 9, none⟩ = some (.int .i64 (s.bt)) := HD.out.bot.trans (by simp)
  have e0 : wx.cell? ⟨bH, p * 4, none⟩ = some (.int .i64 (5)) := ((HD.out.rL p hp).1).trans (by simp [Hl.out])
  have e1 : wx.cell? ⟨bH, p * 4 + 1, none⟩ = some (.int .i64 (s.vl p)) := ((HD.out.rV p hp).1).trans (by simp [upd])
  have e2 : wx.cell? ⟨bH, p * 4 + 2, none⟩ = some (.int .i64 (s.ht p)) := ((HD.out.rT p hp).1).trans (by simp [upd])
  have e3 : wx.cell? ⟨bH, p * 4 + 3, none⟩ = some (.int .i64 (s.hb p)) := ((HD.out.rB p hp).1).trans (by simp [upd])
  have f8 := HD.out.blk.free 8
  have f9 := HD.out.blk.free 9
  have g0 := (HD.out.rL p hp).2
  have g1 := (HD.out.rV p hp).2
  have g2 := (HD.out.rT p hp).2
  have g3 := (HD.out.rB p hp).2
  simp only at g0 g1 g2 g3
  go_wp2_with fail
  go_region
  go_wp2_with fail
  replace HD := Lib.hid ((HD.out.setHt hp s.tp).drew)
  clear cN t8 t9 e0 e1 e2 e3 f8 f9 g0 g1 g2 g3
  generalize (wx.setCell ⟨bH, p * 4 + 2, none⟩ (.int .i64 s.tp)).drew = wy at HD ⊢
  have cN := HD.out.own
  have t8 : wy.cell? ⟨L, 8, none⟩ = some (.int .i64 (s.tp)) := HD.out.top.trans (by simp)
  have t9 : wy.cell? ⟨L, 9, none⟩ = some (.int .i64 (s.bt)) := HD.out.bot.trans (by simp)
  have e0 : wy.cell? ⟨bH, p * 4, none⟩ = some (.int .i64 (5)) := ((HD.out.rL p hp).1).trans (by simp [Hl.out])
  have e1 : wy.cell? ⟨bH, p * 4 + 1, none⟩ = some (.int .i64 (s.vl p)) := ((HD.out.rV p hp).1).trans (by simp [upd])
  have e2 : wy.cell? ⟨bH, p * 4 + 2, none⟩ = some (.int .i64 (s.tp)) := ((HD.out.rT p hp).1).trans (by simp [upd])
  have e3 : wy.cell? ⟨bH, p * 4 + 3, none⟩ = some (.int .i64 (s.hb p)) := ((HD.out.rB p hp).1).trans (by simp [upd])
  have f8 := HD.out.blk.free 8
  have f9 := HD.out.blk.free 9
  have g0 := (HD.out.rL p hp).2
  have g1 := (HD.out.rV p hp).2
  have g2 := (HD.out.rT p hp).2
  have g3 := (HD.out.rB p hp).2
  simp only at g0 g1 g2 g3
  go_quiet (fail)
  go_wp2_with fail
  replace HD := Lib.hid (HD.out.drewN nq)
  clear cN t8 t9 e0 e1 e2 e3 f8 f9 g0 g1 g2 g3
  generalize wy.drewN nq = wz at HD ⊢
  have cN := HD.out.own
  have t8 : wz.cell? ⟨L, 8, none⟩ = some (.int .i64 (s.tp)) := HD.out.top.trans (by simp)
  have t9 : wz.cell? ⟨L, 9, none⟩ = some (.int .i64 (s.bt)) := HD.out.bot.trans (by simp)
  have e0 : wz.cell? ⟨bH, p * 4, none⟩ = some (.int .i64 (5)) := ((HD.out.rL p hp).1).trans (by simp [Hl.out])
  have e1 : wz.cell? ⟨bH, p * 4 + 1, none⟩ = some (.int .i64 (s.vl p)) := ((HD.out.rV p hp).1).trans (by simp [upd])
  have e2 : wz.cell? ⟨bH, p * 4 + 2, none⟩ = some (.int .i64 (s.tp)) := ((HD.out.rT p hp).1).trans (by simp [upd])
  have e3 : wz.cell? ⟨bH, p * 4 + 3, none⟩ = some (.int .i64 (s.hb p)) := ((HD.out.rB p hp).1).trans (by simp [upd])
  have f8 := HD.out.blk.free 8
  have f9 := HD.out.blk.free 9
  have g0 := (HD.out.rL p hp).2
  have g1 := (HD.out.rV p hp).2
  have g2 := (HD.out.rT p hp).2
  have g3 := (HD.out.rB p hp).2
  simp only at g0 g1 g2 g3
  go_quiet (fail)
  go_wp2_with fail
  go_ret3
  have HF := (HD.out.drewN nq).setLn hp 6
  exact ⟨rfl, HF.rep hcap, HF.only⟩

set_option maxHeartbeats 4000000 in
set_option maxRecDepth 100000 in
theorem l6 {w : World} {n L p : Nat} {fb : List Nat} {s : St} (h : Rep w n L fb s) (hp : p < n) (hn : n ≤ 4) (hl : s.ln p = 6)  :
    Calls Try.prog 7 #[.pointer (some ⟨L, 0, none⟩), .int .i64 p] w (Post n L fb w true (-1) (stepN s p)) := by
  have hst : stepN s p = { rest s p with bt := s.ht p } := by simp [stepN, hl, put, rest, upd_id]
  rw [hst]
  clear hst
  obtain ⟨bH, cap, rfl, hcap, hLH, hB, rL, rV, rT, rB⟩ := h
  have HD := Lib.hid (Dx.start (T := 41) hp hLH hB rL rV rT rB)
  have c10 : w.cell? ⟨L, 10, none⟩ = some (.slice (some ⟨bH, 0, none⟩) n cap) := hB.cell 10
  have hpn : (p : Int) ≤ (n : Int) - 1 := by omega
  have hpn2 : (p : Int) < n := by omega
  have Hl := Lib.hid hl
  have hLn := hB.lt
  have hne : L ≠ w.heap.size := Nat.ne_of_lt hLn
  clear hB rL rV rT rB hl
  go_enter Try.func7, Try.ntmps7
  go_wp2_with fail
  refine (within_yes (by omega) hpn).mono ?_
  rintro e wi ⟨rfl, rfl⟩
  go_upto_region 5 with fail
  generalize w.alloc (.cells #[.pointer (some ⟨bH, p * 4, none⟩)] 41) = wx at HD ⊢
  clear c10 hLn
  generalize w.heap.size = N at *
  have cN := HD.out.own
  have t8 : wx.cell? ⟨L, 8, none⟩ = some (.int .i64 (s.tp)) := HD.out.top.trans (by simp)
  have t9 : wx.cell? ⟨L, 9, none⟩ = some (.int .i64 (s.bt)) := HD.out.bot.trans (by simp)
  have e0 : wx.cell? ⟨bH, p * 4, none⟩ = some (.int .i64 (6)) := ((HD.out.rL p hp).1).trans (by simp [Hl.out])
  have e1 : wx.cell? ⟨bH, p * 4 + 1, none⟩ = some (.int .i64 (s.vl p)) := ((HD.out.rV p hp).1).trans (by simp [upd])
  have e2 : wx.cell? ⟨bH, p * 4 + 2, none⟩ = some (.int .i64 (s.ht p)) := ((HD.out.rT p hp).1).trans (by simp [upd])
  have e3 : wx.cell? ⟨bH, p * 4 + 3, none⟩ = some (.int .i64 (s.hb p)) := ((HD.out.rB p hp).1).trans (by simp [upd])
  have f8 := HD.out.blk.free 8
  have f9 := HD.out.blk.free 9
  have g0 := (HD.out.rL p hp).2
  have g1 := (HD.out.rV p hp).2
  have g2 := (HD.out.rT p hp).2
  have g3 := (HD.out.rB p hp).2
  simp only at g0 g1 g2 g3
  go_wp2_with fail
  refine (done_any (HD.out.setBot (s.ht p)) hp).mono ?_
  rintro e w9 ⟨rfl, HF⟩
  clear cN t8 t9 e0 e1 e2 e3 f8 f9 g0 g1 g2 g3
  go_wp2_with fail
  go_ret3
  exact ⟨rfl, (HF.re (by rfl)).rep hcap, HF.only⟩

set_option maxHeartbeats 4000000 in
set_option maxRecDepth 100000 in
theorem l7a {w : World} {n L p : Nat} {fb : List Nat} {s : St} (h : Rep w n L fb s) (hp : p < n) (hn : n ≤ 4) (hl : s.ln p = 7) {k : Nat} (hk : s.hb p = (k : Int)) (hk8 : k < 8) (hx : s.tp = s.ht p) (hb : 0 ≤ s.ht p ∧ s.ht p ≤ 100) :
    Calls Try.prog 7 #[.pointer (some ⟨L, 0, none⟩), .int .i64 p] w (Post n L fb w false (0) (stepN s p)) := by
  have hst : stepN s p = { { { s with tp := s.ht p + 1 } with vl := upd s.vl p (s.pc k) } with ln := upd s.ln p 8 } := by simp [stepN, hl, put, rest, upd_id, hx, hk, upd_self s.hb p hk]
  rw [hst]
  clear hst
  obtain ⟨bH, cap, rfl, hcap, hLH, hB, rL, rV, rT, rB⟩ := h
  have HD := Lib.hid (Dx.start (T := 41) hp hLH hB rL rV rT rB)
  have c10 : w.cell? ⟨L, 10, none⟩ = some (.slice (some ⟨bH, 0, none⟩) n cap) := hB.cell 10
  have hpn : (p : Int) ≤ (n : Int) - 1 := by omega
  have hpn2 : (p : Int) < n := by omega
  have Hl := Lib.hid hl
  have hLn := hB.lt
  have hne : L ≠ w.heap.size := Nat.ne_of_lt hLn
  clear hB rL rV rT rB hl
  have Hk := Lib.hid hk
  have b1 := hb.1
  have b2 := hb.2
  have iw : IntKind.i64.wrap (s.ht p + 1) = s.ht p + 1 := IntWalk.i64_in _ (by omega)
  have Hx := Lib.hid hx
  clear hx hk hb
  go_enter Try.func7, Try.ntmps7
  go_wp2_with fail
  refine (within_yes (by omega) hpn).mono ?_
  rintro e wi ⟨rfl, rfl⟩
  go_upto_region 5 with fail
  generalize w.alloc (.cells #[.pointer (some ⟨bH, p * 4, none⟩)] 41) = wx at HD ⊢
  clear c10 hLn
  generalize w.heap.size = N at *
  have cN := HD.out.own
  have t8 : wx.cell? ⟨L, 8, none⟩ = some (.int .i64 (s.tp)) := HD.out.top.trans (by simp)
  have t9 : wx.cell? ⟨L, 9, none⟩ = some (.int .i64 (s.bt)) := HD.out.bot.trans (by simp)
  have e0 : wx.cell? ⟨bH, p * 4, none⟩ = some (.int .i64 (7)) := ((HD.out.rL p hp).1).trans (by simp [Hl.out])
  have e1 : wx.cell? ⟨bH, p * 4 + 1, none⟩ = some (.int .i64 (s.vl p)) := ((HD.out.rV p hp).1).trans (by simp [upd])
  have e2 : wx.cell? ⟨bH, p * 4 + 2, none⟩ = some (.int .i64 (s.ht p)) := ((HD.out.rT p hp).1).trans (by simp [upd])
  have e3 : wx.cell? ⟨bH, p * 4 + 3, none⟩ = some (.int .i64 (s.hb p)) := ((HD.out.rB p hp).1).trans (by simp [upd])
  have f8 := HD.out.blk.free 8
  have f9 := HD.out.blk.free 9
  have g0 := (HD.out.rL p hp).2
  have g1 := (HD.out.rV p hp).2
  have g2 := (HD.out.rT p hp).2
  have g3 := (HD.out.rB p hp).2
  simp only at g0 g1 g2 g3
  go_wp2_with fail
  replace HD := Lib.hid (HD.out.setVl hp (-1))
  clear cN t8 t9 e0 e1 e2 e3 f8 f9 g0 g1 g2 g3
  generalize wx.setCell ⟨bH, p * 4 + 1, none⟩ (.int .i64 (-1)) = wy at HD ⊢
  have cN := HD.out.own
  have t8 : wy.cell? ⟨L, 8, none⟩ = some (.int .i64 (s.tp)) := HD.out.top.trans (by simp)
  have t9 : wy.cell? ⟨L, 9, none⟩ = some (.int .i64 (s.bt)) := HD.out.bot.trans (by simp)
  have e0 : wy.cell? ⟨bH, p * 4, none⟩ = some (.int .i64 (7)) := ((HD.out.rL p hp).1).trans (by simp [Hl.out])
  have e1 : wy.cell? ⟨bH, p * 4 + 1, none⟩ = some (.int .i64 (-1)) := ((HD.out.rV p hp).1).trans (by simp [upd])
  have e2 : wy.cell? ⟨bH, p * 4 + 2, none⟩ = some (.int .i64 (s.ht p)) := ((HD.out.rT p hp).1).trans (by simp [upd])
  have e3 : wy.cell? ⟨bH, p * 4 + 3, none⟩ = some (.int .i64 (s.hb p)) := ((HD.out.rB p hp).1).trans (by simp [upd])
  have f8 := HD.out.blk.free 8
  have f9 := HD.out.blk.free 9
  have g0 := (HD.out.rL p hp).2
  have g1 := (HD.out.rV p hp).2
  have g2 := (HD.out.rT p hp).2
  have g3 := (HD.out.rB p hp).2
  simp only at g0 g1 g2 g3
  replace HD := Lib.hid HD.out.drew
  rw [Hx.out] at t8
  go_region_held3 (fun w' => w'.cell? ⟨N, 0, none⟩ = some (.pointer (some ⟨bH, p * 4, none⟩)) ∧ w'.cell? ⟨bH, p * 4 + 2, none⟩ = some (.int .i64 (s.ht p)))
    (first | (with_reducible exact ⟨cN, e2⟩) | exact ⟨HD.out.own, ((HD.out.rT p hp).1).trans (by simp [upd])⟩)
    ((go_at_call 16; refine (cas_yes (o := s.ht p) ?_ ?_).mono ?_; (simpa using t8); (simpa using f8); rintro e w1 ⟨rfl, hw1⟩; replace HD := Lib.hid (show Dx w N n L bH cap p _ w1 from hw1 ▸ HD.out.setTop (s.ht p + 1)); clear hw1))
  clear t8 t9 e0 e1 e2 e3 f8 f9 g0 g1 g2 g3 cN iw
  have cN := HD.out.own
  have t8 : w1.cell? ⟨L, 8, none⟩ = some (.int .i64 (s.ht p + 1)) := HD.out.top.trans (by simp)
  have t9 : w1.cell? ⟨L, 9, none⟩ = some (.int .i64 (s.bt)) := HD.out.bot.trans (by simp)
  have e0 : w1.cell? ⟨bH, p * 4, none⟩ = some (.int .i64 (7)) := ((HD.out.rL p hp).1).trans (by simp [Hl.out])
  have e1 : w1.cell? ⟨bH, p * 4 + 1, none⟩ = some (.int .i64 (-1)) := ((HD.out.rV p hp).1).trans (by simp [upd])
  have e2 : w1.cell? ⟨bH, p * 4 + 2, none⟩ = some (.int .i64 (s.ht p)) := ((HD.out.rT p hp).1).trans (by simp [upd])
  have e3 : w1.cell? ⟨bH, p * 4 + 3, none⟩ = some (.int .i64 (s.hb p)) := ((HD.out.rB p hp).1).trans (by simp [upd])
  have f8 := HD.out.blk.free 8
  have f9 := HD.out.blk.free 9
  have g0 := (HD.out.rL p hp).2
  have g1 := (HD.out.rV p hp).2
  have g2 := (HD.out.rT p hp).2
  have g3 := (HD.out.rB p hp).2
  simp only at g0 g1 g2 g3
  have pk := HD.out.pcs k hk8
  have fk := HD.out.blk.free k
  rw [Hk.out] at e3
  go_wp2_with fail
  replace HD := Lib.hid HD.out.drew
  have u0 : w1.drew.cell? ⟨N, 0, none⟩ = some (.pointer (some ⟨bH, p * 4, none⟩)) := HD.out.own
  have v0 : (w1.drew.setCell ⟨bH, p * 4 + 1, none⟩ (.int .i64 (s.pc k))).cell? ⟨N, 0, none⟩ = some (.pointer (some ⟨bH, p * 4, none⟩)) := (HD.out.setVl hp (s.pc k)).own
  have u1 : w1.drew.cell? ⟨bH, p * 4 + 3, none⟩ = some (.int .i64 (k : Int)) := ((HD.out.rB p hp).1).trans (by simp [Hk.out])
  have v1 : (w1.drew.setCell ⟨bH, p * 4 + 1, none⟩ (.int .i64 (s.pc k))).cell? ⟨bH, p * 4 + 3, none⟩ = some (.int .i64 (k : Int)) := (((HD.out.setVl hp (s.pc k)).rB p hp).1).trans (by simp [Hk.out])
  have u2 : w1.drew.cell? ⟨L, k, none⟩ = some (.int .i64 (s.pc k)) := HD.out.pcs k hk8
  have v2 : (w1.drew.setCell ⟨bH, p * 4 + 1, none⟩ (.int .i64 (s.pc k))).cell? ⟨L, k, none⟩ = some (.int .i64 (s.pc k)) := (HD.out.setVl hp (s.pc k)).pcs k hk8
  go_region_held3 (fun w' => w'.cell? ⟨N, 0, none⟩ = some (.pointer (some ⟨bH, p * 4, none⟩)) ∧ w'.cell? ⟨bH, p * 4 + 3, none⟩ = some (.int .i64 (k : Int)) ∧ w'.cell? ⟨L, k, none⟩ = some (.int .i64 (s.pc k)))
    (first | (with_reducible exact ⟨u0, u1, u2⟩) | (with_reducible exact ⟨v0, v1, v2⟩) | exact ⟨u0, u1, u2⟩ | exact ⟨v0, v1, v2⟩)
    ((go_at_call 15; refine (place_at (k := k) rfl hk8).mono ?_; rintro e w' ⟨rfl, rfl⟩))
  go_wp2_with fail
  go_ret3
  have HF := ((HD.out.setVl hp (s.pc k)).setLn hp 8).re (s' := { { { s with tp := s.ht p + 1 } with vl := upd s.vl p (s.pc k) } with ln := upd s.ln p 8 }) (by simp [upd_upd])
  exact ⟨rfl, HF.rep hcap, HF.only⟩

set_option maxHeartbeats 4000000 in
set_option maxRecDepth 100000 in
theorem l7b {w : World} {n L p : Nat} {fb : List Nat} {s : St} (h : Rep w n L fb s) (hp : p < n) (hn : n ≤ 4) (hl : s.ln p = 7) (hx : ¬ s.tp = s.ht p) (hb : -1 ≤ s.ht p ∧ s.ht p ≤ 100) :
    Calls Try.prog 7 #[.pointer (some ⟨L, 0, none⟩), .int .i64 p] w (Post n L fb w false (0) (stepN s p)) := by
  have hst : stepN s p = { { s with vl := upd s.vl p (-1) } with ln := upd s.ln p 8 } := by simp [stepN, hl, put, rest, upd_id, hx]
  rw [hst]
  clear hst
  obtain ⟨bH, cap, rfl, hcap, hLH, hB, rL, rV, rT, rB⟩ := h
  have HD := Lib.hid (Dx.start (T := 41) hp hLH hB rL rV rT rB)
  have c10 : w.cell? ⟨L, 10, none⟩ = some (.slice (some ⟨bH, 0, none⟩) n cap) := hB.cell 10
  have hpn : (p : Int) ≤ (n : Int) - 1 := by omega
  have hpn2 : (p : Int) < n := by omega
  have Hl := Lib.hid hl
  have hLn := hB.lt
  have hne : L ≠ w.heap.size := Nat.ne_of_lt hLn
  clear hB rL rV rT rB hl
  have b1 := hb.1
  have b2 := hb.2
  have iw : IntKind.i64.wrap (s.ht p + 1) = s.ht p + 1 := IntWalk.i64_in _ (by omega)
  have Hx := Lib.hid hx
  clear hx hb
  go_enter Try.func7, Try.ntmps7
  go_wp2_with fail
  refine (within_yes (by omega) hpn).mono ?_
  rintro e wi ⟨rfl, rfl⟩
  go_upto_region 5 with fail
  generalize w.alloc (.cells #[.pointer (some ⟨bH, p * 4, none⟩)] 41) = wx at HD ⊢
  clear c10 hLn
  generalize w.heap.size = N at *
  have cN := HD.out.own
  have t8 : wx.cell? ⟨L, 8, none⟩ = some (.int .i64 (s.tp)) := HD.out.top.trans (by simp)
  have t9 : wx.cell? ⟨L, 9, none⟩ = some (.int .i64 (s.bt)) := HD.out.bot.trans (by simp)
  have e0 : wx.cell? ⟨bH, p * 4, none⟩ = some (.int .i64 (7)) := ((HD.out.rL p hp).1).trans (by simp [Hl.out])
  have e1 : wx.cell? ⟨bH, p * 4 + 1, none⟩ = some (.int .i64 (s.vl p)) := ((HD.out.rV p hp).1).trans (by simp [upd])
  have e2 : wx.cell? ⟨bH, p * 4 + 2, none⟩ = some (.int .i64 (s.ht p)) := ((HD.out.rT p hp).1).trans (by simp [upd])
  have e3 : wx.cell? ⟨bH, p * 4 + 3, none⟩ = some (.int .i64 (s.hb p)) := ((HD.out.rB p hp).1).trans (by simp [upd])
  have f8 := HD.out.blk.free 8
  have f9 := HD.out.blk.free 9
  have g0 := (HD.out.rL p hp).2
  have g1 := (HD.out.rV p hp).2
  have g2 := (HD.out.rT p hp).2
  have g3 := (HD.out.rB p hp).2
  simp only at g0 g1 g2 g3
  go_wp2_with fail
  replace HD := Lib.hid (HD.out.setVl hp (-1))
  clear cN t8 t9 e0 e1 e2 e3 f8 f9 g0 g1 g2 g3
  generalize wx.setCell ⟨bH, p * 4 + 1, none⟩ (.int .i64 (-1)) = wy at HD ⊢
  have cN := HD.out.own
  have t8 : wy.cell? ⟨L, 8, none⟩ = some (.int .i64 (s.tp)) := HD.out.top.trans (by simp)
  have t9 : wy.cell? ⟨L, 9, none⟩ = some (.int .i64 (s.bt)) := HD.out.bot.trans (by simp)
  have e0 : wy.cell? ⟨bH, p * 4, none⟩ = some (.int .i64 (7)) := ((HD.out.rL p hp).1).trans (by simp [Hl.out])
  have e1 : wy.cell? ⟨bH, p * 4 + 1, none⟩ = some (.int .i64 (-1)) := ((HD.out.rV p hp).1).trans (by simp [upd])
  have e2 : wy.cell? ⟨bH, p * 4 + 2, none⟩ = some (.int .i64 (s.ht p)) := ((HD.out.rT p hp).1).trans (by simp [upd])
  have e3 : wy.cell? ⟨bH, p * 4 + 3, none⟩ = some (.int .i64 (s.hb p)) := ((HD.out.rB p hp).1).trans (by simp [upd])
  have f8 := HD.out.blk.free 8
  have f9 := HD.out.blk.free 9
  have g0 := (HD.out.rL p hp).2
  have g1 := (HD.out.rV p hp).2
  have g2 := (HD.out.rT p hp).2
  have g3 := (HD.out.rB p hp).2
  simp only at g0 g1 g2 g3
  replace HD := Lib.hid HD.out.drew
  go_region_held3 (fun w' => w'.cell? ⟨N, 0, none⟩ = some (.pointer (some ⟨bH, p * 4, none⟩)) ∧ w'.cell? ⟨bH, p * 4 + 2, none⟩ = some (.int .i64 (s.ht p)))
    (first | (with_reducible exact ⟨cN, e2⟩) | exact ⟨HD.out.own, ((HD.out.rT p hp).1).trans (by simp [upd])⟩)
    ((go_at_call 16; refine (cas_no (o := s.ht p) (u := s.tp) ?_ Hx.out).mono ?_; (simpa using t8); rintro e w1 ⟨rfl, hw1⟩; replace HD := Lib.hid (show Dx w N n L bH cap p _ w1 from hw1 ▸ HD.out); clear hw1))
  clear t8 t9 e0 e1 e2 e3 f8 f9 g0 g1 g2 g3 cN iw
  have cN := HD.out.own
  have t8 : w1.cell? ⟨L, 8, none⟩ = some (.int .i64 (s.tp)) := HD.out.top.trans (by simp)
  have t9 : w1.cell? ⟨L, 9, none⟩ = some (.int .i64 (s.bt)) := HD.out.bot.trans (by simp)
  have e0 : w1.cell? ⟨bH, p * 4, none⟩ = some (.int .i64 (7)) := ((HD.out.rL p hp).1).trans (by simp [Hl.out])
  have e1 : w1.cell? ⟨bH, p * 4 + 1, none⟩ = some (.int .i64 (-1)) := ((HD.out.rV p hp).1).trans (by simp [upd])
  have e2 : w1.cell? ⟨bH, p * 4 + 2, none⟩ = some (.int .i64 (s.ht p)) := ((HD.out.rT p hp).1).trans (by simp [upd])
  have e3 : w1.cell? ⟨bH, p * 4 + 3, none⟩ = some (.int .i64 (s.hb p)) := ((HD.out.rB p hp).1).trans (by simp [upd])
  have f8 := HD.out.blk.free 8
  have f9 := HD.out.blk.free 9
  have g0 := (HD.out.rL p hp).2
  have g1 := (HD.out.rV p hp).2
  have g2 := (HD.out.rT p hp).2
  have g3 := (HD.out.rB p hp).2
  simp only at g0 g1 g2 g3
  go_wp2_with fail
  go_ret3
  have HF := HD.out.setLn hp 8
  exact ⟨rfl, HF.rep hcap, HF.only⟩

set_option maxHeartbeats 4000000 in
set_option maxRecDepth 100000 in
theorem l8 {w : World} {n L p : Nat} {fb : List Nat} {s : St} (h : Rep w n L fb s) (hp : p < n) (hn : n ≤ 4) (hl : s.ln p = 8) (hb : 0 ≤ s.ht p + 1 ∧ s.ht p ≤ 100) :
    Calls Try.prog 7 #[.pointer (some ⟨L, 0, none⟩), .int .i64 p] w (Post n L fb w true (s.vl p) (stepN s p)) := by
  have hst : stepN s p = { rest s p with bt := s.ht p + 1 } := by simp [stepN, hl, put, rest, upd_id]
  rw [hst]
  clear hst
  obtain ⟨bH, cap, rfl, hcap, hLH, hB, rL, rV, rT, rB⟩ := h
  have HD := Lib.hid (Dx.start (T := 41) hp hLH hB rL rV rT rB)
  have c10 : w.cell? ⟨L, 10, none⟩ = some (.slice (some ⟨bH, 0, none⟩) n cap) := hB.cell 10
  have hpn : (p : Int) ≤ (n : Int) - 1 := by omega
  have hpn2 : (p : Int) < n := by omega
  have Hl := Lib.hid hl
  have hLn := hB.lt
  have hne : L ≠ w.heap.size := Nat.ne_of_lt hLn
  clear hB rL rV rT rB hl
  have b1 := hb.1
  have b2 := hb.2
  clear hb
  go_enter Try.func7, Try.ntmps7
  go_wp2_with fail
  refine (within_yes (by omega) hpn).mono ?_
  rintro e wi ⟨rfl, rfl⟩
  go_upto_region 5 with fail
  generalize w.alloc (.cells #[.pointer (some ⟨bH, p * 4, none⟩)] 41) = wx at HD ⊢
  clear c10 hLn
  generalize w.heap.size = N at *
  have cN := HD.out.own
  have t8 : wx.cell? ⟨L, 8, none⟩ = some (.int .i64 (s.tp)) := HD.out.top.trans (by simp)
  have t9 : wx.cell? ⟨L, 9, none⟩ = some (.int .i64 (s.bt)) := HD.out.bot.trans (by simp)
  have e0 : wx.cell? ⟨bH, p * 4, none⟩ = some (.int .i64 (8)) := ((HD.out.rL p hp).1).trans (by simp [Hl.out])
  have e1 : wx.cell? ⟨bH, p * 4 + 1, none⟩ = some (.int .i64 (s.vl p)) := ((HD.out.rV p hp).1).trans (by simp [upd])
  have e2 : wx.cell? ⟨bH, p * 4 + 2, none⟩ = some (.int .i64 (s.ht p)) := ((HD.out.rT p hp).1).trans (by simp [upd])
  have e3 : wx.cell? ⟨bH, p * 4 + 3, none⟩ = some (.int .i64 (s.hb p)) := ((HD.out.rB p hp).1).trans (by simp [upd])
  have f8 := HD.out.blk.free 8
  have f9 := HD.out.blk.free 9
  have g0 := (HD.out.rL p hp).2
  have g1 := (HD.out.rV p hp).2
  have g2 := (HD.out.rT p hp).2
  have g3 := (HD.out.rB p hp).2
  simp only at g0 g1 g2 g3
  go_wp2_with fail
  refine (done_any (HD.out.setBot (s.ht p + 1)) hp).mono ?_
  rintro e w9 ⟨rfl, HF⟩
  clear cN t8 t9 e0 e1 e2 e3 f8 f9 g0 g1 g2 g3
  go_wp2_with fail
  go_ret3
  exact ⟨rfl, (HF.re (by rfl)).rep hcap, HF.only⟩

set_option maxHeartbeats 4000000 in
set_option maxRecDepth 100000 in
theorem l9 {w : World} {n L p : Nat} {fb : List Nat} {s : St} (h : Rep w n L fb s) (hp : p < n) (hn : n ≤ 4) (hl : s.ln p = 9)  :
    Calls Try.prog 7 #[.pointer (some ⟨L, 0, none⟩), .int .i64 p] w (Post n L fb w false (0) (stepN s p)) := by
  have hst : stepN s p = { { s with ht := upd s.ht p s.tp } with ln := upd s.ln p 10 } := by simp [stepN, hl, put, rest, upd_id]
  rw [hst]
  clear hst
  obtain ⟨bH, cap, rfl, hcap, hLH, hB, rL, rV, rT, rB⟩ := h
  have HD := Lib.hid (Dx.start (T := 41) hp hLH hB rL rV rT rB)
  have c10 : w.cell? ⟨L, 10, none⟩ = some (.slice (some ⟨bH, 0, none⟩) n cap) := hB.cell 10
  have hpn : (p : Int) ≤ (n : Int) - 1 := by omega
  have hpn2 : (p : Int) < n := by omega
  have Hl := Lib.hid hl
  have hLn := hB.lt
  have hne : L ≠ w.heap.size := Nat.ne_of_lt hLn
  clear hB rL rV rT rB hl
  go_enter Try.func7, Try.ntmps7
  go_wp2_with fail
  refine (within_yes (by omega) hpn).mono ?_
  rintro e wi ⟨rfl, rfl⟩
  go_upto_region 5 with fail
  generalize w.alloc (.cells #[.pointer (some ⟨bH, p * 4, none⟩)] 41) = wx at HD ⊢
  clear c10 hLn
  generalize w.heap.size = N at *
  have cN := HD.out.own
  have t8 : wx.cell? ⟨L, 8, none⟩ = some (.int .i64 (s.tp)) := HD.out.top.trans (by simp)
  have t9 : wx.cell? ⟨L, 9, none⟩ = some (.int .i64 (s.bt)) := HD.out.bot.trans (by simp)
  have e0 : wx.cell? ⟨bH, p * 4, none⟩ = some (.int .i64 (9)) := ((HD.out.rL p hp).1).trans (by simp [Hl.out])
  have e1 : wx.cell? ⟨bH, p * 4 + 1, none⟩ = some (.int .i64 (s.vl p)) := ((HD.out.rV p hp).1).trans (by simp [upd])
  have e2 : wx.cell? ⟨bH, p * 4 + 2, none⟩ = some (.int .i64 (s.ht p)) := ((HD.out.rT p hp).1).trans (by simp [upd])
  have e3 : wx.cell? ⟨bH, p * 4 + 3, none⟩ = some (.int .i64 (s.hb p)) := ((HD.out.rB p hp).1).trans (by simp [upd])
  have f8 := HD.out.blk.free 8
  have f9 := HD.out.blk.free 9
  have g0 := (HD.out.rL p hp).2
  have g1 := (HD.out.rV p hp).2
  have g2 := (HD.out.rT p hp).2
  have g3 := (HD.out.rB p hp).2
  simp only at g0 g1 g2 g3
  go_wp2_with fail
  go_region
  all_goals go_wp2_with fail
  all_goals go_ret3
  all_goals
    have HF := ((HD.out.setHt hp s.tp).setLn hp 10).drew
    exact ⟨rfl, HF.rep hcap, HF.only⟩

set_option maxHeartbeats 4000000 in
set_option maxRecDepth 100000 in
theorem l10a {w : World} {n L p : Nat} {fb : List Nat} {s : St} (h : Rep w n L fb s) (hp : p < n) (hn : n ≤ 4) (hl : s.ln p = 10) (hx : s.bt ≤ s.ht p) :
    Calls Try.prog 7 #[.pointer (some ⟨L, 0, none⟩), .int .i64 p] w (Post n L fb w true (-1) (stepN s p)) := by
  have hst : stepN s p = rest s p := by simp [stepN, hl, put, rest, upd_id, hx]
  rw [hst]
  clear hst
  obtain ⟨bH, cap, rfl, hcap, hLH, hB, rL, rV, rT, rB⟩ := h
  have HD := Lib.hid (Dx.start (T := 41) hp hLH hB rL rV rT rB)
  have c10 : w.cell? ⟨L, 10, none⟩ = some (.slice (some ⟨bH, 0, none⟩) n cap) := hB.cell 10
  have hpn : (p : Int) ≤ (n : Int) - 1 := by omega
  have hpn2 : (p : Int) < n := by omega
  have Hl := Lib.hid hl
  have hLn := hB.lt
  have hne : L ≠ w.heap.size := Nat.ne_of_lt hLn
  clear hB rL rV rT rB hl
  have t0 : decide (s.bt ≤ s.ht p) = true := by simpa using hx
  clear hx
  go_enter Try.func7, Try.ntmps7
  go_wp2_with fail
  refine (within_yes (by omega) hpn).mono ?_
  rintro e wi ⟨rfl, rfl⟩
  go_upto_region 5 with fail
  generalize w.alloc (.cells #[.pointer (some ⟨bH, p * 4, none⟩)] 41) = wx at HD ⊢
  clear c10 hLn
  generalize w.heap.size = N at *
  have cN := HD.out.own
  have t8 : wx.cell? ⟨L, 8, none⟩ = some (.int .i64 (s.tp)) := HD.out.top.trans (by simp)
  have t9 : wx.cell? ⟨L, 9, none⟩ = some (.int .i64 (s.bt)) := HD.out.bot.trans (by simp)
  have e0 : wx.cell? ⟨bH, p * 4, none⟩ = some (.int .i64 (10)) := ((HD.out.rL p hp).1).trans (by simp [Hl.out])
  have e1 : wx.cell? ⟨bH, p * 4 + 1, none⟩ = some (.int .i64 (s.vl p)) := ((HD.out.rV p hp).1).trans (by simp [upd])
  have e2 : wx.cell? ⟨bH, p * 4 + 2, none⟩ = some (.int .i64 (s.ht p)) := ((HD.out.rT p hp).1).trans (by simp [upd])
  have e3 : wx.cell? ⟨bH, p * 4 + 3, none⟩ = some (.int .i64 (s.hb p)) := ((HD.out.rB p hp).1).trans (by simp [upd])
  have f8 := HD.out.blk.free 8
  have f9 := HD.out.blk.free 9
  have g0 := (HD.out.rL p hp).2
  have g1 := (HD.out.rV p hp).2
  have g2 := (HD.out.rT p hp).2
  have g3 := (HD.out.rB p hp).2
  simp only at g0 g1 g2 g3
  go_wp2_with fail
  go_quiet (fail)
  go_wp2_with fail
  replace HD := Lib.hid (HD.out.drewN nq)
  clear cN t8 t9 e0 e1 e2 e3 f8 f9 g0 g1 g2 g3
  generalize wx.drewN nq = wz at HD ⊢
  have cN := HD.out.own
  have t8 : wz.cell? ⟨L, 8, none⟩ = some (.int .i64 (s.tp)) := HD.out.top.trans (by simp)
  have t9 : wz.cell? ⟨L, 9, none⟩ = some (.int .i64 (s.bt)) := HD.out.bot.trans (by simp)
  have e0 : wz.cell? ⟨bH, p * 4, none⟩ = some (.int .i64 (10)) := ((HD.out.rL p hp).1).trans (by simp [Hl.out])
  have e1 : wz.cell? ⟨bH, p * 4 + 1, none⟩ = some (.int .i64 (s.vl p)) := ((HD.out.rV p hp).1).trans (by simp [upd])
  have e2 : wz.cell? ⟨bH, p * 4 + 2, none⟩ = some (.int .i64 (s.ht p)) := ((HD.out.rT p hp).1).trans (by simp [upd])
  have e3 : wz.cell? ⟨bH, p * 4 + 3, none⟩ = some (.int .i64 (s.hb p)) := ((HD.out.rB p hp).1).trans (by simp [upd])
  have f8 := HD.out.blk.free 8
  have f9 := HD.out.blk.free 9
  have g0 := (HD.out.rL p hp).2
  have g1 := (HD.out.rV p hp).2
  have g2 := (HD.out.rT p hp).2
  have g3 := (HD.out.rB p hp).2
  simp only at g0 g1 g2 g3
  go_wp2_with fail
  refine (done_any (HD.out) hp).mono ?_
  rintro e w9 ⟨rfl, HF⟩
  clear cN t8 t9 e0 e1 e2 e3 f8 f9 g0 g1 g2 g3
  go_wp2_with fail
  go_ret3
  exact ⟨rfl, (HF.re (by rfl)).rep hcap, HF.only⟩

set_option maxHeartbeats 4000000 in
set_option maxRecDepth 100000 in
theorem l10b {w : World} {n L p : Nat} {fb : List Nat} {s : St} (h : Rep w n L fb s) (hp : p < n) (hn : n ≤ 4) (hl : s.ln p = 10) (hx : ¬ s.bt ≤ s.ht p) :
    Calls Try.prog 7 #[.pointer (some ⟨L, 0, none⟩), .int .i64 p] w (Post n L fb w false (0) (stepN s p)) := by
  have hst : stepN s p = { s with ln := upd s.ln p 11 } := by simp [stepN, hl, put, rest, upd_id, hx]
  rw [hst]
  clear hst
  obtain ⟨bH, cap, rfl, hcap, hLH, hB, rL, rV, rT, rB⟩ := h
  have HD := Lib.hid (Dx.start (T := 41) hp hLH hB rL rV rT rB)
  have c10 : w.cell? ⟨L, 10, none⟩ = some (.slice (some ⟨bH, 0, none⟩) n cap) := hB.cell 10
  have hpn : (p : Int) ≤ (n : Int) - 1 := by omega
  have hpn2 : (p : Int) < n := by omega
  have Hl := Lib.hid hl
  have hLn := hB.lt
  have hne : L ≠ w.heap.size := Nat.ne_of_lt hLn
  clear hB rL rV rT rB hl
  have t0 : decide (s.bt ≤ s.ht p) = false := by simpa using hx
  clear hx
  go_enter Try.func7, Try.ntmps7
  go_wp2_with fail
  refine (within_yes (by omega) hpn).mono ?_
  rintro e wi ⟨rfl, rfl⟩
  go_upto_region 5 with fail
  generalize w.alloc (.cells #[.pointer (some ⟨bH, p * 4, none⟩)] 41) = wx at HD ⊢
  clear c10 hLn
  generalize w.heap.size = N at *
  have cN := HD.out.own
  have t8 : wx.cell? ⟨L, 8, none⟩ = some (.int .i64 (s.tp)) := HD.out.top.trans (by simp)
  have t9 : wx.cell? ⟨L, 9, none⟩ = some (.int .i64 (s.bt)) := HD.out.bot.trans (by simp)
  have e0 : wx.cell? ⟨bH, p * 4, none⟩ = some (.int .i64 (10)) := ((HD.out.rL p hp).1).trans (by simp [Hl.out])
  have e1 : wx.cell? ⟨bH, p * 4 + 1, none⟩ = some (.int .i64 (s.vl p)) := ((HD.out.rV p hp).1).trans (by simp [upd])
  have e2 : wx.cell? ⟨bH, p * 4 + 2, none⟩ = some (.int .i64 (s.ht p)) := ((HD.out.rT p hp).1).trans (by simp [upd])
  have e3 : wx.cell? ⟨bH, p * 4 + 3, none⟩ = some (.int .i64 (s.hb p)) := ((HD.out.rB p hp).1).trans (by simp [upd])
  have f8 := HD.out.blk.free 8
  have f9 := HD.out.blk.free 9
  have g0 := (HD.out.rL p hp).2
  have g1 := (HD.out.rV p hp).2
  have g2 := (HD.out.rT p hp).2
  have g3 := (HD.out.rB p hp).2
  simp only at g0 g1 g2 g3
  go_wp2_with fail
  go_quiet (fail)
  go_wp2_with fail
  go_ret3
  have HF := (HD.out.drewN nq).setLn hp 11
  exact ⟨rfl, HF.rep hcap, HF.only⟩

set_option maxHeartbeats 4000000 in
set_option maxRecDepth 100000 in
theorem l11 {w : World} {n L p : Nat} {fb : List Nat} {s : St} (h : Rep w n L fb s) (hp : p < n) (hn : n ≤ 4) (hl : s.ln p = 11) {k : Nat} (hk : s.ht p = (k : Int)) (hk8 : k < 8) :
    Calls Try.prog 7 #[.pointer (some ⟨L, 0, none⟩), .int .i64 p] w (Post n L fb w false (0) (stepN s p)) := by
  have hst : stepN s p = { { s with vl := upd s.vl p (s.pc k) } with ln := upd s.ln p 12 } := by simp [stepN, hl, put, rest, upd_id, hk, upd_self s.ht p hk]
  rw [hst]
  clear hst
  obtain ⟨bH, cap, rfl, hcap, hLH, hB, rL, rV, rT, rB⟩ := h
  have HD := Lib.hid (Dx.start (T := 41) hp hLH hB rL rV rT rB)
  have c10 : w.cell? ⟨L, 10, none⟩ = some (.slice (some ⟨bH, 0, none⟩) n cap) := hB.cell 10
  have hpn : (p : Int) ≤ (n : Int) - 1 := by omega
  have hpn2 : (p : Int) < n := by omega
  have Hl := Lib.hid hl
  have hLn := hB.lt
  have hne : L ≠ w.heap.size := Nat.ne_of_lt hLn
  clear hB rL rV rT rB hl
  have Hk := Lib.hid hk
  clear hk
  go_enter Try.func7, Try.ntmps7
  go_wp2_with fail
  refine (within_yes (by omega) hpn).mono ?_
  rintro e wi ⟨rfl, rfl⟩
  go_upto_region 5 with fail
  generalize w.alloc (.cells #[.pointer (some ⟨bH, p * 4, none⟩)] 41) = wx at HD ⊢
  clear c10 hLn
  generalize w.heap.size = N at *
  have cN := HD.out.own
  have t8 : wx.cell? ⟨L, 8, none⟩ = some (.int .i64 (s.tp)) := HD.out.top.trans (by simp)
  have t9 : wx.cell? ⟨L, 9, none⟩ = some (.int .i64 (s.bt)) := HD.out.bot.trans (by simp)
  have e0 : wx.cell? ⟨bH, p * 4, none⟩ = some (.int .i64 (11)) := ((HD.out.rL p hp).1).trans (by simp [Hl.out])
  have e1 : wx.cell? ⟨bH, p * 4 + 1, none⟩ = some (.int .i64 (s.vl p)) := ((HD.out.rV p hp).1).trans (by simp [upd])
  have e2 : wx.cell? ⟨bH, p * 4 + 2, none⟩ = some (.int .i64 (s.ht p)) := ((HD.out.rT p hp).1).trans (by simp [upd])
  have e3 : wx.cell? ⟨bH, p * 4 + 3, none⟩ = some (.int .i64 (s.hb p)) := ((HD.out.rB p hp).1).trans (by simp [upd])
  have f8 := HD.out.blk.free 8
  have f9 := HD.out.blk.free 9
  have g0 := (HD.out.rL p hp).2
  have g1 := (HD.out.rV p hp).2
  have g2 := (HD.out.rT p hp).2
  have g3 := (HD.out.rB p hp).2
  simp only at g0 g1 g2 g3
  have pk := HD.out.pcs k hk8
  have fk := HD.out.blk.free k
  rw [Hk.out] at e2
  go_wp2_with fail
  replace HD := Lib.hid HD.out.drew
  have u0 : wx.drew.cell? ⟨N, 0, none⟩ = some (.pointer (some ⟨bH, p * 4, none⟩)) := HD.out.own
  have v0 : (wx.drew.setCell ⟨bH, p * 4 + 1, none⟩ (.int .i64 (s.pc k))).cell? ⟨N, 0, none⟩ = some (.pointer (some ⟨bH, p * 4, none⟩)) := (HD.out.setVl hp (s.pc k)).own
  have u1 : wx.drew.cell? ⟨bH, p * 4 + 2, none⟩ = some (.int .i64 (k : Int)) := ((HD.out.rT p hp).1).trans (by simp [Hk.out])
  have v1 : (wx.drew.setCell ⟨bH, p * 4 + 1, none⟩ (.int .i64 (s.pc k))).cell? ⟨bH, p * 4 + 2, none⟩ = some (.int .i64 (k : Int)) := (((HD.out.setVl hp (s.pc k)).rT p hp).1).trans (by simp [Hk.out])
  have u2 : wx.drew.cell? ⟨L, k, none⟩ = some (.int .i64 (s.pc k)) := HD.out.pcs k hk8
  have v2 : (wx.drew.setCell ⟨bH, p * 4 + 1, none⟩ (.int .i64 (s.pc k))).cell? ⟨L, k, none⟩ = some (.int .i64 (s.pc k)) := (HD.out.setVl hp (s.pc k)).pcs k hk8
  go_region_held3 (fun w' => w'.cell? ⟨N, 0, none⟩ = some (.pointer (some ⟨bH, p * 4, none⟩)) ∧ w'.cell? ⟨bH, p * 4 + 2, none⟩ = some (.int .i64 (k : Int)) ∧ w'.cell? ⟨L, k, none⟩ = some (.int .i64 (s.pc k)))
    (first | (with_reducible exact ⟨u0, u1, u2⟩) | (with_reducible exact ⟨v0, v1, v2⟩) | exact ⟨u0, u1, u2⟩ | exact ⟨v0, v1, v2⟩)
    ((go_at_call 15; refine (place_at (k := k) rfl hk8).mono ?_; rintro e w' ⟨rfl, rfl⟩))
  go_wp2_with fail
  go_ret3
  have HF := (HD.out.setVl hp (s.pc k)).setLn hp 12
  exact ⟨rfl, HF.rep hcap, HF.only⟩

set_option maxHeartbeats 4000000 in
set_option maxRecDepth 100000 in
theorem l12a {w : World} {n L p : Nat} {fb : List Nat} {s : St} (h : Rep w n L fb s) (hp : p < n) (hn : n ≤ 4) (hl : s.ln p = 12) (hx : s.tp = s.ht p) (hb : 0 ≤ s.ht p ∧ s.ht p ≤ 100) :
    Calls Try.prog 7 #[.pointer (some ⟨L, 0, none⟩), .int .i64 p] w (Post n L fb w true (s.vl p) (stepN s p)) := by
  have hst : stepN s p = { rest s p with tp := s.ht p + 1 } := by simp [stepN, hl, put, rest, upd_id, hx]
  rw [hst]
  clear hst
  obtain ⟨bH, cap, rfl, hcap, hLH, hB, rL, rV, rT, rB⟩ := h
  have HD := Lib.hid (Dx.start (T := 41) hp hLH hB rL rV rT rB)
  have c10 : w.cell? ⟨L, 10, none⟩ = some (.slice (some ⟨bH, 0, none⟩) n cap) := hB.cell 10
  have hpn : (p : Int) ≤ (n : Int) - 1 := by omega
  have hpn2 : (p : Int) < n := by omega
  have Hl := Lib.hid hl
  have hLn := hB.lt
  have hne : L ≠ w.heap.size := Nat.ne_of_lt hLn
  clear hB rL rV rT rB hl
  have b1 := hb.1
  have b2 := hb.2
  have iw : IntKind.i64.wrap (s.ht p + 1) = s.ht p + 1 := IntWalk.i64_in _ (by omega)
  have Hx := Lib.hid hx
  clear hx hb
  go_enter Try.func7, Try.ntmps7
  go_wp2_with fail
  refine (within_yes (by omega) hpn).mono ?_
  rintro e wi ⟨rfl, rfl⟩
  go_upto_region 5 with fail
  generalize w.alloc (.cells #[.pointer (some ⟨bH, p * 4, none⟩)] 41) = wx at HD ⊢
  clear c10 hLn
  generalize w.heap.size = N at *
  have cN := HD.out.own
  have t8 : wx.cell? ⟨L, 8, none⟩ = some (.int .i64 (s.tp)) := HD.out.top.trans (by simp)
  have t9 : wx.cell? ⟨L, 9, none⟩ = some (.int .i64 (s.bt)) := HD.out.bot.trans (by simp)
  have e0 : wx.cell? ⟨bH, p * 4, none⟩ = some (.int .i64 (12)) := ((HD.out.rL p hp).1).trans (by simp [Hl.out])
  have e1 : wx.cell? ⟨bH, p * 4 + 1, none⟩ = some (.int .i64 (s.vl p)) := ((HD.out.rV p hp).1).trans (by simp [upd])
  have e2 : wx.cell? ⟨bH, p * 4 + 2, none⟩ = some (.int .i64 (s.ht p)) := ((HD.out.rT p hp).1).trans (by simp [upd])
  have e3 : wx.cell? ⟨bH, p * 4 + 3, none⟩ = some (.int .i64 (s.hb p)) := ((HD.out.rB p hp).1).trans (by simp [upd])
  have f8 := HD.out.blk.free 8
  have f9 := HD.out.blk.free 9
  have g0 := (HD.out.rL p hp).2
  have g1 := (HD.out.rV p hp).2
  have g2 := (HD.out.rT p hp).2
  have g3 := (HD.out.rB p hp).2
  simp only at g0 g1 g2 g3
  rw [Hx.out] at t8
  go_wp2_with fail
  replace HD := Lib.hid HD.out.drew
  go_region_held3 (fun w' => w'.cell? ⟨N, 0, none⟩ = some (.pointer (some ⟨bH, p * 4, none⟩)) ∧ w'.cell? ⟨bH, p * 4 + 2, none⟩ = some (.int .i64 (s.ht p)))
    (first | (with_reducible exact ⟨cN, e2⟩) | exact ⟨HD.out.own, ((HD.out.rT p hp).1).trans (by simp [upd])⟩)
    ((go_at_call 16; refine (cas_yes (o := s.ht p) ?_ ?_).mono ?_; (simpa using t8); (simpa using f8); rintro e w1 ⟨rfl, hw1⟩; replace HD := Lib.hid (show Dx w N n L bH cap p _ w1 from hw1 ▸ HD.out.setTop (s.ht p + 1)); clear hw1))
  clear t8 t9 e0 e1 e2 e3 f8 f9 g0 g1 g2 g3 cN iw
  have cN := HD.out.own
  have t8 : w1.cell? ⟨L, 8, none⟩ = some (.int .i64 (s.ht p + 1)) := HD.out.top.trans (by simp)
  have t9 : w1.cell? ⟨L, 9, none⟩ = some (.int .i64 (s.bt)) := HD.out.bot.trans (by simp)
  have e0 : w1.cell? ⟨bH, p * 4, none⟩ = some (.int .i64 (12)) := ((HD.out.rL p hp).1).trans (by simp [Hl.out])
  have e1 : w1.cell? ⟨bH, p * 4 + 1, none⟩ = some (.int .i64 (s.vl p)) := ((HD.out.rV p hp).1).trans (by simp [upd])
  have e2 : w1.cell? ⟨bH, p * 4 + 2, none⟩ = some (.int .i64 (s.ht p)) := ((HD.out.rT p hp).1).trans (by simp [upd])
  have e3 : w1.cell? ⟨bH, p * 4 + 3, none⟩ = some (.int .i64 (s.hb p)) := ((HD.out.rB p hp).1).trans (by simp [upd])
  have f8 := HD.out.blk.free 8
  have f9 := HD.out.blk.free 9
  have g0 := (HD.out.rL p hp).2
  have g1 := (HD.out.rV p hp).2
  have g2 := (HD.out.rT p hp).2
  have g3 := (HD.out.rB p hp).2
  simp only at g0 g1 g2 g3
  go_wp2_with fail
  refine (done_any (HD.out) hp).mono ?_
  rintro e w9 ⟨rfl, HF⟩
  clear cN t8 t9 e0 e1 e2 e3 f8 f9 g0 g1 g2 g3
  go_wp2_with fail
  go_ret3
  exact ⟨rfl, (HF.re (by rfl)).rep hcap, HF.only⟩

set_option maxHeartbeats 4000000 in
set_option maxRecDepth 100000 in
theorem l12b {w : World} {n L p : Nat} {fb : List Nat} {s : St} (h : Rep w n L fb s) (hp : p < n) (hn : n ≤ 4) (hl : s.ln p = 12) (hx : ¬ s.tp = s.ht p) (hb : 0 ≤ s.ht p ∧ s.ht p ≤ 100) :
    Calls Try.prog 7 #[.pointer (some ⟨L, 0, none⟩), .int .i64 p] w (Post n L fb w true (-2) (stepN s p)) := by
  have hst : stepN s p = rest s p := by simp [stepN, hl, put, rest, upd_id, hx]
  rw [hst]
  clear hst
  obtain ⟨bH, cap, rfl, hcap, hLH, hB, rL, rV, rT, rB⟩ := h
  have HD := Lib.hid (Dx.start (T := 41) hp hLH hB rL rV rT rB)
  have c10 : w.cell? ⟨L, 10, none⟩ = some (.slice (some ⟨bH, 0, none⟩) n cap) := hB.cell 10
  have hpn : (p : Int) ≤ (n : Int) - 1 := by omega
  have hpn2 : (p : Int) < n := by omega
  have Hl := Lib.hid hl
  have hLn := hB.lt
  have hne : L ≠ w.heap.size := Nat.ne_of_lt hLn
  clear hB rL rV rT rB hl
  have b1 := hb.1
  have b2 := hb.2
  have iw : IntKind.i64.wrap (s.ht p + 1) = s.ht p + 1 := IntWalk.i64_in _ (by omega)
  have Hx := Lib.hid hx
  clear hx hb
  go_enter Try.func7, Try.ntmps7
  go_wp2_with fail
  refine (within_yes (by omega) hpn).mono ?_
  rintro e wi ⟨rfl, rfl⟩
  go_upto_region 5 with fail
  generalize w.alloc (.cells #[.pointer (some ⟨bH, p * 4, none⟩)] 41) = wx at HD ⊢
  clear c10 hLn
  generalize w.heap.size = N at *
  have cN := HD.out.own
  have t8 : wx.cell? ⟨L, 8, none⟩ = some (.int .i64 (s.tp)) := HD.out.top.trans (by simp)
  have t9 : wx.cell? ⟨L, 9, none⟩ = some (.int .i64 (s.bt)) := HD.out.bot.trans (by simp)
  have e0 : wx.cell? ⟨bH, p * 4, none⟩ = some (.int .i64 (12)) := ((HD.out.rL p hp).1).trans (by simp [Hl.out])
  have e1 : wx.cell? ⟨bH, p * 4 + 1, none⟩ = some (.int .i64 (s.vl p)) := ((HD.out.rV p hp).1).trans (by simp [upd])
  have e2 : wx.cell? ⟨bH, p * 4 + 2, none⟩ = some (.int .i64 (s.ht p)) := ((HD.out.rT p hp).1).trans (by simp [upd])
  have e3 : wx.cell? ⟨bH, p * 4 + 3, none⟩ = some (.int .i64 (s.hb p)) := ((HD.out.rB p hp).1).trans (by simp [upd])
  have f8 := HD.out.blk.free 8
  have f9 := HD.out.blk.free 9
  have g0 := (HD.out.rL p hp).2
  have g1 := (HD.out.rV p hp).2
  have g2 := (HD.out.rT p hp).2
  have g3 := (HD.out.rB p hp).2
  simp only at g0 g1 g2 g3
  go_wp2_with fail
  replace HD := Lib.hid HD.out.drew
  go_region_held3 (fun w' => w'.cell? ⟨N, 0, none⟩ = some (.pointer (some ⟨bH, p * 4, none⟩)) ∧ w'.cell? ⟨bH, p * 4 + 2, none⟩ = some (.int .i64 (s.ht p)))
    (first | (with_reducible exact ⟨cN, e2⟩) | exact ⟨HD.out.own, ((HD.out.rT p hp).1).trans (by simp [upd])⟩)
    ((go_at_call 16; refine (cas_no (o := s.ht p) (u := s.tp) ?_ Hx.out).mono ?_; (simpa using t8); rintro e w1 ⟨rfl, hw1⟩; replace HD := Lib.hid (show Dx w N n L bH cap p _ w1 from hw1 ▸ HD.out); clear hw1))
  clear t8 t9 e0 e1 e2 e3 f8 f9 g0 g1 g2 g3 cN iw
  have cN := HD.out.own
  have t8 : w1.cell? ⟨L, 8, none⟩ = some (.int .i64 (s.tp)) := HD.out.top.trans (by simp)
  have t9 : w1.cell? ⟨L, 9, none⟩ = some (.int .i64 (s.bt)) := HD.out.bot.trans (by simp)
  have e0 : w1.cell? ⟨bH, p * 4, none⟩ = some (.int .i64 (12)) := ((HD.out.rL p hp).1).trans (by simp [Hl.out])
  have e1 : w1.cell? ⟨bH, p * 4 + 1, none⟩ = some (.int .i64 (s.vl p)) := ((HD.out.rV p hp).1).trans (by simp [upd])
  have e2 : w1.cell? ⟨bH, p * 4 + 2, none⟩ = some (.int .i64 (s.ht p)) := ((HD.out.rT p hp).1).trans (by simp [upd])
  have e3 : w1.cell? ⟨bH, p * 4 + 3, none⟩ = some (.int .i64 (s.hb p)) := ((HD.out.rB p hp).1).trans (by simp [upd])
  have f8 := HD.out.blk.free 8
  have f9 := HD.out.blk.free 9
  have g0 := (HD.out.rL p hp).2
  have g1 := (HD.out.rV p hp).2
  have g2 := (HD.out.rT p hp).2
  have g3 := (HD.out.rB p hp).2
  simp only at g0 g1 g2 g3
  go_wp2_with fail
  refine (done_any (HD.out) hp).mono ?_
  rintro e w9 ⟨rfl, HF⟩
  clear cN t8 t9 e0 e1 e2 e3 f8 f9 g0 g1 g2 g3
  go_wp2_with fail
  go_ret3
  exact ⟨rfl, (HF.re (by rfl)).rep hcap, HF.only⟩
end Go.Proofs.Ytpdhnmkhobfnbaa.Work
