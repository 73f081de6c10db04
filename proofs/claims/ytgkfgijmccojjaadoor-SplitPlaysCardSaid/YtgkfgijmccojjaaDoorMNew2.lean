import Derived.Test.YtgkfgijmccojjaaDoorMNew
namespace Go.Proofs.YtgkfgijmccojjaaDoor
open Go.RowKit
set_option linter.unusedVariables false

/-- The result's box lies at the call's first block, the machine's at T. -/
structure Nx (w : World) (A : Nat → Prop) (T : Nat) (wr : World) (n nw no : Nat) (b : MB) (m : MS) : Prop where
  bel : Below w.heap.size w wr
  out : Blk wr w.heap.size #[.int .i64 0, .slice none 0 0, .slice none 0 0, .slice none 0 0] 27
  box : Blk wr T #[.int .i64 n, .slice (some ⟨b.bW, 0, none⟩) nw b.cW, .slice (some ⟨b.bA, 0, none⟩) n b.cA, .slice (some ⟨b.bO, 0, none⟩) n b.cO] 27
  lt : w.heap.size < T ∧ T < wr.heap.size
  mach : MBlk wr (fun k => A k ∧ k ≠ w.heap.size ∧ k ≠ T) n nw no b m
  new : ∀ k, wr.heap.size ≤ k → A k ∧ k ≠ w.heap.size ∧ k ≠ T
theorem Nx.below {w wr w' : World} {A : Nat → Prop} {T n nw no : Nat} {b : MB} {m : MS} (h : Nx w A T wr n nw no b m) (hb : Below wr.heap.size wr w') : Nx w A T w' n nw no b m :=
  ⟨h.bel.trans (hb.mono h.bel.size), h.out.below hb (by have := h.lt; omega), h.box.below hb h.lt.2, ⟨h.lt.1, Nat.lt_of_lt_of_le h.lt.2 hb.size⟩, h.mach.below hb, fun k hk => h.new k (Nat.le_trans hb.size hk)⟩
theorem Nx.rebox {w wr : World} {A : Nat → Prop} {T n nw no : Nat} {b b' : MB} {m m' : MS} (h : Nx w A T wr n nw no b m) (hm : MBlk wr (fun k => A k ∧ k ≠ w.heap.size ∧ k ≠ T) n nw no b' m') :
    Nx w A T ((((wr.setCell ⟨T, 0, none⟩ (.int .i64 n)).setCell ⟨T, 1, none⟩ (.slice (some ⟨b'.bW, 0, none⟩) nw b'.cW)).setCell ⟨T, 2, none⟩ (.slice (some ⟨b'.bA, 0, none⟩) n b'.cA)).setCell ⟨T, 3, none⟩ (.slice (some ⟨b'.bO, 0, none⟩) n b'.cO)) n nw no b' m' := by
  have nA : ¬ (A T ∧ T ≠ w.heap.size ∧ T ≠ T) := by omega
  have hne : T ≠ w.heap.size := by have := h.lt; omega
  have hle : w.heap.size ≤ T := by have := h.lt; omega
  exact ⟨(((h.bel.setCell (p := ⟨T, 0, none⟩) hle _).setCell (p := ⟨T, 1, none⟩) hle _).setCell (p := ⟨T, 2, none⟩) hle _).setCell (p := ⟨T, 3, none⟩) hle _,
    (((h.out.other hne 0 _).other hne 1 _).other hne 2 _).other hne 3 _, out4 h.box _ _ _ _, ⟨h.lt.1, by simpa using h.lt.2⟩, (((hm.put nA _ _).put nA _ _).put nA _ _).put nA _ _, fun k hk => h.new k (by simpa using hk)⟩
theorem Nx.ret {w wr : World} {A : Nat → Prop} {T n nw no : Nat} {b : MB} {m : MS} {fn : Func} {a : Act} {t : Nat} (h : Nx w A T wr n nw no b m)
    (hf : fn.results = #[.cell t 27]) (ht : a.tmps[t]?.getD undef = .pointer (some ⟨w.heap.size, 0, none⟩)) (hd : a.defers = []) :
    bodyPost Tryd.prog fn (Next A n nw no m w) .ret a ((((wr.setCell ⟨w.heap.size, 0, none⟩ (.int .i64 n)).setCell ⟨w.heap.size, 1, none⟩ (.slice (some ⟨b.bW, 0, none⟩) nw b.cW)).setCell ⟨w.heap.size, 2, none⟩ (.slice (some ⟨b.bA, 0, none⟩) n b.cA)).setCell ⟨w.heap.size, 3, none⟩ (.slice (some ⟨b.bO, 0, none⟩) n b.cO)) := by
  have kF := out4 h.out (.int .i64 n) (.slice (some ⟨b.bW, 0, none⟩) nw b.cW) (.slice (some ⟨b.bA, 0, none⟩) n b.cA) (.slice (some ⟨b.bO, 0, none⟩) n b.cO)
  refine ret_mach hf ht (kF.cell 0) (kF.cell 1) (kF.cell 2) (kF.cell 3) hd ?_
  have nN : ¬ (A w.heap.size ∧ w.heap.size ≠ w.heap.size ∧ w.heap.size ≠ T) := by omega
  exact ⟨_, rfl, ⟨b, rfl, ((((h.mach.put nN _ _).put nN _ _).put nN _ _).put nN _ _).weak (fun k hk => hk.1)⟩,
    (((h.bel.setCell (p := ⟨w.heap.size, 0, none⟩) (Nat.le_refl _) _).setCell (p := ⟨w.heap.size, 1, none⟩) (Nat.le_refl _) _).setCell (p := ⟨w.heap.size, 2, none⟩) (Nat.le_refl _) _).setCell (p := ⟨w.heap.size, 3, none⟩) (Nat.le_refl _) _⟩

def clh1 (n k : Nat) : MS := { wd := upd (fun _ => 0) 0 (n : Int), at_ := fun _ => 1, ow := fun p i => if i = 0 ∧ p < k then (p : Int) else 0 }
theorem clh1_step (n k : Nat) : own1 (clh1 n k) k 0 ((k : Int)) = clh1 n (k + 1) := by
  unfold own1 clh1
  congr 1
  funext p i
  simp only [updR]
  by_cases e : p = k
  · subst e
    by_cases e2 : i = 0
    · simp [upd, e2]
    · simp [upd, e2]
  · simp only [e, if_false]
    by_cases e2 : i = 0
    · simp only [e2, true_and]
      by_cases e3 : p < k
      · rw [if_pos e3, if_pos (by omega)]
      · rw [if_neg e3, if_neg (by omega)]
    · simp [e2]

set_option maxHeartbeats 4000000 in
set_option maxRecDepth 100000 in
theorem clh_any {w : World} {A : Nat → Prop} {n : Nat} {N : Int} (hN : N = (n : Int)) (hA : ∀ k, w.heap.size ≤ k → A k) (h1 : 1 ≤ n) (h4 : n ≤ 4) :
    Calls Tryd.prog 35 #[.int .i64 N] w (Next A n (n + 2) 2 (clh1 n n) w) := by
  subst hN
  have HA := Lib.hid hA
  have hn0 : (1 : Int) ≤ n := by omega
  clear hA
  go_enter Tryd.func35, Tryd.ntmps35
  go_wp2_with fail
  have HB0 : Hid (Below w.heap.size w (w.alloc (.cells #[.int .i64 0, .slice none 0 0, .slice none 0 0, .slice none 0 0] 27))) := (Below.refl _ _).alloc (Nat.le_refl _) _
  have HS0 : Hid (w.heap.size + 1 ≤ (w.alloc (.cells #[.int .i64 0, .slice none 0 0, .slice none 0 0, .slice none 0 0] 27)).heap.size) := by show w.heap.size + 1 ≤ (w.alloc (.cells #[.int .i64 0, .slice none 0 0, .slice none 0 0, .slice none 0 0] 27)).heap.size; simp
  have HO0 : Hid (Blk (w.alloc (.cells #[.int .i64 0, .slice none 0 0, .slice none 0 0, .slice none 0 0] 27)) w.heap.size #[.int .i64 0, .slice none 0 0, .slice none 0 0, .slice none 0 0] 27) := Blk.new _ _ _
  generalize w.alloc (.cells #[.int .i64 0, .slice none 0 0, .slice none 0 0, .slice none 0 0] 27) = w0 at HB0 HS0 HO0 ⊢
  refine (zeros_any (n := n + 2) (by omega) (by omega)).mono ?_
  rintro e w1 ⟨g0, cp0, rfl, hg0, hl0, hz, bz1⟩
  have HB := Lib.hid (HB0.out.trans (bz1.mono (by have := HS0.out; omega)))
  have HS := Lib.hid (Nat.le_trans HS0.out bz1.size)
  have HG0 := Lib.hid (show w.heap.size + 1 ≤ g0 by have := HS0.out; omega)
  have HO := Lib.hid (HO0.out.below bz1 (by have := HS0.out; omega))
  clear hg0 hl0
  go_wp2_with fail
  refine (set_any (i := 0) rfl (by omega) (by omega) (by omega) hz).mono ?_
  rintro e w2 ⟨gz, cz, rfl, hgz, hlz, hz, bz2⟩
  replace HB := Lib.hid (HB.out.trans (bz2.mono (by have := HS.out; omega)))
  have HG := Lib.hid (show w.heap.size + 1 ≤ gz by have := HS.out; omega)
  replace HO := Lib.hid (HO.out.below bz2 (by have := HS.out; omega))
  replace HS := Lib.hid (Nat.le_trans HS.out bz2.size)
  clear bz2 hgz hlz
  go_wp2_with fail
  have HZ := Lib.hid hz
  clear hz bz1
  refine (mnew_any (A := fun k => A k ∧ k ≠ w.heap.size) (n := n) (no := 2) rfl rfl HZ.out ⟨HA.out _ (by have := HG.out; omega), by have := HG.out; omega⟩ (fun k hk => ⟨HA.out k (by have := HS.out; omega), by have := HS.out; omega⟩) h1 h4 (by omega) (by omega)).mono ?_
  rintro e w3 ⟨_, rfl, ⟨b, rfl, hm⟩, hbel⟩
  have HX : Hid (Nx w A w3.heap.size (w3.alloc (.cells #[.int .i64 n, .slice (some ⟨b.bW, 0, none⟩) (n + 2) b.cW, .slice (some ⟨b.bA, 0, none⟩) n b.cA, .slice (some ⟨b.bO, 0, none⟩) n b.cO] 27)) n (n + 2) 2 b (clh1 n 0)) := by
    have hsz := HS.out
    have h3 := hbel.size
    have hm0 : MBlk w3 (fun k => A k ∧ k ≠ w.heap.size) n (n + 2) 2 b (clh1 n 0) := by
      have e : clh1 n 0 = first1 (upd (fun _ => 0) 0 (n : Int)) := by unfold clh1 first1; congr 1; funext p i; rw [if_neg (by omega)]
      rw [e]; exact hm
    have hbw : Below w.heap.size w w3 := HB.out.trans (hbel.mono (by omega))
    refine ⟨hbw.alloc (by omega) _, (HO.out.below hbel (by omega)).alloc _, Blk.new _ _ _, ⟨by omega, by simp⟩, ?_, fun k hk => ?_⟩
    · exact ((hm0.inside (by omega) (by omega)).below ((Below.refl _ _).alloc (Nat.le_refl _) _)).weak (fun k hk => ⟨hk.1.1, hk.1.2, Nat.ne_of_lt hk.2⟩)
    · have hk' : w3.heap.size + 1 ≤ k := by simpa using hk
      exact ⟨HA.out k (by omega), by omega, by omega⟩
  unfold MB.val
  clear hm hbel
  go_wp2_with fail
  generalize w3.alloc (.cells #[.int .i64 n, .slice (some ⟨b.bW, 0, none⟩) (n + 2) b.cW, .slice (some ⟨b.bA, 0, none⟩) n b.cA, .slice (some ⟨b.bO, 0, none⟩) n b.cO] 27) = w4 at HX ⊢
  generalize w3.heap.size = T at HX ⊢
  go_loopw [4] (fun i wr => ∃ (k : Nat) (b : MB), k ≤ n ∧ i = .int .i64 k ∧ Nx w A T wr n (n + 2) 2 b (clh1 n k)) (fun i _ => n - (intOf i).toNat)
  case atStart => exact ⟨0, b, by omega, rfl, HX.out⟩
  case round =>
    obtain ⟨k, b2, hk, rfl, hX⟩ := hrel
    have HX2 := Lib.hid hX
    have d0 : wr.cell? ⟨T, 0, none⟩ = some (.int .i64 n) := hX.box.cell 0
    have d1 : wr.cell? ⟨T, 1, none⟩ = some (.slice (some ⟨b2.bW, 0, none⟩) (n + 2) b2.cW) := hX.box.cell 1
    have d2 : wr.cell? ⟨T, 2, none⟩ = some (.slice (some ⟨b2.bA, 0, none⟩) n b2.cA) := hX.box.cell 2
    have d3 : wr.cell? ⟨T, 3, none⟩ = some (.slice (some ⟨b2.bO, 0, none⟩) n b2.cO) := hX.box.cell 3
    clear hX
    by_cases hkn : k < n
    · go_wp2_with fail
      refine (own_any (p := k) (i := 0) rfl rfl ⟨b2, rfl, HX2.out.mach⟩ HX2.out.new (by omega) (by omega) (by omega) hkn (by omega)).mono ?_
      rintro e w5 ⟨_, rfl, ⟨b3, rfl, hm3⟩, hbel⟩
      replace HX2 := Lib.hid (HX2.out.below hbel)
      have d0 : w5.cell? ⟨T, 0, none⟩ = some (.int .i64 n) := HX2.out.box.cell 0
      have d1 : w5.cell? ⟨T, 1, none⟩ = some (.slice (some ⟨b2.bW, 0, none⟩) (n + 2) b2.cW) := HX2.out.box.cell 1
      have d2 : w5.cell? ⟨T, 2, none⟩ = some (.slice (some ⟨b2.bA, 0, none⟩) n b2.cA) := HX2.out.box.cell 2
      have d3 : w5.cell? ⟨T, 3, none⟩ = some (.slice (some ⟨b2.bO, 0, none⟩) n b2.cO) := HX2.out.box.cell 3
      have f0 := HX2.out.box.free 0
      have f1 := HX2.out.box.free 1
      have f2 := HX2.out.box.free 2
      have f3 := HX2.out.box.free 3
      unfold MB.val
      clear hbel
      go_wp2_with fail
      go_roundw
      case rel => exact ⟨k + 1, b3, by omega, by go_num, HX2.out.rebox (clh1_step n k ▸ hm3)⟩
      case measure => simp [intOf]; omega
    · obtain rfl : k = n := by omega
      have q0 : wr.cell? ⟨w.heap.size, 0, none⟩ = some (.int .i64 0) := HX2.out.out.cell 0
      have q1 : wr.cell? ⟨w.heap.size, 1, none⟩ = some (.slice none 0 0) := HX2.out.out.cell 1
      have q2 : wr.cell? ⟨w.heap.size, 2, none⟩ = some (.slice none 0 0) := HX2.out.out.cell 2
      have q3 : wr.cell? ⟨w.heap.size, 3, none⟩ = some (.slice none 0 0) := HX2.out.out.cell 3
      have f0 := HX2.out.out.free 0
      have f1 := HX2.out.out.free 1
      have f2 := HX2.out.out.free 2
      have f3 := HX2.out.out.free 3
      go_wp2_with fail
      exact HX2.out.ret rfl rfl rfl

def filter1 (n k : Nat) : MS := { wd := fun _ => 0, at_ := fun _ => 1, ow := fun p i => if i = 0 ∧ p < k then 1 else 0 }
theorem filter1_step (n k : Nat) : own1 (filter1 n k) k 0 (1) = filter1 n (k + 1) := by
  unfold own1 filter1
  congr 1
  funext p i
  simp only [updR]
  by_cases e : p = k
  · subst e
    by_cases e2 : i = 0
    · simp [upd, e2]
    · simp [upd, e2]
  · simp only [e, if_false]
    by_cases e2 : i = 0
    · simp only [e2, true_and]
      by_cases e3 : p < k
      · rw [if_pos e3, if_pos (by omega)]
      · rw [if_neg e3, if_neg (by omega)]
    · simp [e2]

set_option maxHeartbeats 4000000 in
set_option maxRecDepth 100000 in
theorem filter_any {w : World} {A : Nat → Prop} {n : Nat} {N : Int} (hN : N = (n : Int)) (hA : ∀ k, w.heap.size ≤ k → A k) (h1 : 1 ≤ n) (h4 : n ≤ 4) :
    Calls Tryd.prog 52 #[.int .i64 N] w (Next A n (2 * n) 2 (filter1 n n) w) := by
  subst hN
  have HA := Lib.hid hA
  have hn0 : (1 : Int) ≤ n := by omega
  clear hA
  go_enter Tryd.func52, Tryd.ntmps52
  go_wp2_with fail
  have HB0 : Hid (Below w.heap.size w (w.alloc (.cells #[.int .i64 0, .slice none 0 0, .slice none 0 0, .slice none 0 0] 27))) := (Below.refl _ _).alloc (Nat.le_refl _) _
  have HS0 : Hid (w.heap.size + 1 ≤ (w.alloc (.cells #[.int .i64 0, .slice none 0 0, .slice none 0 0, .slice none 0 0] 27)).heap.size) := by show w.heap.size + 1 ≤ (w.alloc (.cells #[.int .i64 0, .slice none 0 0, .slice none 0 0, .slice none 0 0] 27)).heap.size; simp
  have HO0 : Hid (Blk (w.alloc (.cells #[.int .i64 0, .slice none 0 0, .slice none 0 0, .slice none 0 0] 27)) w.heap.size #[.int .i64 0, .slice none 0 0, .slice none 0 0, .slice none 0 0] 27) := Blk.new _ _ _
  generalize w.alloc (.cells #[.int .i64 0, .slice none 0 0, .slice none 0 0, .slice none 0 0] 27) = w0 at HB0 HS0 HO0 ⊢
  refine (zeros_any (n := 2 * n) (by omega) (by omega)).mono ?_
  rintro e w1 ⟨g0, cp0, rfl, hg0, hl0, hz, bz1⟩
  have HB := Lib.hid (HB0.out.trans (bz1.mono (by have := HS0.out; omega)))
  have HS := Lib.hid (Nat.le_trans HS0.out bz1.size)
  have HG0 := Lib.hid (show w.heap.size + 1 ≤ g0 by have := HS0.out; omega)
  have HO := Lib.hid (HO0.out.below bz1 (by have := HS0.out; omega))
  clear hg0 hl0
  go_wp2_with fail
  have HZ := Lib.hid hz
  clear hz bz1
  refine (mnew_any (A := fun k => A k ∧ k ≠ w.heap.size) (n := n) (no := 2) rfl rfl HZ.out ⟨HA.out _ (by have := HG0.out; omega), by have := HG0.out; omega⟩ (fun k hk => ⟨HA.out k (by have := HS.out; omega), by have := HS.out; omega⟩) h1 h4 (by omega) (by omega)).mono ?_
  rintro e w3 ⟨_, rfl, ⟨b, rfl, hm⟩, hbel⟩
  have HX : Hid (Nx w A w3.heap.size (w3.alloc (.cells #[.int .i64 n, .slice (some ⟨b.bW, 0, none⟩) (2 * n) b.cW, .slice (some ⟨b.bA, 0, none⟩) n b.cA, .slice (some ⟨b.bO, 0, none⟩) n b.cO] 27)) n (2 * n) 2 b (filter1 n 0)) := by
    have hsz := HS.out
    have h3 := hbel.size
    have hm0 : MBlk w3 (fun k => A k ∧ k ≠ w.heap.size) n (2 * n) 2 b (filter1 n 0) := by
      have e : filter1 n 0 = first1 (fun _ => 0) := by unfold filter1 first1; congr 1; funext p i; rw [if_neg (by omega)]
      rw [e]; exact hm
    have hbw : Below w.heap.size w w3 := HB.out.trans (hbel.mono (by omega))
    refine ⟨hbw.alloc (by omega) _, (HO.out.below hbel (by omega)).alloc _, Blk.new _ _ _, ⟨by omega, by simp⟩, ?_, fun k hk => ?_⟩
    · exact ((hm0.inside (by omega) (by omega)).below ((Below.refl _ _).alloc (Nat.le_refl _) _)).weak (fun k hk => ⟨hk.1.1, hk.1.2, Nat.ne_of_lt hk.2⟩)
    · have hk' : w3.heap.size + 1 ≤ k := by simpa using hk
      exact ⟨HA.out k (by omega), by omega, by omega⟩
  unfold MB.val
  clear hm hbel
  go_wp2_with fail
  generalize w3.alloc (.cells #[.int .i64 n, .slice (some ⟨b.bW, 0, none⟩) (2 * n) b.cW, .slice (some ⟨b.bA, 0, none⟩) n b.cA, .slice (some ⟨b.bO, 0, none⟩) n b.cO] 27) = w4 at HX ⊢
  generalize w3.heap.size = T at HX ⊢
  go_loopw [4] (fun i wr => ∃ (k : Nat) (b : MB), k ≤ n ∧ i = .int .i64 k ∧ Nx w A T wr n (2 * n) 2 b (filter1 n k)) (fun i _ => n - (intOf i).toNat)
  case atStart => exact ⟨0, b, by omega, rfl, HX.out⟩
  case round =>
    obtain ⟨k, b2, hk, rfl, hX⟩ := hrel
    have HX2 := Lib.hid hX
    have d0 : wr.cell? ⟨T, 0, none⟩ = some (.int .i64 n) := hX.box.cell 0
    have d1 : wr.cell? ⟨T, 1, none⟩ = some (.slice (some ⟨b2.bW, 0, none⟩) (2 * n) b2.cW) := hX.box.cell 1
    have d2 : wr.cell? ⟨T, 2, none⟩ = some (.slice (some ⟨b2.bA, 0, none⟩) n b2.cA) := hX.box.cell 2
    have d3 : wr.cell? ⟨T, 3, none⟩ = some (.slice (some ⟨b2.bO, 0, none⟩) n b2.cO) := hX.box.cell 3
    clear hX
    by_cases hkn : k < n
    · go_wp2_with fail
      refine (own_any (p := k) (i := 0) rfl rfl ⟨b2, rfl, HX2.out.mach⟩ HX2.out.new (by omega) (by omega) (by omega) hkn (by omega)).mono ?_
      rintro e w5 ⟨_, rfl, ⟨b3, rfl, hm3⟩, hbel⟩
      replace HX2 := Lib.hid (HX2.out.below hbel)
      have d0 : w5.cell? ⟨T, 0, none⟩ = some (.int .i64 n) := HX2.out.box.cell 0
      have d1 : w5.cell? ⟨T, 1, none⟩ = some (.slice (some ⟨b2.bW, 0, none⟩) (2 * n) b2.cW) := HX2.out.box.cell 1
      have d2 : w5.cell? ⟨T, 2, none⟩ = some (.slice (some ⟨b2.bA, 0, none⟩) n b2.cA) := HX2.out.box.cell 2
      have d3 : w5.cell? ⟨T, 3, none⟩ = some (.slice (some ⟨b2.bO, 0, none⟩) n b2.cO) := HX2.out.box.cell 3
      have f0 := HX2.out.box.free 0
      have f1 := HX2.out.box.free 1
      have f2 := HX2.out.box.free 2
      have f3 := HX2.out.box.free 3
      unfold MB.val
      clear hbel
      go_wp2_with fail
      go_roundw
      case rel => exact ⟨k + 1, b3, by omega, by go_num, HX2.out.rebox (filter1_step n k ▸ hm3)⟩
      case measure => simp [intOf]; omega
    · obtain rfl : k = n := by omega
      have q0 : wr.cell? ⟨w.heap.size, 0, none⟩ = some (.int .i64 0) := HX2.out.out.cell 0
      have q1 : wr.cell? ⟨w.heap.size, 1, none⟩ = some (.slice none 0 0) := HX2.out.out.cell 1
      have q2 : wr.cell? ⟨w.heap.size, 2, none⟩ = some (.slice none 0 0) := HX2.out.out.cell 2
      have q3 : wr.cell? ⟨w.heap.size, 3, none⟩ = some (.slice none 0 0) := HX2.out.out.cell 3
      have f0 := HX2.out.out.free 0
      have f1 := HX2.out.out.free 1
      have f2 := HX2.out.out.free 2
      have f3 := HX2.out.out.free 3
      go_wp2_with fail
      exact HX2.out.ret rfl rfl rfl
end Go.Proofs.YtgkfgijmccojjaaDoor
