import Derived.Test.YtimbdjmplcgilaaTQ3
namespace Go.Proofs.Ytimbdjmplcgilaa.TQ
open Go.RowKit Go.Maps
open Pr (ints)
set_option linter.unusedVariables false
set_option linter.unusedSimpArgs false

set_option maxHeartbeats 2000000 in
set_option maxRecDepth 100000 in
theorem add_old {w : World} {Q B g : Nat} {ss : List (List Int)} {s : List Int} (h : QAt w Q B g ss) (hs : Wf s) (hn : s ∈ ss) :
    Calls Try.prog 33 #[.pointer (some ⟨Q, 0, none⟩), stVal s] w fun e w' => e = .returned (.tuple #[]) ∧ Below w.heap.size w w' := by
  have hl1 := hs.len
  have HB := Lib.hid (Blk.new w (ints s).toArray 77)
  have HL : Hid (Below w.heap.size w (w.alloc (.cells (ints s).toArray 77))) := (Below.refl _ _).alloc (Nat.le_refl _) _
  have HQ := Lib.hid (h.new HL.out)
  have HIS : Hid ((ints s).toArray.size = 60) := by show _ = _; simp [ints, hl1]
  have HS := Lib.hid hs
  have HN := Lib.hid hn
  clear h hs hn
  unfold stVal
  go_enter Try.func33, Try.ntmps33
  go_upto_region 1 with fail
  generalize w.alloc (.cells (ints s).toArray 77) = wx at HB HL HQ ⊢
  obtain ⟨cap, hb, -⟩ := HQ.out.lies
  have c0 : wx.cell? ⟨Q, 0, none⟩ = some (.map (some B)) := hb.cell 0
  have nl := nil_no B
  have ld : ∀ m, (Instr.loadAt 77 (.pointer (some ⟨w.heap.size, 0, none⟩))).run Try.prog (wx.drewN m) = .ok (.agg (ints s).toArray) (wx.drewN m) := fun m => load_row (w := wx.drewN m) HB.out HIS.out
  have lk : ∀ m, (Instr.lookup 67 (.map (some B)) (.agg (ints s).toArray) false).run Try.prog (wx.drewN m) = .ok (.bool true) (wx.drewN m) := fun m => by
    have := (HQ.out.set.keep (w' := wx.drewN m) rfl).look HS.out
    rw [show decide (s ∈ ss) = true by simpa using HN.out] at this
    exact this
  clear hb
  go_upto_region 3 with fail
  refine wp_region_quiet_lit (by kernel_rfl) (by kernel_rfl) ?_
  quiet_step (fail)
  quiet_step (fail)
  quiet_step (fail)
  quiet_step (fail)
  refine quiet_load 77 _ rfl (by rfl) _ _ rfl (by rintro w' ⟨m, rfl⟩; exact ld m) ?_
  try simp only [Act.put, List.setIfInBounds_toArray, List.set_cons_zero, List.set_cons_succ]
  clear ld
  repeat (quiet_step (fail))
  refine wpQuiet_nil ?_
  rintro _ ⟨nq, rfl⟩
  have HL2 : Hid (Below w.heap.size w (wx.drewN nq)) := Pr.Below.todrewN HL.out nq
  clear HB HL HQ c0 lk
  go_wp2_with fail
  go_end0
  exact ⟨rfl, HL2.out⟩
/-- The first thing: map and row are made. -/
theorem first_end {w wm w4 w5 : World} {Q g2 cap2 : Nat} {s : List Int} {o : Obj} (hs : Wf s) (hsz : w.heap.size + 1 ≤ wm.heap.size) (hQ : Q < w.heap.size) (hset : SetAt w4 wm.heap.size [s])
    (hq : Blk w4 Q #[.map (some wm.heap.size), .slice none 0 0] 70) (ho : OnlyG [Q] w w4) (hsz4 : wm.heap.size + 1 = w4.heap.size)
    (h5 : (w4.drew.alloc o).grownBy w5 (Value.ownBlock (.slice none 0 0))) (hown : w5.ownsRow 0 77 60 (.slice (some ⟨g2, 0, none⟩) (0 + 1) cap2) (0 + 1) ([] ++ ints s))
    (hat : Value.ownBlock (.slice none 0 0) = some g2 ∨ g2 = w4.heap.size + 1) :
    QAt (w5.setCell ⟨Q, 1, none⟩ (.slice (some ⟨g2, 0, none⟩) (0 + 1) cap2)) Q wm.heap.size g2 [s] ∧ OnlyG [Q] w (w5.setCell ⟨Q, 1, none⟩ (.slice (some ⟨g2, 0, none⟩) (0 + 1) cap2)) ∧ w.heap.size ≤ wm.heap.size ∧ w.heap.size ≤ g2 := by
  have hg2 : g2 = w4.heap.size + 1 := by
    rcases hat with h | h
    · simp [Value.ownBlock] at h
    · exact h
  have k5 : ∀ k, k < w4.heap.size → w5.heap[k]? = w4.heap[k]? := fun k hk => by
    rw [h5.block k (by simp; omega) (by simp [Value.ownBlock])]
    exact RowKit.Below.heap_alloc _ _ _ hk
  have hsz5 : w4.heap.size + 1 ≤ w5.heap.size := by have := h5.size; simpa using this
  have kB : w5.heap[wm.heap.size]? = w4.heap[wm.heap.size]? := k5 _ (by omega)
  have kQ : w5.heap[Q]? = w4.heap[Q]? := k5 Q (by omega)
  refine ⟨⟨⟨cap2, ?_, ?_⟩, ?_, by omega, by omega, by omega, ?_⟩, ?_, by omega, by omega⟩
  · have hq5 : Blk w5 Q #[.map (some wm.heap.size), .slice none 0 0] 70 := by unfold Blk at *; rw [kQ]; exact hq
    exact Blk.eq (hq5.set 1 _) (by simp)
  · obtain ⟨h1, ho⟩ := hown
    refine ⟨by simpa using h1, ?_⟩
    rcases ho with ⟨e, -⟩ | ⟨g', cap', cur, e, h0, h2, r⟩
    · cases e
    · cases e
      refine .inr ⟨g2, cap2, cur, by simp, h0, ?_, by simpa using r⟩
      rw [RowKit.Below.heap_setCell _ _ _ _ (show g2 ≠ Q by omega)]; exact h2
  · refine hset.keep ?_
    rw [RowKit.Below.heap_setCell _ _ _ _ (show wm.heap.size ≠ Q by omega)]; exact kB
  · intro r hr
    simp at hr; exact hr ▸ hs
  · refine OnlyG.set ⟨?_, ?_, ?_, by omega, fun k h0 hk => ?_⟩ (by simp) _ _
    · exact h5.os.trans ho.os
    · exact h5.tape.trans ho.tape
    · exact h5.output.trans ho.output
    · simp at hk
      rw [k5 k (by omega)]
      exact ho.block k h0 (by simpa using hk)

set_option maxHeartbeats 2000000 in
set_option maxRecDepth 100000 in
theorem add_first {w : World} {Q : Nat} {s : List Int} (hb : Blk w Q #[.map none, .slice none 0 0] 70) (hs : Wf s) :
    Calls Try.prog 33 #[.pointer (some ⟨Q, 0, none⟩), stVal s] w fun e w' => e = .returned (.tuple #[]) ∧ ∃ B g, QAt w' Q B g [s] ∧ OnlyG [Q] w w' ∧ w.heap.size ≤ B ∧ w.heap.size ≤ g := by
  have hQ := hb.lt
  have hl1 := hs.len
  have HB := Lib.hid (Blk.new w (ints s).toArray 77)
  have HQB := Lib.hid (hb.alloc (.cells (ints s).toArray 77))
  have HO : Hid (OnlyG [Q] w (w.alloc (.cells (ints s).toArray 77))) := (OnlyG.refl _ _).alloc _
  have HIS : Hid ((ints s).toArray.size = 60) := by show _ = _; simp [ints, hl1]
  have HSZ : Hid ((w.alloc (.cells (ints s).toArray 77)).heap.size = w.heap.size + 1) := by show _ = _; simp
  have HS := Lib.hid hs
  obtain ⟨i0, hi, hz0, hz1, hz2⟩ := info_parts infoKK
  clear hs hb
  unfold stVal
  go_enter Try.func33, Try.ntmps33
  go_upto_region 1 with fail
  generalize w.alloc (.cells (ints s).toArray 77) = wx at HB HQB HO HSZ ⊢
  have c0 : wx.cell? ⟨Q, 0, none⟩ = some (.map none) := HQB.out.cell 0
  have f0m := (HQB.out.alloc (.map #[] 0)).free 0
  have c0m : (wx.alloc (.map #[] 0)).cell? ⟨Q, 0, none⟩ = some (.map none) := (HQB.out.alloc (.map #[] 0)).cell 0
  have nl := nil_yes
  have hmm := @run_makeMap Try.prog
  go_upto_region 3 with fail
  have HLT : Hid (Q < wx.heap.size) := by show _ < _; rw [HSZ.out]; omega
  have HB2 : Hid (Blk ((wx.alloc (.map #[] 0)).setCell ⟨Q, 0, none⟩ (.map (some wx.heap.size))) w.heap.size (ints s).toArray 77) := (HB.out.alloc _).other (by omega) _ _
  have HQ2 : Hid (Blk ((wx.alloc (.map #[] 0)).setCell ⟨Q, 0, none⟩ (.map (some wx.heap.size))) Q #[.map (some wx.heap.size), .slice none 0 0] 70) := Blk.eq ((HQB.out.alloc _).set 0 _) (by simp)
  have HO2 : Hid (OnlyG [Q] w ((wx.alloc (.map #[] 0)).setCell ⟨Q, 0, none⟩ (.map (some wx.heap.size)))) := (HO.out.alloc _).set (by simp) _ _
  have HST : Hid (SetAt ((wx.alloc (.map #[] 0)).setCell ⟨Q, 0, none⟩ (.map (some wx.heap.size))) wx.heap.size []) := (set_made wx).keep (RowKit.Below.heap_setCell _ _ _ _ (by have := HLT.out; show _ ≠ Q; omega))
  have HSZ2 : Hid (((wx.alloc (.map #[] 0)).setCell ⟨Q, 0, none⟩ (.map (some wx.heap.size))).heap.size = wx.heap.size + 1) := by show _ = _; simp
  have HWX : Hid (w.heap.size + 1 ≤ wx.heap.size) := by have := HSZ.out; show _ ≤ _; omega
  clear HB HQB HO c0 c0m f0m nl hmm
  generalize ((wx.alloc (.map #[] 0)).setCell ⟨Q, 0, none⟩ (.map (some wx.heap.size))) = wq at HB2 HQ2 HO2 HST HSZ2 ⊢
  have c0 : wq.cell? ⟨Q, 0, none⟩ = some (.map (some wx.heap.size)) := HQ2.out.cell 0
  have ld : ∀ m, (Instr.loadAt 77 (.pointer (some ⟨w.heap.size, 0, none⟩))).run Try.prog (wq.drewN m) = .ok (.agg (ints s).toArray) (wq.drewN m) := fun m => load_row (w := wq.drewN m) HB2.out HIS.out
  have lk : ∀ m, (Instr.lookup 67 (.map (some wx.heap.size)) (.agg (ints s).toArray) false).run Try.prog (wq.drewN m) = .ok (.bool false) (wq.drewN m) := fun m => by
    have := (HST.out.keep (w' := wq.drewN m) rfl).look HS.out
    rw [show decide (s ∈ ([] : List (List Int))) = false by simp] at this
    exact this
  refine wp_region_quiet_lit (by kernel_rfl) (by kernel_rfl) ?_
  quiet_step (fail)
  quiet_step (fail)
  quiet_step (fail)
  quiet_step (fail)
  refine quiet_load 77 _ rfl (by rfl) _ _ rfl (by rintro w' ⟨m, rfl⟩; exact ld m) ?_
  try simp only [Act.put, List.setIfInBounds_toArray, List.set_cons_zero, List.set_cons_succ]
  clear ld
  repeat (quiet_step (fail))
  refine wpQuiet_nil ?_
  rintro _ ⟨nq, rfl⟩
  have HB3 : Hid (Blk (wq.drewN nq) w.heap.size (ints s).toArray 77) := HB2.out
  have HQ3 : Hid (Blk (wq.drewN nq) Q #[.map (some wx.heap.size), .slice none 0 0] 70) := HQ2.out
  have HO3 : Hid (OnlyG [Q] w (wq.drewN nq)) := HO2.out.drewN nq
  have HST3 : Hid (SetAt (wq.drewN nq) wx.heap.size []) := HST.out.keep rfl
  have HSZ3 : Hid ((wq.drewN nq).heap.size = wx.heap.size + 1) := HSZ2.out
  clear HB2 HQ2 HO2 HST HSZ2 c0 lk
  generalize wq.drewN nq = wr at HB3 HQ3 HO3 HST3 HSZ3 ⊢
  go_upto_region 4 with fail
  obtain ⟨w4, hput, hset, honly⟩ := (HST3.out.keep (w' := wr.drew) rfl).put HS.out (by simp)
  unfold stVal at hput
  have HSET := Lib.hid hset
  have HON := Lib.hid honly
  have c0 : wr.cell? ⟨Q, 0, none⟩ = some (.map (some wx.heap.size)) := HQ3.out.cell 0
  clear hset honly
  have HB4 : Hid (Blk w4 w.heap.size (ints s).toArray 77) := HON.out.blk (by have := HWX.out; simp; omega) HB3.out
  have HQ4 : Hid (Blk w4 Q #[.map (some wx.heap.size), .slice none 0 0] 70) := HON.out.blk (b := Q) (by have := HLT.out; simp; omega) HQ3.out
  refine wp_region_held_drew (S := fun w' => Blk w' w.heap.size (ints s).toArray 77 ∧ w'.cell? ⟨Q, 0, none⟩ = some (.map (some wx.heap.size))) (by kernel_rfl) ⟨HB3.out, c0⟩ (fun hHeld => ?_)
  refine wpAnyH_take (i := 0) (v := ?_) rfl (by kernel_rfl) (by kernel_rfl) (by kernel_rfl) (fun _ _ _ h => h) (Or.inl ⟨by rfl, ?_⟩) hHeld ?_
  rotate_left
  · (intro w hSw; (try dsimp only at hSw); go_simp <;> with_reducible rfl)
  try simp only [Act.put, List.setIfInBounds_toArray, List.set_cons_zero, List.set_cons_succ]
  refine wpAnyH_take (i := 1) (v := ?_) rfl (by kernel_rfl) (by kernel_rfl) (by kernel_rfl) (fun _ _ _ h => h) (Or.inl ⟨by rfl, ?_⟩) hHeld ?_
  rotate_left
  · (intro w hSw; (try dsimp only at hSw); go_simp <;> with_reducible rfl)
  try simp only [Act.put, List.setIfInBounds_toArray, List.set_cons_zero, List.set_cons_succ]
  refine wpAnyH_take (i := 2) (v := ?_) rfl (by kernel_rfl) (by kernel_rfl) (by kernel_rfl) (fun _ _ _ h => h) (Or.inl ⟨by rfl, ?_⟩) hHeld ?_
  rotate_left
  · (intro w hSw; (try dsimp only at hSw); go_simp <;> with_reducible rfl)
  try simp only [Act.put, List.setIfInBounds_toArray, List.set_cons_zero, List.set_cons_succ]
  refine wpAnyH_take (i := 3) (v := ?_) rfl (by kernel_rfl) (by kernel_rfl) (by kernel_rfl) (fun _ _ _ h => h) (Or.inl ⟨by rfl, ?_⟩) hHeld ?_
  rotate_left
  · (intro w hSw; (try dsimp only at hSw); go_simp <;> with_reducible rfl)
  try simp only [Act.put, List.setIfInBounds_toArray, List.set_cons_zero, List.set_cons_succ]
  refine wpAnyH_take (i := 4) (v := .agg (ints s).toArray) rfl (by kernel_rfl) (by kernel_rfl) (by kernel_rfl) (fun _ _ _ h => h) (yields_load (by rfl) 77 _ rfl (.pointer (some ⟨w.heap.size, 0, none⟩)) _ rfl (fun w hw => load_row hw.1 HIS.out)) hHeld ?_
  try simp only [Act.put, List.setIfInBounds_toArray, List.set_cons_zero, List.set_cons_succ]
  refine wpAnyH_ready (rs := [5]) (by kernel_rfl) (by simp) ?_
  refine AllReadyH.cons rfl (fun K hK => ?_) ?_
  rotate_left
  · exact AllReadyH.nil
  · go_simp
    refine hK.out _ _ ⟨HB4.out, HQ4.out.cell 0⟩ (fun hHeld => ?_)
    clear hK K
    try simp only [Act.put, List.setIfInBounds_toArray, List.set_cons_zero, List.set_cons_succ]
    refine wpAnyH_done (by kernel_rfl) ?_ _
    have c1 : w4.cell? ⟨Q, 1, none⟩ = some (.slice none 0 0) := HQ4.out.cell 1
    have f1 := HQ4.out.free 1
    have HSZ4 : Hid (wx.heap.size + 1 = w4.heap.size) := by show _ = _; rw [HON.out.size]; exact HSZ3.out.symm
    have HO4 : Hid (OnlyG [Q] w w4) := ⟨HON.out.os.trans HO3.out.os, HON.out.tape.trans HO3.out.tape, HON.out.output.trans HO3.out.output, by have := HSZ4.out; have := HWX.out; omega, fun k h0 hk => (HON.out.block k (by have := HWX.out; simp; omega)).trans (HO3.out.block k h0 hk)⟩
    have HPOS : Hid (0 < (ints s).toArray.size) := by show 0 < _; rw [HIS.out]; decide
    have HSM : Hid ((ints s).toArray.size ≤ 1000) := by show _ ≤ _; rw [HIS.out]; decide
    have hs0 : i0.size = (ints s).toArray.size := by rw [HIS.out]; exact hz1
    have hzs : (Value.agg (List.toArray (Value.int .i64 0 :: Value.int .i64 0 :: Value.int .i64 0 :: Value.int .i64 0 :: Value.int .i64 0 :: Value.int .i64 0 :: Value.int .i64 0 :: Value.int .i64 0 :: Value.int .i64 0 :: Value.int .i64 0 :: Value.int .i64 0 :: Value.int .i64 0 :: Value.int .i64 0 :: Value.int .i64 0 :: Value.int .i64 0 :: Value.int .i64 0 :: Value.int .i64 0 :: Value.int .i64 0 :: Value.int .i64 0 :: Value.int .i64 0 :: Value.int .i64 0 :: Value.int .i64 0 :: Value.int .i64 0 :: Value.int .i64 0 :: Value.int .i64 0 :: Value.int .i64 0 :: Value.int .i64 0 :: Value.int .i64 0 :: Value.int .i64 0 :: Value.int .i64 0 :: Value.int .i64 0 :: Value.int .i64 0 :: Value.int .i64 0 :: Value.int .i64 0 :: Value.int .i64 0 :: Value.int .i64 0 :: Value.int .i64 0 :: Value.int .i64 0 :: Value.int .i64 0 :: Value.int .i64 0 :: Value.int .i64 0 :: Value.int .i64 0 :: Value.int .i64 0 :: Value.int .i64 0 :: Value.int .i64 0 :: Value.int .i64 0 :: Value.int .i64 0 :: Value.int .i64 0 :: Value.int .i64 0 :: Value.int .i64 0 :: Value.int .i64 0 :: Value.int .i64 0 :: Value.int .i64 0 :: Value.int .i64 0 :: Value.int .i64 0 :: Value.int .i64 0 :: Value.int .i64 0 :: Value.int .i64 0 :: Value.int .i64 0 :: Value.int .i64 0 :: []))).cells.size = (ints s).toArray.size := by rw [HIS.out]; rfl
    have HLN : Hid ((ints s).length = 1 * 60) := by show _ = _; have := HIS.out; simp at this; omega
    have H1 : Hid (∀ u ∈ ints s, u.oneCell' = true) := by intro v hv; simp [ints] at hv; obtain ⟨x, -, rfl⟩ := hv; rfl
    have hml : 0 + 1 ≤ maxLen := by unfold maxLen; omega
    have HO0 : Hid (w4.ownsRow 0 77 60 (.slice none 0 0) 0 []) := World.ownsRow_nil w4 0 _ _
    clear HB3 HQ3 HO3 HST3 hput c0 HON hHeld
    go_upto_region 5 with fail
    refine wp_region_held_drew (S := fun w' => Blk w' w.heap.size (ints s).toArray 77) (by kernel_rfl) HB4.out (fun hHeld => ?_)
    refine wpAnyH_take (i := 0) (v := ?_) rfl (by kernel_rfl) (by kernel_rfl) (by kernel_rfl) (fun _ _ _ h => h) (Or.inl ⟨by rfl, ?_⟩) hHeld ?_
    rotate_left
    · (intro w hSw; (try dsimp only at hSw); go_simp <;> with_reducible rfl)
    try simp only [Act.put, List.setIfInBounds_toArray, List.set_cons_zero, List.set_cons_succ]
    refine wpAnyH_take (i := 1) (v := ?_) rfl (by kernel_rfl) (by kernel_rfl) (by kernel_rfl) (fun _ _ _ h => h) (Or.inl ⟨by rfl, ?_⟩) hHeld ?_
    rotate_left
    · (intro w hSw; (try dsimp only at hSw); go_simp <;> with_reducible rfl)
    try simp only [Act.put, List.setIfInBounds_toArray, List.set_cons_zero, List.set_cons_succ]
    refine wpAnyH_take (i := 2) (v := ?_) rfl (by kernel_rfl) (by kernel_rfl) (by kernel_rfl) (fun _ _ _ h => h) (Or.inl ⟨by rfl, ?_⟩) hHeld ?_
    rotate_left
    · (intro w hSw; (try dsimp only at hSw); go_simp <;> with_reducible rfl)
    try simp only [Act.put, List.setIfInBounds_toArray, List.set_cons_zero, List.set_cons_succ]
    refine wpAnyH_take (i := 3) (v := ?_) rfl (by kernel_rfl) (by kernel_rfl) (by kernel_rfl) (fun _ _ _ h => h) (Or.inl ⟨by rfl, ?_⟩) hHeld ?_
    rotate_left
    · (intro w hSw; (try dsimp only at hSw); go_simp <;> with_reducible rfl)
    try simp only [Act.put, List.setIfInBounds_toArray, List.set_cons_zero, List.set_cons_succ]
    refine wpAnyH_take (i := 5) (v := .agg (ints s).toArray) rfl (by kernel_rfl) (by kernel_rfl) (by kernel_rfl) (fun _ _ _ h => h) (yields_load (by rfl) 77 _ rfl (.pointer (some ⟨w.heap.size, 0, none⟩)) _ rfl (fun w hw => load_row hw HIS.out)) hHeld ?_
    try simp only [Act.put, List.setIfInBounds_toArray, List.set_cons_zero, List.set_cons_succ]
    refine wpAnyH_ready (rs := [4, 6]) (by kernel_rfl) (by simp) ?_
    refine AllReadyH.cons rfl (fun K hK => ?_) (AllReadyH.cons rfl (fun K hK => ?_) AllReadyH.nil)
    · skip
      go_simp
      refine hK.out _ _ hHeld (fun hHeld => ?_)
      clear hK K
      try simp only [Act.put, List.setIfInBounds_toArray, List.set_cons_zero, List.set_cons_succ]
      refine wpAnyH_ready (rs := [6]) (by kernel_rfl) (by simp) ?_
      refine AllReadyH.cons rfl (fun K hK => ?_) AllReadyH.nil
      refine step_build1 rfl 68 77 _ rfl (ints s).toArray i0 _ Try.underlying68 hi hz0 hs0 hzs HPOS.out HSM.out rfl ?_
      refine hK.out _ _ (hHeld.alloc _) (fun hHeld => ?_)
      clear hK K
      try simp only [Act.put, List.setIfInBounds_toArray, List.set_cons_zero, List.set_cons_succ]
      refine wpAnyH_ready (rs := [7]) (by kernel_rfl) (by simp) ?_
      refine AllReadyH.cons rfl (fun K hK => ?_) AllReadyH.nil
      refine step_append_lies _ rfl _ _ 68 rfl 0 77 i0 _ 60 480 Try.underlying68 hi hz0 hz1 hz2 rfl (by decide) (.slice none 0 0) 0 [] rfl ((World.ownsRow.alloc (w := w4.drew) HO0.out _)) ⟨w4.drew.heap.size, 0, none⟩ 1 1 (ints s) rfl HLN.out (fun j u h => news_cell w4.drew _ _ j u h) H1.out (by decide) hml (by decide) (Nat.zero_le _) (w4.heap.size + 1) (by simp) ?_
      intro g2 cap2 w5 hown5 hgrow5 hat5 hlt5
      have hQ5 : Blk w5 Q #[.map (some wx.heap.size), .slice none 0 0] 70 := grown_blk hgrow5 (by simp [Value.ownBlock]) ((HQ4.out).alloc _)
      have hHeld5 : Blk w5 w.heap.size (ints s).toArray 77 := grown_blk hgrow5 (by simp [Value.ownBlock]) hHeld
      refine hK.out _ _ hHeld5 (fun hHeld => ?_)
      clear hK K
      try simp only [Act.put, List.setIfInBounds_toArray, List.set_cons_zero, List.set_cons_succ]
      have d1 : w5.cell? ⟨Q, 1, none⟩ = some (.slice none 0 0) := hQ5.cell 1
      have df1 := hQ5.free 1
      have HE := Lib.hid (first_end (wm := wx) HS.out HWX.out hQ HSET.out HQ4.out HO4.out HSZ4.out hgrow5 hown5 hat5)
      clear hown5 hgrow5 hQ5 hHeld5 c1 f1
      refine wpAnyH_take (i := 8) (v := ?_) rfl (by kernel_rfl) (by kernel_rfl) (by kernel_rfl) (fun _ _ _ h => h) (Or.inl ⟨by rfl, ?_⟩) hHeld ?_
      rotate_left
      · (intro w hSw; (try dsimp only at hSw); go_simp <;> with_reducible rfl)
      try simp only [Act.put, List.setIfInBounds_toArray, List.set_cons_zero, List.set_cons_succ]
      refine wpAnyH_take (i := 9) (v := ?_) rfl (by kernel_rfl) (by kernel_rfl) (by kernel_rfl) (fun _ _ _ h => h) (Or.inl ⟨by rfl, ?_⟩) hHeld ?_
      rotate_left
      · (intro w hSw; (try dsimp only at hSw); go_simp <;> with_reducible rfl)
      try simp only [Act.put, List.setIfInBounds_toArray, List.set_cons_zero, List.set_cons_succ]
      refine wpAnyH_ready (rs := [10]) (by kernel_rfl) (by simp) ?_
      refine AllReadyH.cons rfl (fun K hK => ?_) AllReadyH.nil
      go_simp
      refine hK.out _ _ (hHeld.other (by omega) _ _) (fun hHeld => ?_)
      clear hK K
      try simp only [Act.put, List.setIfInBounds_toArray, List.set_cons_zero, List.set_cons_succ]
      refine wpAnyH_done (by kernel_rfl) ?_ _
      go_wp2_with fail
      go_end0
      exact ⟨rfl, _, g2, HE.out.1, HE.out.2.1, HE.out.2.2.1, HE.out.2.2.2⟩
    · have c1a : (w4.alloc (.cells (ints s).toArray 77)).cell? ⟨Q, 1, none⟩ = some (.slice none 0 0) := (HQ4.out.alloc _).cell 1
      refine step_build1 rfl 68 77 _ rfl (ints s).toArray i0 _ Try.underlying68 hi hz0 hs0 hzs HPOS.out HSM.out rfl ?_
      refine hK.out _ _ (hHeld.alloc _) (fun hHeld => ?_)
      clear hK K
      try simp only [Act.put, List.setIfInBounds_toArray, List.set_cons_zero, List.set_cons_succ]
      refine wpAnyH_ready (rs := [4]) (by kernel_rfl) (by simp) ?_
      refine AllReadyH.cons rfl (fun K hK => ?_) AllReadyH.nil
      go_simp
      refine hK.out _ _ hHeld (fun hHeld => ?_)
      clear hK K
      try simp only [Act.put, List.setIfInBounds_toArray, List.set_cons_zero, List.set_cons_succ]
      refine wpAnyH_ready (rs := [7]) (by kernel_rfl) (by simp) ?_
      refine AllReadyH.cons rfl (fun K hK => ?_) AllReadyH.nil
      refine step_append_lies _ rfl _ _ 68 rfl 0 77 i0 _ 60 480 Try.underlying68 hi hz0 hz1 hz2 rfl (by decide) (.slice none 0 0) 0 [] rfl ((World.ownsRow.alloc (w := w4.drew) HO0.out _)) ⟨w4.drew.heap.size, 0, none⟩ 1 1 (ints s) rfl HLN.out (fun j u h => news_cell w4.drew _ _ j u h) H1.out (by decide) hml (by decide) (Nat.zero_le _) (w4.heap.size + 1) (by simp) ?_
      intro g2 cap2 w5 hown5 hgrow5 hat5 hlt5
      have hQ5 : Blk w5 Q #[.map (some wx.heap.size), .slice none 0 0] 70 := grown_blk hgrow5 (by simp [Value.ownBlock]) ((HQ4.out).alloc _)
      have hHeld5 : Blk w5 w.heap.size (ints s).toArray 77 := grown_blk hgrow5 (by simp [Value.ownBlock]) hHeld
      refine hK.out _ _ hHeld5 (fun hHeld => ?_)
      clear hK K
      try simp only [Act.put, List.setIfInBounds_toArray, List.set_cons_zero, List.set_cons_succ]
      have d1 : w5.cell? ⟨Q, 1, none⟩ = some (.slice none 0 0) := hQ5.cell 1
      have df1 := hQ5.free 1
      have HE := Lib.hid (first_end (wm := wx) HS.out HWX.out hQ HSET.out HQ4.out HO4.out HSZ4.out hgrow5 hown5 hat5)
      clear hown5 hgrow5 hQ5 hHeld5 c1 f1
      refine wpAnyH_take (i := 8) (v := ?_) rfl (by kernel_rfl) (by kernel_rfl) (by kernel_rfl) (fun _ _ _ h => h) (Or.inl ⟨by rfl, ?_⟩) hHeld ?_
      rotate_left
      · (intro w hSw; (try dsimp only at hSw); go_simp <;> with_reducible rfl)
      try simp only [Act.put, List.setIfInBounds_toArray, List.set_cons_zero, List.set_cons_succ]
      refine wpAnyH_take (i := 9) (v := ?_) rfl (by kernel_rfl) (by kernel_rfl) (by kernel_rfl) (fun _ _ _ h => h) (Or.inl ⟨by rfl, ?_⟩) hHeld ?_
      rotate_left
      · (intro w hSw; (try dsimp only at hSw); go_simp <;> with_reducible rfl)
      try simp only [Act.put, List.setIfInBounds_toArray, List.set_cons_zero, List.set_cons_succ]
      refine wpAnyH_ready (rs := [10]) (by kernel_rfl) (by simp) ?_
      refine AllReadyH.cons rfl (fun K hK => ?_) AllReadyH.nil
      go_simp
      refine hK.out _ _ (hHeld.other (by omega) _ _) (fun hHeld => ?_)
      clear hK K
      try simp only [Act.put, List.setIfInBounds_toArray, List.set_cons_zero, List.set_cons_succ]
      refine wpAnyH_done (by kernel_rfl) ?_ _
      go_wp2_with fail
      go_end0
      exact ⟨rfl, _, g2, HE.out.1, HE.out.2.1, HE.out.2.2.1, HE.out.2.2.2⟩
/-- Add: a thing is in the queue once. -/
theorem add_any {w : World} {Q B g : Nat} {ss : List (List Int)} {s : List Int} (h : QAt w Q B g ss) (hs : Wf s) (hl : ss.length < 100000000000) :
    Calls Try.prog 33 #[.pointer (some ⟨Q, 0, none⟩), stVal s] w fun e w' => e = .returned (.tuple #[]) ∧ ∃ g', QAt w' Q B g' (Bfs.add ss s) ∧ OnlyG [Q, B, g] w w' ∧ (g' = g ∨ w.heap.size ≤ g') := by
  by_cases hm : s ∈ ss
  · refine (add_old h hs hm).mono ?_
    rintro e w' ⟨rfl, hb⟩
    refine ⟨rfl, g, ?_, ⟨hb.os, hb.tape, hb.output, hb.size, fun k h0 _ => hb.block k h0⟩, .inl rfl⟩
    unfold Bfs.add; rw [if_pos hm]; exact h.new hb
  · refine (add_new h hs hm hl).mono ?_
    rintro e w' ⟨rfl, g', hq, ho, hg⟩
    refine ⟨rfl, g', ?_, ho, hg⟩
    unfold Bfs.add; rw [if_neg hm]; exact hq
end Go.Proofs.Ytimbdjmplcgilaa.TQ
