import Derived.Test.YtimbdjmplcgilaaTQ
import Derived.Test.YtimbdjmplcgilaaQKey
namespace Go.Proofs.Ytimbdjmplcgilaa.TQ
open Go.RowKit Go.Maps
open Pr (ints)
set_option linter.unusedVariables false
set_option linter.unusedSimpArgs false

theorem nil_no (B : Nat) (w : World) : (binOp .eql 67 (.map (some B)) (.map none)).run Try.prog w = .ok (.bool false) w := by kernel_rfl
theorem nil_yes (w : World) : (binOp .eql 67 (.map none) (.map none)).run Try.prog w = .ok (.bool true) w := by kernel_rfl
theorem infoKK : (Try.prog.info? 77).map (fun i => (i.zero, i.size, i.bytes)) = some (some (.agg (List.toArray (Value.int .i64 0 :: Value.int .i64 0 :: Value.int .i64 0 :: Value.int .i64 0 :: Value.int .i64 0 :: Value.int .i64 0 :: Value.int .i64 0 :: Value.int .i64 0 :: Value.int .i64 0 :: Value.int .i64 0 :: Value.int .i64 0 :: Value.int .i64 0 :: Value.int .i64 0 :: Value.int .i64 0 :: Value.int .i64 0 :: Value.int .i64 0 :: Value.int .i64 0 :: Value.int .i64 0 :: Value.int .i64 0 :: Value.int .i64 0 :: Value.int .i64 0 :: Value.int .i64 0 :: Value.int .i64 0 :: Value.int .i64 0 :: Value.int .i64 0 :: Value.int .i64 0 :: Value.int .i64 0 :: Value.int .i64 0 :: Value.int .i64 0 :: Value.int .i64 0 :: Value.int .i64 0 :: Value.int .i64 0 :: Value.int .i64 0 :: Value.int .i64 0 :: Value.int .i64 0 :: Value.int .i64 0 :: Value.int .i64 0 :: Value.int .i64 0 :: Value.int .i64 0 :: Value.int .i64 0 :: Value.int .i64 0 :: Value.int .i64 0 :: Value.int .i64 0 :: Value.int .i64 0 :: Value.int .i64 0 :: Value.int .i64 0 :: Value.int .i64 0 :: Value.int .i64 0 :: Value.int .i64 0 :: Value.int .i64 0 :: Value.int .i64 0 :: Value.int .i64 0 :: Value.int .i64 0 :: Value.int .i64 0 :: Value.int .i64 0 :: Value.int .i64 0 :: Value.int .i64 0 :: Value.int .i64 0 :: Value.int .i64 0 :: Value.int .i64 0 :: []))), 60, 480) := by kernel_rfl
theorem grown_blk {w w' : World} {r : Option Nat} {b : Nat} {c : Array Value} {T : TypeId} (h : w.grownBy w' r) (hb : some b ≠ r) (k : Blk w b c T) : Blk w' b c T := by
  have := k.lt
  unfold Blk at *; rw [h.block b this hb]; exact k
theorem add_end {w w4 w5 : World} {Q B g g2 cap cap2 : Nat} {ss : List (List Int)} {s : List Int} {o : Obj} (hqb : Q ≠ B) (hqg : Q ≠ g) (hbg : B ≠ g) (hwf : ∀ s ∈ ss, Wf s) (hs : Wf s) (hset : SetAt w4 B (ss ++ [s]))
    (hq : Blk w4 Q #[.map (some B), .slice (some ⟨g, 0, none⟩) ss.length cap] 70) (ho : OnlyG [Q, B, g] w w4) (hsz : w.heap.size ≤ w4.heap.size) (hg : g < w.heap.size) (hB : B < w.heap.size) (hQ : Q < w.heap.size)
    (h5 : (w4.drew.alloc o).grownBy w5 (Value.ownBlock (.slice (some ⟨g, 0, none⟩) ss.length cap))) (hown : w5.ownsRow 0 77 60 (.slice (some ⟨g2, 0, none⟩) (ss.length + 1) cap2) (ss.length + 1) (ss.flatMap ints ++ ints s))
    (hat : Value.ownBlock (.slice (some ⟨g, 0, none⟩) ss.length cap) = some g2 ∨ g2 = w4.heap.size + 1) :
    QAt (w5.setCell ⟨Q, 1, none⟩ (.slice (some ⟨g2, 0, none⟩) (ss.length + 1) cap2)) Q B g2 (ss ++ [s]) ∧ OnlyG [Q, B, g] w (w5.setCell ⟨Q, 1, none⟩ (.slice (some ⟨g2, 0, none⟩) (ss.length + 1) cap2)) ∧ (g2 = g ∨ w.heap.size ≤ g2) := by
  have hg2 : g2 = g ∨ g2 = w4.heap.size + 1 := by
    rcases hat with h | h
    · exact .inl (by simpa [Value.ownBlock] using h.symm)
    · exact .inr h
  have k5 : ∀ k, k < w4.heap.size → k ≠ g → w5.heap[k]? = w4.heap[k]? := fun k hk hne => by
    rw [h5.block k (by simp; omega) (by simpa [Value.ownBlock] using hne)]
    exact RowKit.Below.heap_alloc _ _ _ hk
  have hsz5 : w4.heap.size + 1 ≤ w5.heap.size := by have := h5.size; simpa using this
  have kB : w5.heap[B]? = w4.heap[B]? := k5 B (by omega) hbg
  have kQ : w5.heap[Q]? = w4.heap[Q]? := k5 Q (by omega) hqg
  have hq2g : Q ≠ g2 := by omega
  refine ⟨⟨⟨cap2, ?_, ?_⟩, ?_, hqb, hq2g, by omega, ?_⟩, ?_, by omega⟩
  · have hq5 : Blk w5 Q #[.map (some B), .slice (some ⟨g, 0, none⟩) ss.length cap] 70 := by unfold Blk at *; rw [kQ]; exact hq
    exact Blk.eq (hq5.set 1 _) (by simp)
  · obtain ⟨h1, ho⟩ := hown
    refine ⟨by simpa using h1, ?_⟩
    rcases ho with ⟨e, -⟩ | ⟨g', cap', cur, e, h0, h2, r⟩
    · cases e
    · cases e
      refine .inr ⟨g2, cap2, cur, by simp, h0, ?_, by simpa using r⟩
      rw [RowKit.Below.heap_setCell _ _ _ _ (show g2 ≠ Q by omega)]; exact h2
  · refine hset.keep ?_
    rw [RowKit.Below.heap_setCell _ _ _ _ (show B ≠ Q by omega)]; exact kB
  · intro r hr
    rcases List.mem_append.1 hr with hr | hr
    · exact hwf r hr
    · simp at hr; exact hr ▸ hs
  · refine OnlyG.set ⟨?_, ?_, ?_, by omega, fun k h0 hk => ?_⟩ (by simp) _ _
    · exact h5.os.trans ho.os
    · exact h5.tape.trans ho.tape
    · exact h5.output.trans ho.output
    · simp at hk
      rw [k5 k (by omega) hk.2.2]
      exact ho.block k h0 (by simpa using hk)
theorem load_row {w : World} {b : Nat} {c : Array Value} (h : Blk w b c 77) (hc : c.size = 60) : (Instr.loadAt 77 (.pointer (some ⟨b, 0, none⟩))).run Try.prog w = .ok (.agg c) w := by
  have := run_loadAt_mid (P := Try.prog) w b 0 77 c.toList _ (fun j v hv => by rw [Nat.zero_add, h.cell]; simpa using hv) Try.underlying77 rfl (by rw [infoK]; simp [hc])
  simpa using this

set_option maxHeartbeats 2000000 in
set_option maxRecDepth 100000 in
theorem add_new {w : World} {Q B g : Nat} {ss : List (List Int)} {s : List Int} (h : QAt w Q B g ss) (hs : Wf s) (hn : s ∉ ss) (hl : ss.length < 100000000000) :
    Calls Try.prog 33 #[.pointer (some ⟨Q, 0, none⟩), stVal s] w fun e w' => e = .returned (.tuple #[]) ∧ ∃ g', QAt w' Q B g' (ss ++ [s]) ∧ OnlyG [Q, B, g] w w' ∧ (g' = g ∨ w.heap.size ≤ g') := by
  have hQ := h.qlt
  have hBl := h.set.lt
  have hg := h.glt
  have hl1 := hs.len
  have HB := Lib.hid (Blk.new w (ints s).toArray 77)
  have HL : Hid (Below w.heap.size w (w.alloc (.cells (ints s).toArray 77))) := (Below.refl _ _).alloc (Nat.le_refl _) _
  have HQ := Lib.hid (h.new HL.out)
  have HO : Hid (OnlyG [Q, B, g] w (w.alloc (.cells (ints s).toArray 77))) := (OnlyG.refl _ _).alloc _
  have HIS : Hid ((ints s).toArray.size = 60) := by show _ = _; simp [ints, hl1]
  have hsz : (w.alloc (.cells (ints s).toArray 77)).heap.size = w.heap.size + 1 := by simp
  have HS := Lib.hid hs
  have HN := Lib.hid hn
  obtain ⟨i0, hi, hz0, hz1, hz2⟩ := info_parts infoKK
  clear h hs hn
  unfold stVal
  go_enter Try.func33, Try.ntmps33
  go_upto_region 1 with fail
  generalize w.alloc (.cells (ints s).toArray 77) = wx at HB HL HQ HO hsz ⊢
  obtain ⟨cap, hb, -⟩ := HQ.out.lies
  have c0 : wx.cell? ⟨Q, 0, none⟩ = some (.map (some B)) := hb.cell 0
  have c1 : wx.cell? ⟨Q, 1, none⟩ = some (.slice (some ⟨g, 0, none⟩) ss.length cap) := hb.cell 1
  have nl := nil_no B
  have ld : ∀ m, (Instr.loadAt 77 (.pointer (some ⟨w.heap.size, 0, none⟩))).run Try.prog (wx.drewN m) = .ok (.agg (ints s).toArray) (wx.drewN m) := fun m => load_row (w := wx.drewN m) HB.out HIS.out
  have lk : ∀ m, (Instr.lookup 67 (.map (some B)) (.agg (ints s).toArray) false).run Try.prog (wx.drewN m) = .ok (.bool false) (wx.drewN m) := fun m => by
    have := (HQ.out.set.keep (w' := wx.drewN m) rfl).look HS.out
    rw [show decide (s ∈ ss) = false by simpa using HN.out] at this
    exact this
  clear hb
  go_upto_region 3 with fail
  refine wp_region_quiet_lit (by kernel_rfl) (by kernel_rfl) ?_
  quiet_step (fail)
  quiet_step (fail)
  quiet_step (fail)
  quiet_step (fail)
  refine quiet_load 77 _ rfl (by rfl) _ _ rfl (by rintro w' ⟨m, rfl⟩; exact ld m) ?_
  try simp only [Act.put, List.setIfInBounds_toArray, List.set_cons_zero, List.set_cons_succ]
  clear ld
  repeat (quiet_step (fail))
  refine wpQuiet_nil ?_
  rintro _ ⟨nq, rfl⟩
  have HB2 : Hid (Blk (wx.drewN nq) w.heap.size (ints s).toArray 77) := HB.out
  have HL2 : Hid (Below w.heap.size w (wx.drewN nq)) := Pr.Below.todrewN HL.out nq
  have HQ2 : Hid (QAt (wx.drewN nq) Q B g ss) := HQ.out.keep rfl rfl rfl
  have HO2 : Hid (OnlyG [Q, B, g] w (wx.drewN nq)) := HO.out.drewN nq
  have hsz2 : (wx.drewN nq).heap.size = w.heap.size + 1 := hsz
  clear HB HL HQ HO hsz c0 c1 lk
  generalize wx.drewN nq = wq at HB2 HL2 HQ2 HO2 hsz2 ⊢
  go_upto_region 4 with fail
  obtain ⟨w4, hput, hset, honly⟩ := (HQ2.out.set.keep (w' := wq.drew) rfl).put HS.out (by omega)
  unfold stVal at hput
  have HSET := Lib.hid hset
  have HON := Lib.hid honly
  have c0 : wq.cell? ⟨Q, 0, none⟩ = some (.map (some B)) := by obtain ⟨cap, hb, -⟩ := HQ2.out.lies; exact hb.cell 0
  clear hset honly
  have HB4 : Hid (Blk w4 w.heap.size (ints s).toArray 77) := HON.out.blk (by simp; omega) HB2.out
  refine wp_region_held_drew (S := fun w' => Blk w' w.heap.size (ints s).toArray 77 ∧ w'.cell? ⟨Q, 0, none⟩ = some (.map (some B))) (by kernel_rfl) ⟨HB2.out, c0⟩ (fun hHeld => ?_)
  refine wpAnyH_take (i := 0) (v := ?_) rfl (by kernel_rfl) (by kernel_rfl) (by kernel_rfl) (fun _ _ _ h => h) (Or.inl ⟨by rfl, ?_⟩) hHeld ?_
  rotate_left
  · (intro w hSw; (try dsimp only at hSw); go_simp <;> with_reducible rfl)
  try simp only [Act.put, List.setIfInBounds_toArray, List.set_cons_zero, List.set_cons_succ]
  refine wpAnyH_take (i := 1) (v := ?_) rfl (by kernel_rfl) (by kernel_rfl) (by kernel_rfl) (fun _ _ _ h => h) (Or.inl ⟨by rfl, ?_⟩) hHeld ?_
  rotate_left
  · (intro w hSw; (try dsimp only at hSw); go_simp <;> with_reducible rfl)
  try simp only [Act.put, List.setIfInBounds_toArray, List.set_cons_zero, List.set_cons_succ]
  refine wpAnyH_take (i := 2) (v := ?_) rfl (by kernel_rfl) (by kernel_rfl) (by kernel_rfl) (fun _ _ _ h => h) (Or.inl ⟨by rfl, ?_⟩) hHeld ?_
  rotate_left
  · (intro w hSw; (try dsimp only at hSw); go_simp <;> with_reducible rfl)
  try simp only [Act.put, List.setIfInBounds_toArray, List.set_cons_zero, List.set_cons_succ]
  refine wpAnyH_take (i := 3) (v := ?_) rfl (by kernel_rfl) (by kernel_rfl) (by kernel_rfl) (fun _ _ _ h => h) (Or.inl ⟨by rfl, ?_⟩) hHeld ?_
  rotate_left
  · (intro w hSw; (try dsimp only at hSw); go_simp <;> with_reducible rfl)
  try simp only [Act.put, List.setIfInBounds_toArray, List.set_cons_zero, List.set_cons_succ]
  refine wpAnyH_take (i := 4) (v := .agg (ints s).toArray) rfl (by kernel_rfl) (by kernel_rfl) (by kernel_rfl) (fun _ _ _ h => h) (yields_load (by rfl) 77 _ rfl (.pointer (some ⟨w.heap.size, 0, none⟩)) _ rfl (fun w hw => load_row hw.1 HIS.out)) hHeld ?_
  try simp only [Act.put, List.setIfInBounds_toArray, List.set_cons_zero, List.set_cons_succ]
  refine wpAnyH_ready (rs := [5]) (by kernel_rfl) (by simp) ?_
  refine AllReadyH.cons rfl (fun K hK => ?_) ?_
  rotate_left
  · exact AllReadyH.nil
  · go_simp
    refine hK.out _ _ ⟨HB4.out, by rw [World.cell?_of_block (HON.out.block Q (by simpa using HQ2.out.qb))]; exact c0⟩ (fun hHeld => ?_)
    clear hK K
    try simp only [Act.put, List.setIfInBounds_toArray, List.set_cons_zero, List.set_cons_succ]
    refine wpAnyH_done (by kernel_rfl) ?_ _
    have hqb := HQ2.out.qb
    have hqg := HQ2.out.qg
    have hbg := HQ2.out.bg
    have hwf := HQ2.out.wf
    obtain ⟨cap, hblk, hown⟩ := HQ2.out.lies
    have HQB : Hid (Blk w4 Q #[.map (some B), .slice (some ⟨g, 0, none⟩) ss.length cap] 70) := HON.out.blk (b := Q) (by simpa using hqb) hblk
    have c1 : w4.cell? ⟨Q, 1, none⟩ = some (.slice (some ⟨g, 0, none⟩) ss.length cap) := HQB.out.cell 1
    have f1 := HQB.out.free 1
    have HOW : Hid (w4.ownsRow 0 77 60 (.slice (some ⟨g, 0, none⟩) ss.length cap) ss.length (ss.flatMap ints)) := by
      obtain ⟨h1, ho⟩ := hown
      refine ⟨h1, ?_⟩
      rcases ho with ⟨e, -⟩ | ⟨g', cap', cur, e, h0, h2, r⟩
      · cases e
      · cases e
        exact .inr ⟨g, cap, cur, rfl, h0, by rw [HON.out.block g (by simpa using hbg.symm)]; exact h2, r⟩
    have HSZ4 : Hid (w4.heap.size = w.heap.size + 1) := by show _ = _; rw [HON.out.size]; exact hsz2
    have HO4 : Hid (OnlyG [Q, B, g] w w4) := ⟨HON.out.os.trans HO2.out.os, HON.out.tape.trans HO2.out.tape, HON.out.output.trans HO2.out.output, by have := HSZ4.out; omega, fun k h0 hk => (HON.out.block k (by simp at hk ⊢; exact hk.2.1)).trans (HO2.out.block k h0 hk)⟩
    have HPOS : Hid (0 < (ints s).toArray.size) := by show 0 < _; rw [HIS.out]; decide
    have HSM : Hid ((ints s).toArray.size ≤ 1000) := by show _ ≤ _; rw [HIS.out]; decide
    have hs0 : i0.size = (ints s).toArray.size := by rw [HIS.out]; exact hz1
    have hzs : (Value.agg (List.toArray (Value.int .i64 0 :: Value.int .i64 0 :: Value.int .i64 0 :: Value.int .i64 0 :: Value.int .i64 0 :: Value.int .i64 0 :: Value.int .i64 0 :: Value.int .i64 0 :: Value.int .i64 0 :: Value.int .i64 0 :: Value.int .i64 0 :: Value.int .i64 0 :: Value.int .i64 0 :: Value.int .i64 0 :: Value.int .i64 0 :: Value.int .i64 0 :: Value.int .i64 0 :: Value.int .i64 0 :: Value.int .i64 0 :: Value.int .i64 0 :: Value.int .i64 0 :: Value.int .i64 0 :: Value.int .i64 0 :: Value.int .i64 0 :: Value.int .i64 0 :: Value.int .i64 0 :: Value.int .i64 0 :: Value.int .i64 0 :: Value.int .i64 0 :: Value.int .i64 0 :: Value.int .i64 0 :: Value.int .i64 0 :: Value.int .i64 0 :: Value.int .i64 0 :: Value.int .i64 0 :: Value.int .i64 0 :: Value.int .i64 0 :: Value.int .i64 0 :: Value.int .i64 0 :: Value.int .i64 0 :: Value.int .i64 0 :: Value.int .i64 0 :: Value.int .i64 0 :: Value.int .i64 0 :: Value.int .i64 0 :: Value.int .i64 0 :: Value.int .i64 0 :: Value.int .i64 0 :: Value.int .i64 0 :: Value.int .i64 0 :: Value.int .i64 0 :: Value.int .i64 0 :: Value.int .i64 0 :: Value.int .i64 0 :: Value.int .i64 0 :: Value.int .i64 0 :: Value.int .i64 0 :: Value.int .i64 0 :: Value.int .i64 0 :: Value.int .i64 0 :: []))).cells.size = (ints s).toArray.size := by rw [HIS.out]; rfl
    have HLN : Hid ((ints s).length = 1 * 60) := by show _ = _; have := HIS.out; simp at this; omega
    have H1 : Hid (∀ u ∈ ints s, u.oneCell' = true) := by intro v hv; simp [ints] at hv; obtain ⟨x, -, rfl⟩ := hv; rfl
    have hml : ss.length + 1 ≤ maxLen := by unfold maxLen; omega
    have hby : (ss.length + 1) * 480 ≤ 140737488355328 := by omega
    clear HB2 HL2 HQ2 HO2 hsz2 hput c0 hblk hown HON hHeld
    go_upto_region 5 with fail
    refine wp_region_held_drew (S := fun w' => Blk w' w.heap.size (ints s).toArray 77) (by kernel_rfl) HB4.out (fun hHeld => ?_)
    refine wpAnyH_take (i := 0) (v := ?_) rfl (by kernel_rfl) (by kernel_rfl) (by kernel_rfl) (fun _ _ _ h => h) (Or.inl ⟨by rfl, ?_⟩) hHeld ?_
    rotate_left
    · (intro w hSw; (try dsimp only at hSw); go_simp <;> with_reducible rfl)
    try simp only [Act.put, List.setIfInBounds_toArray, List.set_cons_zero, List.set_cons_succ]
    refine wpAnyH_take (i := 1) (v := ?_) rfl (by kernel_rfl) (by kernel_rfl) (by kernel_rfl) (fun _ _ _ h => h) (Or.inl ⟨by rfl, ?_⟩) hHeld ?_
    rotate_left
    · (intro w hSw; (try dsimp only at hSw); go_simp <;> with_reducible rfl)
    try simp only [Act.put, List.setIfInBounds_toArray, List.set_cons_zero, List.set_cons_succ]
    refine wpAnyH_take (i := 2) (v := ?_) rfl (by kernel_rfl) (by kernel_rfl) (by kernel_rfl) (fun _ _ _ h => h) (Or.inl ⟨by rfl, ?_⟩) hHeld ?_
    rotate_left
    · (intro w hSw; (try dsimp only at hSw); go_simp <;> with_reducible rfl)
    try simp only [Act.put, List.setIfInBounds_toArray, List.set_cons_zero, List.set_cons_succ]
    refine wpAnyH_take (i := 3) (v := ?_) rfl (by kernel_rfl) (by kernel_rfl) (by kernel_rfl) (fun _ _ _ h => h) (Or.inl ⟨by rfl, ?_⟩) hHeld ?_
    rotate_left
    · (intro w hSw; (try dsimp only at hSw); go_simp <;> with_reducible rfl)
    try simp only [Act.put, List.setIfInBounds_toArray, List.set_cons_zero, List.set_cons_succ]
    refine wpAnyH_take (i := 5) (v := .agg (ints s).toArray) rfl (by kernel_rfl) (by kernel_rfl) (by kernel_rfl) (fun _ _ _ h => h) (yields_load (by rfl) 77 _ rfl (.pointer (some ⟨w.heap.size, 0, none⟩)) _ rfl (fun w hw => load_row hw HIS.out)) hHeld ?_
    try simp only [Act.put, List.setIfInBounds_toArray, List.set_cons_zero, List.set_cons_succ]
    refine wpAnyH_ready (rs := [4, 6]) (by kernel_rfl) (by simp) ?_
    refine AllReadyH.cons rfl (fun K hK => ?_) (AllReadyH.cons rfl (fun K hK => ?_) AllReadyH.nil)
    · skip
      go_simp
      refine hK.out _ _ hHeld (fun hHeld => ?_)
      clear hK K
      try simp only [Act.put, List.setIfInBounds_toArray, List.set_cons_zero, List.set_cons_succ]
      refine wpAnyH_ready (rs := [6]) (by kernel_rfl) (by simp) ?_
      refine AllReadyH.cons rfl (fun K hK => ?_) AllReadyH.nil
      refine step_build1 rfl 68 77 _ rfl (ints s).toArray i0 _ Try.underlying68 hi hz0 hs0 hzs HPOS.out HSM.out rfl ?_
      refine hK.out _ _ (hHeld.alloc _) (fun hHeld => ?_)
      clear hK K
      try simp only [Act.put, List.setIfInBounds_toArray, List.set_cons_zero, List.set_cons_succ]
      refine wpAnyH_ready (rs := [7]) (by kernel_rfl) (by simp) ?_
      refine AllReadyH.cons rfl (fun K hK => ?_) AllReadyH.nil
      refine step_append_lies _ rfl _ _ 68 rfl 0 77 i0 _ 60 480 Try.underlying68 hi hz0 hz1 hz2 rfl (by decide) (.slice (some ⟨g, 0, none⟩) ss.length cap) ss.length (ss.flatMap ints) rfl ((World.ownsRow.alloc (w := w4.drew) HOW.out _)) ⟨w4.drew.heap.size, 0, none⟩ 1 1 (ints s) rfl HLN.out (fun j u h => news_cell w4.drew _ _ j u h) H1.out (by decide) hml hby (Nat.zero_le _) (w4.heap.size + 1) (by simp) ?_
      intro g2 cap2 w5 hown5 hgrow5 hat5 hlt5
      have hQ5 : Blk w5 Q #[.map (some B), .slice (some ⟨g, 0, none⟩) ss.length cap] 70 := grown_blk hgrow5 (by simpa [Value.ownBlock] using hqg) ((HQB.out).alloc _)
      have hHeld5 : Blk w5 w.heap.size (ints s).toArray 77 := grown_blk hgrow5 (by simp [Value.ownBlock]; omega) hHeld
      refine hK.out _ _ hHeld5 (fun hHeld => ?_)
      clear hK K
      try simp only [Act.put, List.setIfInBounds_toArray, List.set_cons_zero, List.set_cons_succ]
      have d1 : w5.cell? ⟨Q, 1, none⟩ = some (.slice (some ⟨g, 0, none⟩) ss.length cap) := hQ5.cell 1
      have df1 := hQ5.free 1
      have HE := Lib.hid (add_end hqb hqg hbg hwf HS.out HSET.out HQB.out HO4.out (by have := HSZ4.out; omega) hg hBl hQ hgrow5 hown5 hat5)
      clear hown5 hgrow5 hQ5 hHeld5 c1 f1
      refine wpAnyH_take (i := 8) (v := ?_) rfl (by kernel_rfl) (by kernel_rfl) (by kernel_rfl) (fun _ _ _ h => h) (Or.inl ⟨by rfl, ?_⟩) hHeld ?_
      rotate_left
      · (intro w hSw; (try dsimp only at hSw); go_simp <;> with_reducible rfl)
      try simp only [Act.put, List.setIfInBounds_toArray, List.set_cons_zero, List.set_cons_succ]
      refine wpAnyH_take (i := 9) (v := ?_) rfl (by kernel_rfl) (by kernel_rfl) (by kernel_rfl) (fun _ _ _ h => h) (Or.inl ⟨by rfl, ?_⟩) hHeld ?_
      rotate_left
      · (intro w hSw; (try dsimp only at hSw); go_simp <;> with_reducible rfl)
      try simp only [Act.put, List.setIfInBounds_toArray, List.set_cons_zero, List.set_cons_succ]
      refine wpAnyH_ready (rs := [10]) (by kernel_rfl) (by simp) ?_
      refine AllReadyH.cons rfl (fun K hK => ?_) AllReadyH.nil
      go_simp
      refine hK.out _ _ (hHeld.other (by omega) _ _) (fun hHeld => ?_)
      clear hK K
      try simp only [Act.put, List.setIfInBounds_toArray, List.set_cons_zero, List.set_cons_succ]
      refine wpAnyH_done (by kernel_rfl) ?_ _
      go_wp2_with fail
      go_end0
      exact ⟨rfl, g2, HE.out.1, HE.out.2.1, HE.out.2.2⟩
    · have c1a : (w4.alloc (.cells (ints s).toArray 77)).cell? ⟨Q, 1, none⟩ = some (.slice (some ⟨g, 0, none⟩) ss.length cap) := (HQB.out.alloc _).cell 1
      refine step_build1 rfl 68 77 _ rfl (ints s).toArray i0 _ Try.underlying68 hi hz0 hs0 hzs HPOS.out HSM.out rfl ?_
      refine hK.out _ _ (hHeld.alloc _) (fun hHeld => ?_)
      clear hK K
      try simp only [Act.put, List.setIfInBounds_toArray, List.set_cons_zero, List.set_cons_succ]
      refine wpAnyH_ready (rs := [4]) (by kernel_rfl) (by simp) ?_
      refine AllReadyH.cons rfl (fun K hK => ?_) AllReadyH.nil
      go_simp
      refine hK.out _ _ hHeld (fun hHeld => ?_)
      clear hK K
      try simp only [Act.put, List.setIfInBounds_toArray, List.set_cons_zero, List.set_cons_succ]
      refine wpAnyH_ready (rs := [7]) (by kernel_rfl) (by simp) ?_
      refine AllReadyH.cons rfl (fun K hK => ?_) AllReadyH.nil
      refine step_append_lies _ rfl _ _ 68 rfl 0 77 i0 _ 60 480 Try.underlying68 hi hz0 hz1 hz2 rfl (by decide) (.slice (some ⟨g, 0, none⟩) ss.length cap) ss.length (ss.flatMap ints) rfl ((World.ownsRow.alloc (w := w4.drew) HOW.out _)) ⟨w4.drew.heap.size, 0, none⟩ 1 1 (ints s) rfl HLN.out (fun j u h => news_cell w4.drew _ _ j u h) H1.out (by decide) hml hby (Nat.zero_le _) (w4.heap.size + 1) (by simp) ?_
      intro g2 cap2 w5 hown5 hgrow5 hat5 hlt5
      have hQ5 : Blk w5 Q #[.map (some B), .slice (some ⟨g, 0, none⟩) ss.length cap] 70 := grown_blk hgrow5 (by simpa [Value.ownBlock] using hqg) ((HQB.out).alloc _)
      have hHeld5 : Blk w5 w.heap.size (ints s).toArray 77 := grown_blk hgrow5 (by simp [Value.ownBlock]; omega) hHeld
      refine hK.out _ _ hHeld5 (fun hHeld => ?_)
      clear hK K
      try simp only [Act.put, List.setIfInBounds_toArray, List.set_cons_zero, List.set_cons_succ]
      have d1 : w5.cell? ⟨Q, 1, none⟩ = some (.slice (some ⟨g, 0, none⟩) ss.length cap) := hQ5.cell 1
      have df1 := hQ5.free 1
      have HE := Lib.hid (add_end hqb hqg hbg hwf HS.out HSET.out HQB.out HO4.out (by have := HSZ4.out; omega) hg hBl hQ hgrow5 hown5 hat5)
      clear hown5 hgrow5 hQ5 hHeld5 c1 f1
      refine wpAnyH_take (i := 8) (v := ?_) rfl (by kernel_rfl) (by kernel_rfl) (by kernel_rfl) (fun _ _ _ h => h) (Or.inl ⟨by rfl, ?_⟩) hHeld ?_
      rotate_left
      · (intro w hSw; (try dsimp only at hSw); go_simp <;> with_reducible rfl)
      try simp only [Act.put, List.setIfInBounds_toArray, List.set_cons_zero, List.set_cons_succ]
      refine wpAnyH_take (i := 9) (v := ?_) rfl (by kernel_rfl) (by kernel_rfl) (by kernel_rfl) (fun _ _ _ h => h) (Or.inl ⟨by rfl, ?_⟩) hHeld ?_
      rotate_left
      · (intro w hSw; (try dsimp only at hSw); go_simp <;> with_reducible rfl)
      try simp only [Act.put, List.setIfInBounds_toArray, List.set_cons_zero, List.set_cons_succ]
      refine wpAnyH_ready (rs := [10]) (by kernel_rfl) (by simp) ?_
      refine AllReadyH.cons rfl (fun K hK => ?_) AllReadyH.nil
      go_simp
      refine hK.out _ _ (hHeld.other (by omega) _ _) (fun hHeld => ?_)
      clear hK K
      try simp only [Act.put, List.setIfInBounds_toArray, List.set_cons_zero, List.set_cons_succ]
      refine wpAnyH_done (by kernel_rfl) ?_ _
      go_wp2_with fail
      go_end0
      exact ⟨rfl, g2, HE.out.1, HE.out.2.1, HE.out.2.2⟩
end Go.Proofs.Ytimbdjmplcgilaa.TQ
