import Derived.Test.YtgkfgijmccojjaaDoorBase
import Derived.Test.YtgkfgijmccojjaaDoorSplitPlain
namespace Go.Proofs.YtgkfgijmccojjaaDoor.Split
open Go.RowKit
set_option linter.unusedVariables false

/-- The grid lies at block L, in the state s; the list: the blocks that are its own. -/
def Rep (w : World) (n L : Nat) (fb : List Nat) (s : St) : Prop :=
  ∃ M bX bY bH cap, fb = [L, bX, bY, bH] ∧ n ≤ cap ∧ M = n * (n + 1) / 2 ∧ L ≠ bX ∧ L ≠ bY ∧ L ≠ bH ∧ bX ≠ bY ∧ bX ≠ bH ∧ bY ≠ bH ∧
    Blk w L #[.slice (some ⟨bX, 0, none⟩) M M, .slice (some ⟨bY, 0, none⟩) M M, .slice (some ⟨bH, 0, none⟩) n cap] 108 ∧
    Row w bX M (fun j => j) s.xw ∧ Row w bY M (fun j => j) s.yw ∧ Row w bH n (fun j => j * 3) s.ln ∧ Row w bH n (fun j => j * 3 + 1) s.row ∧ Row w bH n (fun j => j * 3 + 2) s.col
def told (n : Nat) (p : Int) : Value := if 0 ≤ p ∧ p < n then .nilIface else .iface 77 (.int .i64 1)
def Post (n L : Nat) (fb : List Nat) (w : World) (r : Value) (s : St) (e : Ending) (w' : World) : Prop :=
  e = .returned r ∧ Rep w' n L fb s ∧ Only fb w w'
def Made (n : Nat) (w : World) (e : Ending) (w' : World) : Prop :=
  ∃ L fb, e = .returned (.tuple #[.pointer (some ⟨L, 0, none⟩), .nilIface]) ∧ Rep w' n L fb (first n) ∧ Below w.heap.size w w' ∧ (∀ k ∈ fb, w.heap.size ≤ k ∧ k < w'.heap.size)

theorem Rep.keep {w w' : World} {n L : Nat} {fb : List Nat} {s : St} (h : Rep w n L fb s) (hk : ∀ k ∈ fb, w'.heap[k]? = w.heap[k]?) : Rep w' n L fb s := by
  obtain ⟨M, bX, bY, bH, cap, rfl, hcap, hM, h1, h2, h3, h4, h5, h6, hB, rX, rY, rL, rR, rC⟩ := h
  refine ⟨M, bX, bY, bH, cap, rfl, hcap, hM, h1, h2, h3, h4, h5, h6, ?_, rX.keep (hk _ (by simp)), rY.keep (hk _ (by simp)), rL.keep (hk _ (by simp)), rR.keep (hk _ (by simp)), rC.keep (hk _ (by simp))⟩
  unfold Blk at *
  rw [hk L (by simp)]; exact hB

theorem pl_val {r c : Int} (h0 : 0 ≤ r) (h1 : 0 ≤ c) (h2 : r + c ≤ 3) : (r = 0 ∧ c = 0) ∨ (r = 0 ∧ c = 1) ∨ (r = 0 ∧ c = 2) ∨ (r = 0 ∧ c = 3) ∨ (r = 1 ∧ c = 0) ∨ (r = 1 ∧ c = 1) ∨ (r = 1 ∧ c = 2) ∨ (r = 2 ∧ c = 0) ∨ (r = 2 ∧ c = 1) ∨ (r = 3 ∧ c = 0) := by omega
/-- The place of a row and a column. -/
theorem place_any {r c : Int} {w : World} (h0 : 0 ≤ r) (h1 : 0 ≤ c) (h2 : r + c ≤ 3) : Calls Tryd.prog 83 #[.int .i64 r, .int .i64 c] w fun e w' => e = .returned (.int .i64 (pl r c)) ∧ w = w' := by
  rcases pl_val h0 h1 h2 with ⟨rfl, rfl⟩ | ⟨rfl, rfl⟩ | ⟨rfl, rfl⟩ | ⟨rfl, rfl⟩ | ⟨rfl, rfl⟩ | ⟨rfl, rfl⟩ | ⟨rfl, rfl⟩ | ⟨rfl, rfl⟩ | ⟨rfl, rfl⟩ | ⟨rfl, rfl⟩
  all_goals
    clear h0 h1 h2
    go_enter Tryd.func83, Tryd.ntmps83
    go_wp2
    go_ret
    exact ⟨rfl, rfl⟩
theorem place_q {r c : Int} {w : World} {m : Nat} (h0 : 0 ≤ r) (h1 : 0 ≤ c) (h2 : r + c ≤ 3) : Calls Tryd.prog 83 #[.int .i64 r, .int .i64 c] (w.drewN m) fun e w'' => e = .returned (.int .i64 (pl r c)) ∧ ∃ k, w'' = w.drewN k :=
  Calls.quiet_of_same ((place_any h0 h1 h2).mono fun _ _ h => ⟨h.1, h.2.symm⟩)

set_option maxHeartbeats 1000000 in
set_option maxRecDepth 100000 in
theorem line1 {w : World} {n L p : Nat} {fb : List Nat} {s : St} (h : Rep w n L fb s) (hp : p < n) (hn : n ≤ 4) (hr0 : 0 ≤ s.row p) (hc0 : 0 ≤ s.col p) (hrc : s.row p + s.col p ≤ 3) (hk0 : pl (s.row p) (s.col p) < n * (n + 1) / 2) (hl : s.ln p = 1) :
    Calls Tryd.prog 47 #[.pointer (some ⟨L, 0, none⟩), .int .i64 p] w (Post n L fb w .nilIface (stepN s p)) := by
  obtain ⟨M, bX, bY, bH, cap, rfl, hcap, hM, hLX, hLY, hLH, hXY, hXH, hYH, hB, rX, rY, rL, rR, rC⟩ := h
  have c0 := hB.cell 0
  have c1 := hB.cell 1
  have c2 := hB.cell 2
  simp only [List.getElem?_toArray, List.getElem?_cons_zero, List.getElem?_cons_succ] at c0 c1 c2
  have hst : stepN s p = { s with xw := upd s.xw (pl (s.row p) (s.col p)) (p + 1), ln := upd s.ln p 2, did := upd s.did p (s.did p + 1) } := by simp [stepN, hl]
  rw [hst]
  have hk : pl (s.row p) (s.col p) < M := by rw [hM]; exact hk0
  have HM := Lib.hid hM
  clear hM hk0
  have e := (rL p hp).1
  have g := (rL p hp).2
  have er := (rR p hp).1
  have gr := (rR p hp).2
  have ec := (rC p hp).1
  have gc := (rC p hp).2
  have e0 := (rX (pl (s.row p) (s.col p)) hk).1
  have f0 := (rX (pl (s.row p) (s.col p)) hk).2
  rw [hl] at e
  have hpn : (p : Int) ≤ (n : Int) - 1 := by omega
  have hr3 : s.row p ≤ 3 := by omega
  have hc3 : s.col p ≤ 3 := by omega
  clear hl hst 
  go_enter Tryd.func47, Tryd.ntmps47
  go_wp2
  go_quiet ((go_at_call 83; exact place_q hr0 hc0 hrc))
  all_goals go_wp2
  all_goals go_ret
  all_goals
    refine ⟨rfl, ⟨M, bX, bY, bH, cap, rfl, hcap, HM.out, hLX, hLY, hLH, hXY, hXH, hYH, ?_, ?_, ?_, ?_, ?_, ?_⟩, ?_⟩
    · exact (((hB.drewN _)).other hLX.symm _ _).other hLH.symm _ _
    · exact (((rX.drewN _)).set (i := pl (s.row p) (s.col p)) hk (fun j _ e => e) _).other _ (.inl hXH.symm)
    · exact (((rY.drewN _)).other _ (.inl hXY)).other _ (.inl hYH.symm)
    · exact (((rL.drewN _)).other _ (.inl hXH)).set (i := p) hp (fun j _ e => by omega) _
    · exact (((rR.drewN _)).other _ (.inl hXH)).other _ (.inr fun j _ => by omega)
    · exact (((rC.drewN _)).other _ (.inl hXH)).other _ (.inr fun j _ => by omega)
    · exact ((((Only.refl _ _).drewN _)).set (by simp) _ _).set (by simp) _ _

set_option maxHeartbeats 1000000 in
set_option maxRecDepth 100000 in
theorem line21 {w : World} {n L p : Nat} {fb : List Nat} {s : St} (h : Rep w n L fb s) (hp : p < n) (hn : n ≤ 4) (hr0 : 0 ≤ s.row p) (hc0 : 0 ≤ s.col p) (hrc : s.row p + s.col p ≤ 3) (hk0 : pl (s.row p) (s.col p) < n * (n + 1) / 2) (hl : s.ln p = 2) (h0 : s.yw (pl (s.row p) (s.col p)) = 1) :
    Calls Tryd.prog 47 #[.pointer (some ⟨L, 0, none⟩), .int .i64 p] w (Post n L fb w .nilIface (stepN s p)) := by
  obtain ⟨M, bX, bY, bH, cap, rfl, hcap, hM, hLX, hLY, hLH, hXY, hXH, hYH, hB, rX, rY, rL, rR, rC⟩ := h
  have c0 := hB.cell 0
  have c1 := hB.cell 1
  have c2 := hB.cell 2
  simp only [List.getElem?_toArray, List.getElem?_cons_zero, List.getElem?_cons_succ] at c0 c1 c2
  have hst : stepN s p = { s with ln := upd s.ln p 1, col := upd s.col p (s.col p + 1), did := upd s.did p (s.did p + 1) } := by simp [stepN, hl, h0]
  rw [hst]
  have hk : pl (s.row p) (s.col p) < M := by rw [hM]; exact hk0
  have HM := Lib.hid hM
  clear hM hk0
  have e := (rL p hp).1
  have g := (rL p hp).2
  have er := (rR p hp).1
  have gr := (rR p hp).2
  have ec := (rC p hp).1
  have gc := (rC p hp).2
  have e0 := (rY (pl (s.row p) (s.col p)) hk).1
  have f0 := (rY (pl (s.row p) (s.col p)) hk).2
  rw [hl] at e
  have hpn : (p : Int) ≤ (n : Int) - 1 := by omega
  have hr3 : s.row p ≤ 3 := by omega
  have hc3 : s.col p ≤ 3 := by omega
  have t0 : (s.yw (pl (s.row p) (s.col p)) == 1) = true := by simp [h0]
  clear hl hst h0
  go_enter Tryd.func47, Tryd.ntmps47
  go_wp2
  go_quiet ((go_at_call 83; exact place_q hr0 hc0 hrc))
  all_goals go_wp2
  all_goals go_region
  all_goals go_wp2
  all_goals go_ret
  all_goals
    refine ⟨rfl, ⟨M, bX, bY, bH, cap, rfl, hcap, HM.out, hLX, hLY, hLH, hXY, hXH, hYH, ?_, ?_, ?_, ?_, ?_, ?_⟩, ?_⟩
    · exact Blk.drew ((((((hB.drewN _)).other hLH.symm _ _).other hLH.symm _ _).other hLH.symm _ _).other hLH.symm _ _)
    · exact ((((((rX.drewN _)).other _ (.inl hXH.symm)).other _ (.inl hXH.symm)).other _ (.inl hXH.symm)).other _ (.inl hXH.symm)).drew
    · exact ((((((rY.drewN _)).other _ (.inl hYH.symm)).other _ (.inl hYH.symm)).other _ (.inl hYH.symm)).other _ (.inl hYH.symm)).drew
    · refine Row.re (((((((rL.drewN _)).set (i := p) hp (fun j _ e => by omega) _).set (i := p) hp (fun j _ e => by omega) _).other _ (.inr fun j _ => by omega)).other _ (.inr fun j _ => by omega)).drew) ?_
      simp only [upd_upd]
    · refine Row.re (((((((rR.drewN _)).other _ (.inr fun j _ => by omega)).other _ (.inr fun j _ => by omega)).set (i := p) hp (fun j _ e => by omega) _).other _ (.inr fun j _ => by omega)).drew) ?_
      first | exact upd_self _ _ rfl | (simp only [upd_upd]; exact upd_self _ _ rfl)
    · exact ((((((rC.drewN _)).other _ (.inr fun j _ => by omega)).other _ (.inr fun j _ => by omega)).other _ (.inr fun j _ => by omega)).set (i := p) hp (fun j _ e => by omega) _).drew
    · exact Only.drew (((((((Only.refl _ _).drewN _)).set (by simp) _ _).set (by simp) _ _).set (by simp) _ _).set (by simp) _ _)

set_option maxHeartbeats 1000000 in
set_option maxRecDepth 100000 in
theorem line20 {w : World} {n L p : Nat} {fb : List Nat} {s : St} (h : Rep w n L fb s) (hp : p < n) (hn : n ≤ 4) (hr0 : 0 ≤ s.row p) (hc0 : 0 ≤ s.col p) (hrc : s.row p + s.col p ≤ 3) (hk0 : pl (s.row p) (s.col p) < n * (n + 1) / 2) (hl : s.ln p = 2) (h0 : s.yw (pl (s.row p) (s.col p)) ≠ 1) :
    Calls Tryd.prog 47 #[.pointer (some ⟨L, 0, none⟩), .int .i64 p] w (Post n L fb w .nilIface (stepN s p)) := by
  obtain ⟨M, bX, bY, bH, cap, rfl, hcap, hM, hLX, hLY, hLH, hXY, hXH, hYH, hB, rX, rY, rL, rR, rC⟩ := h
  have c0 := hB.cell 0
  have c1 := hB.cell 1
  have c2 := hB.cell 2
  simp only [List.getElem?_toArray, List.getElem?_cons_zero, List.getElem?_cons_succ] at c0 c1 c2
  have hst : stepN s p = { s with ln := upd s.ln p 3, did := upd s.did p (s.did p + 1) } := by simp [stepN, hl, h0]
  rw [hst]
  have hk : pl (s.row p) (s.col p) < M := by rw [hM]; exact hk0
  have HM := Lib.hid hM
  clear hM hk0
  have e := (rL p hp).1
  have g := (rL p hp).2
  have er := (rR p hp).1
  have gr := (rR p hp).2
  have ec := (rC p hp).1
  have gc := (rC p hp).2
  have e0 := (rY (pl (s.row p) (s.col p)) hk).1
  have f0 := (rY (pl (s.row p) (s.col p)) hk).2
  rw [hl] at e
  have hpn : (p : Int) ≤ (n : Int) - 1 := by omega
  have hr3 : s.row p ≤ 3 := by omega
  have hc3 : s.col p ≤ 3 := by omega
  have t0 : (s.yw (pl (s.row p) (s.col p)) == 1) = false := by simp [h0]
  clear hl hst h0
  go_enter Tryd.func47, Tryd.ntmps47
  go_wp2
  go_quiet ((go_at_call 83; exact place_q hr0 hc0 hrc))
  all_goals go_wp2
  all_goals go_ret
  all_goals
    refine ⟨rfl, ⟨M, bX, bY, bH, cap, rfl, hcap, HM.out, hLX, hLY, hLH, hXY, hXH, hYH, ?_, ?_, ?_, ?_, ?_, ?_⟩, ?_⟩
    · exact ((hB.drewN _)).other hLH.symm _ _
    · exact ((rX.drewN _)).other _ (.inl hXH.symm)
    · exact ((rY.drewN _)).other _ (.inl hYH.symm)
    · exact ((rL.drewN _)).set (i := p) hp (fun j _ e => by omega) _
    · exact ((rR.drewN _)).other _ (.inr fun j _ => by omega)
    · exact ((rC.drewN _)).other _ (.inr fun j _ => by omega)
    · exact (((Only.refl _ _).drewN _)).set (by simp) _ _

set_option maxHeartbeats 1000000 in
set_option maxRecDepth 100000 in
theorem line3 {w : World} {n L p : Nat} {fb : List Nat} {s : St} (h : Rep w n L fb s) (hp : p < n) (hn : n ≤ 4) (hr0 : 0 ≤ s.row p) (hc0 : 0 ≤ s.col p) (hrc : s.row p + s.col p ≤ 3) (hk0 : pl (s.row p) (s.col p) < n * (n + 1) / 2) (hl : s.ln p = 3) :
    Calls Tryd.prog 47 #[.pointer (some ⟨L, 0, none⟩), .int .i64 p] w (Post n L fb w .nilIface (stepN s p)) := by
  obtain ⟨M, bX, bY, bH, cap, rfl, hcap, hM, hLX, hLY, hLH, hXY, hXH, hYH, hB, rX, rY, rL, rR, rC⟩ := h
  have c0 := hB.cell 0
  have c1 := hB.cell 1
  have c2 := hB.cell 2
  simp only [List.getElem?_toArray, List.getElem?_cons_zero, List.getElem?_cons_succ] at c0 c1 c2
  have hst : stepN s p = { s with yw := upd s.yw (pl (s.row p) (s.col p)) 1, ln := upd s.ln p 4, did := upd s.did p (s.did p + 1) } := by simp [stepN, hl]
  rw [hst]
  have hk : pl (s.row p) (s.col p) < M := by rw [hM]; exact hk0
  have HM := Lib.hid hM
  clear hM hk0
  have e := (rL p hp).1
  have g := (rL p hp).2
  have er := (rR p hp).1
  have gr := (rR p hp).2
  have ec := (rC p hp).1
  have gc := (rC p hp).2
  have e0 := (rY (pl (s.row p) (s.col p)) hk).1
  have f0 := (rY (pl (s.row p) (s.col p)) hk).2
  rw [hl] at e
  have hpn : (p : Int) ≤ (n : Int) - 1 := by omega
  have hr3 : s.row p ≤ 3 := by omega
  have hc3 : s.col p ≤ 3 := by omega
  clear hl hst 
  go_enter Tryd.func47, Tryd.ntmps47
  go_wp2
  go_quiet ((go_at_call 83; exact place_q hr0 hc0 hrc))
  all_goals go_wp2
  all_goals go_ret
  all_goals
    refine ⟨rfl, ⟨M, bX, bY, bH, cap, rfl, hcap, HM.out, hLX, hLY, hLH, hXY, hXH, hYH, ?_, ?_, ?_, ?_, ?_, ?_⟩, ?_⟩
    · exact (((hB.drewN _)).other hLY.symm _ _).other hLH.symm _ _
    · exact (((rX.drewN _)).other _ (.inl hXY.symm)).other _ (.inl hXH.symm)
    · exact (((rY.drewN _)).set (i := pl (s.row p) (s.col p)) hk (fun j _ e => e) _).other _ (.inl hYH.symm)
    · exact (((rL.drewN _)).other _ (.inl hYH)).set (i := p) hp (fun j _ e => by omega) _
    · exact (((rR.drewN _)).other _ (.inl hYH)).other _ (.inr fun j _ => by omega)
    · exact (((rC.drewN _)).other _ (.inl hYH)).other _ (.inr fun j _ => by omega)
    · exact ((((Only.refl _ _).drewN _)).set (by simp) _ _).set (by simp) _ _

set_option maxHeartbeats 1000000 in
set_option maxRecDepth 100000 in
theorem line41 {w : World} {n L p : Nat} {fb : List Nat} {s : St} (h : Rep w n L fb s) (hp : p < n) (hn : n ≤ 4) (hr0 : 0 ≤ s.row p) (hc0 : 0 ≤ s.col p) (hrc : s.row p + s.col p ≤ 3) (hk0 : pl (s.row p) (s.col p) < n * (n + 1) / 2) (hl : s.ln p = 4) (h0 : s.xw (pl (s.row p) (s.col p)) = p + 1) :
    Calls Tryd.prog 47 #[.pointer (some ⟨L, 0, none⟩), .int .i64 p] w (Post n L fb w .nilIface (stepN s p)) := by
  obtain ⟨M, bX, bY, bH, cap, rfl, hcap, hM, hLX, hLY, hLH, hXY, hXH, hYH, hB, rX, rY, rL, rR, rC⟩ := h
  have c0 := hB.cell 0
  have c1 := hB.cell 1
  have c2 := hB.cell 2
  simp only [List.getElem?_toArray, List.getElem?_cons_zero, List.getElem?_cons_succ] at c0 c1 c2
  have hst : stepN s p = { s with ln := upd s.ln p 5, did := upd s.did p (s.did p + 1) } := by simp [stepN, hl, h0]
  rw [hst]
  have hk : pl (s.row p) (s.col p) < M := by rw [hM]; exact hk0
  have HM := Lib.hid hM
  clear hM hk0
  have e := (rL p hp).1
  have g := (rL p hp).2
  have er := (rR p hp).1
  have gr := (rR p hp).2
  have ec := (rC p hp).1
  have gc := (rC p hp).2
  have e0 := (rX (pl (s.row p) (s.col p)) hk).1
  have f0 := (rX (pl (s.row p) (s.col p)) hk).2
  rw [hl] at e
  have hpn : (p : Int) ≤ (n : Int) - 1 := by omega
  have hr3 : s.row p ≤ 3 := by omega
  have hc3 : s.col p ≤ 3 := by omega
  have t0 : (s.xw (pl (s.row p) (s.col p)) != (p : Int) + 1) = false := by simp [h0]
  clear hl hst h0
  go_enter Tryd.func47, Tryd.ntmps47
  go_wp2
  go_quiet ((go_at_call 83; exact place_q hr0 hc0 hrc))
  all_goals go_wp2
  all_goals go_ret
  all_goals
    refine ⟨rfl, ⟨M, bX, bY, bH, cap, rfl, hcap, HM.out, hLX, hLY, hLH, hXY, hXH, hYH, ?_, ?_, ?_, ?_, ?_, ?_⟩, ?_⟩
    · exact ((hB.drewN _)).other hLH.symm _ _
    · exact ((rX.drewN _)).other _ (.inl hXH.symm)
    · exact ((rY.drewN _)).other _ (.inl hYH.symm)
    · exact ((rL.drewN _)).set (i := p) hp (fun j _ e => by omega) _
    · exact ((rR.drewN _)).other _ (.inr fun j _ => by omega)
    · exact ((rC.drewN _)).other _ (.inr fun j _ => by omega)
    · exact (((Only.refl _ _).drewN _)).set (by simp) _ _

set_option maxHeartbeats 1000000 in
set_option maxRecDepth 100000 in
theorem line40 {w : World} {n L p : Nat} {fb : List Nat} {s : St} (h : Rep w n L fb s) (hp : p < n) (hn : n ≤ 4) (hr0 : 0 ≤ s.row p) (hc0 : 0 ≤ s.col p) (hrc : s.row p + s.col p ≤ 3) (hk0 : pl (s.row p) (s.col p) < n * (n + 1) / 2) (hl : s.ln p = 4) (h0 : s.xw (pl (s.row p) (s.col p)) ≠ p + 1) :
    Calls Tryd.prog 47 #[.pointer (some ⟨L, 0, none⟩), .int .i64 p] w (Post n L fb w .nilIface (stepN s p)) := by
  obtain ⟨M, bX, bY, bH, cap, rfl, hcap, hM, hLX, hLY, hLH, hXY, hXH, hYH, hB, rX, rY, rL, rR, rC⟩ := h
  have c0 := hB.cell 0
  have c1 := hB.cell 1
  have c2 := hB.cell 2
  simp only [List.getElem?_toArray, List.getElem?_cons_zero, List.getElem?_cons_succ] at c0 c1 c2
  have hst : stepN s p = { s with ln := upd s.ln p 1, row := upd s.row p (s.row p + 1), did := upd s.did p (s.did p + 1) } := by simp [stepN, hl, h0]
  rw [hst]
  have hk : pl (s.row p) (s.col p) < M := by rw [hM]; exact hk0
  have HM := Lib.hid hM
  clear hM hk0
  have e := (rL p hp).1
  have g := (rL p hp).2
  have er := (rR p hp).1
  have gr := (rR p hp).2
  have ec := (rC p hp).1
  have gc := (rC p hp).2
  have e0 := (rX (pl (s.row p) (s.col p)) hk).1
  have f0 := (rX (pl (s.row p) (s.col p)) hk).2
  rw [hl] at e
  have hpn : (p : Int) ≤ (n : Int) - 1 := by omega
  have hr3 : s.row p ≤ 3 := by omega
  have hc3 : s.col p ≤ 3 := by omega
  have t0 : (s.xw (pl (s.row p) (s.col p)) != (p : Int) + 1) = true := by simp [h0]
  clear hl hst h0
  go_enter Tryd.func47, Tryd.ntmps47
  go_wp2
  go_quiet ((go_at_call 83; exact place_q hr0 hc0 hrc))
  all_goals go_wp2
  all_goals go_region
  all_goals go_wp2
  all_goals go_ret
  all_goals
    refine ⟨rfl, ⟨M, bX, bY, bH, cap, rfl, hcap, HM.out, hLX, hLY, hLH, hXY, hXH, hYH, ?_, ?_, ?_, ?_, ?_, ?_⟩, ?_⟩
    · exact Blk.drew ((((((hB.drewN _)).other hLH.symm _ _).other hLH.symm _ _).other hLH.symm _ _).other hLH.symm _ _)
    · exact ((((((rX.drewN _)).other _ (.inl hXH.symm)).other _ (.inl hXH.symm)).other _ (.inl hXH.symm)).other _ (.inl hXH.symm)).drew
    · exact ((((((rY.drewN _)).other _ (.inl hYH.symm)).other _ (.inl hYH.symm)).other _ (.inl hYH.symm)).other _ (.inl hYH.symm)).drew
    · refine Row.re (((((((rL.drewN _)).set (i := p) hp (fun j _ e => by omega) _).set (i := p) hp (fun j _ e => by omega) _).other _ (.inr fun j _ => by omega)).other _ (.inr fun j _ => by omega)).drew) ?_
      simp only [upd_upd]
    · exact ((((((rR.drewN _)).other _ (.inr fun j _ => by omega)).other _ (.inr fun j _ => by omega)).set (i := p) hp (fun j _ e => by omega) _).other _ (.inr fun j _ => by omega)).drew
    · refine Row.re (((((((rC.drewN _)).other _ (.inr fun j _ => by omega)).other _ (.inr fun j _ => by omega)).other _ (.inr fun j _ => by omega)).set (i := p) hp (fun j _ e => by omega) _).drew) ?_
      first | exact upd_self _ _ rfl | (simp only [upd_upd]; exact upd_self _ _ rfl)
    · exact Only.drew (((((((Only.refl _ _).drewN _)).set (by simp) _ _).set (by simp) _ _).set (by simp) _ _).set (by simp) _ _)

set_option maxHeartbeats 1000000 in
set_option maxRecDepth 100000 in
theorem line5 {w : World} {n L p : Nat} {fb : List Nat} {s : St} (h : Rep w n L fb s) (hp : p < n) (hn : n ≤ 4) (hr0 : 0 ≤ s.row p) (hc0 : 0 ≤ s.col p) (hrc : s.row p + s.col p ≤ 3) (hk0 : pl (s.row p) (s.col p) < n * (n + 1) / 2) (hl : s.ln p = 5) :
    Calls Tryd.prog 47 #[.pointer (some ⟨L, 0, none⟩), .int .i64 p] w (Post n L fb w .nilIface (stepN s p)) := by
  obtain ⟨M, bX, bY, bH, cap, rfl, hcap, hM, hLX, hLY, hLH, hXY, hXH, hYH, hB, rX, rY, rL, rR, rC⟩ := h
  have c0 := hB.cell 0
  have c1 := hB.cell 1
  have c2 := hB.cell 2
  simp only [List.getElem?_toArray, List.getElem?_cons_zero, List.getElem?_cons_succ] at c0 c1 c2
  have hst : stepN s p = { s with did := upd s.did p (s.did p + 1) } := by simp [stepN, hl]
  rw [hst]
  have hk : pl (s.row p) (s.col p) < M := by rw [hM]; exact hk0
  have HM := Lib.hid hM
  clear hM hk0
  have e := (rL p hp).1
  have g := (rL p hp).2
  have er := (rR p hp).1
  have gr := (rR p hp).2
  have ec := (rC p hp).1
  have gc := (rC p hp).2
  rw [hl] at e
  have hpn : (p : Int) ≤ (n : Int) - 1 := by omega
  have hr3 : s.row p ≤ 3 := by omega
  have hc3 : s.col p ≤ 3 := by omega
  clear hl hst 
  go_enter Tryd.func47, Tryd.ntmps47
  go_wp2
  go_quiet ((go_at_call 83; exact place_q hr0 hc0 hrc))
  all_goals go_wp2
  all_goals go_ret
  all_goals
    refine ⟨rfl, ⟨M, bX, bY, bH, cap, rfl, hcap, HM.out, hLX, hLY, hLH, hXY, hXH, hYH, ?_, ?_, ?_, ?_, ?_, ?_⟩, ?_⟩
    · exact (hB.drewN _)
    · exact (rX.drewN _)
    · exact (rY.drewN _)
    · exact (rL.drewN _)
    · exact (rR.drewN _)
    · exact (rC.drewN _)
    · exact ((Only.refl _ _).drewN _)

end Go.Proofs.YtgkfgijmccojjaaDoor.Split
