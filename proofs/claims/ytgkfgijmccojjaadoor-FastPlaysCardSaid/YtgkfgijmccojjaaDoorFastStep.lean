import Derived.Test.YtgkfgijmccojjaaDoorBase
import Derived.Test.YtgkfgijmccojjaaDoorFastPlain
import Derived.Deep.RegionHeld3
namespace Go.Proofs.YtgkfgijmccojjaaDoor.Fast
open Go.RowKit
set_option linter.unusedVariables false

/-- The lock lies at block L, in the state s; the list: the blocks that are its own. -/
def Rep (w : World) (n L : Nat) (fb : List Nat) (s : St) : Prop :=
  ∃ bW bH cap, fb = [L, bW, bH] ∧ n ≤ cap ∧ L ≠ bW ∧ L ≠ bH ∧ bW ≠ bH ∧
    Blk w L #[.int .i64 n, .slice (some ⟨bW, 0, none⟩) (2 + n) (2 + n), .slice (some ⟨bH, 0, none⟩) n cap] 132 ∧
    Row w bW (2 + n) (fun j => j) s.wd ∧ Row w bH n (fun j => j * 2) s.ln ∧ Row w bH n (fun j => j * 2 + 1) s.kk
def told (n : Nat) (p : Int) : Value := if 0 ≤ p ∧ p < n then .nilIface else .iface 77 (.int .i64 1)
def Post (n L : Nat) (fb : List Nat) (w : World) (r : Value) (s : St) (e : Ending) (w' : World) : Prop :=
  e = .returned r ∧ Rep w' n L fb s ∧ OnlyG fb w w'
def Made (n : Nat) (w : World) (e : Ending) (w' : World) : Prop :=
  ∃ L fb, e = .returned (.tuple #[.pointer (some ⟨L, 0, none⟩), .nilIface]) ∧ Rep w' n L fb (first n) ∧ Below w.heap.size w w' ∧ (∀ k ∈ fb, w.heap.size ≤ k ∧ k < w'.heap.size)

theorem Rep.keep {w w' : World} {n L : Nat} {fb : List Nat} {s : St} (h : Rep w n L fb s) (hk : ∀ k ∈ fb, w'.heap[k]? = w.heap[k]?) : Rep w' n L fb s := by
  obtain ⟨bW, bH, cap, rfl, hcap, hLW, hLH, hWH, hB, rW, rL, rK⟩ := h
  refine ⟨bW, bH, cap, rfl, hcap, hLW, hLH, hWH, ?_, rW.keep (hk _ (by simp)), rL.keep (hk _ (by simp)), rK.keep (hk _ (by simp))⟩
  unfold Blk at *
  rw [hk L (by simp)]; exact hB

theorem choose_true {w : World} {N : Nat} {yes no : Int} {x : Value} (hc : w.cell? ⟨N, 0, none⟩ = some x) (hf : w.frozen? ⟨N, 0, none⟩ = false) :
    Calls Tryd.prog 90 #[.bool true, .int .i64 yes, .int .i64 no, .pointer (some ⟨N, 0, none⟩)] w fun e w' => e = .returned (.tuple #[]) ∧ (w.setCell ⟨N, 0, none⟩ (.int .i64 no)).setCell ⟨N, 0, none⟩ (.int .i64 yes) = w' := by
  go_enter Tryd.func90, Tryd.ntmps90
  go_wp2
  go_end0
  exact ⟨rfl, rfl⟩
theorem choose_false {w : World} {N : Nat} {yes no : Int} {x : Value} (hc : w.cell? ⟨N, 0, none⟩ = some x) (hf : w.frozen? ⟨N, 0, none⟩ = false) :
    Calls Tryd.prog 90 #[.bool false, .int .i64 yes, .int .i64 no, .pointer (some ⟨N, 0, none⟩)] w fun e w' => e = .returned (.tuple #[]) ∧ w.setCell ⟨N, 0, none⟩ (.int .i64 no) = w' := by
  go_enter Tryd.func90, Tryd.ntmps90
  go_wp2
  go_end0
  exact ⟨rfl, rfl⟩

set_option maxHeartbeats 2000000 in
set_option maxRecDepth 100000 in
theorem line1 {w : World} {n L p : Nat} {fb : List Nat} {s : St} (h : Rep w n L fb s) (hp : p < n) (hn : n ≤ 4) (h1 : 1 ≤ n) (hl : s.ln p = 1) :
    Calls Tryd.prog 64 #[.pointer (some ⟨L, 0, none⟩), .int .i64 p] w (Post n L fb w .nilIface (stepN n s p)) := by
  obtain ⟨bW, bH, cap, rfl, hcap, hLW, hLH, hWH, hB, rW, rL, rK⟩ := h
  have hst : stepN n s p = { s with wd := upd s.wd (2 + p) 1, ln := upd s.ln p 2 } := by simp [stepN, hl]
  rw [hst]
  have c0 := hB.cell 0
  have c1 := hB.cell 1
  have c2 := hB.cell 2
  simp only [List.getElem?_toArray, List.getElem?_cons_zero, List.getElem?_cons_succ] at c0 c1 c2
  have e := (rL p hp).1
  have g := (rL p hp).2
  have e0 := (rW (2 + p) (by omega)).1
  have f0 := (rW (2 + p) (by omega)).2
  rw [hl] at e
  have hpn : (p : Int) ≤ (n : Int) - 1 := by omega
  have hnI : 1 ≤ (n : Int) := by omega
  clear hst 
  have Hl := Lib.hid hl
  clear hl
  go_enter Tryd.func64, Tryd.ntmps64
  go_wp2
  go_quiet (fail)
  have hl := Hl.out
  have hO : OnlyG [L, bW, bH] w (w.drewN nq) := (OnlyG.refl _ _).drewN _
  replace hB := hB.drewN nq
  replace rW := rW.drewN nq
  replace rL := rL.drewN nq
  replace rK := rK.drewN nq
  clear c0 c1 c2 e g e0 f0
  generalize hwq : w.drewN nq = wq at *
  clear hwq
  have c0 := hB.cell 0
  have c1 := hB.cell 1
  have c2 := hB.cell 2
  simp only [List.getElem?_toArray, List.getElem?_cons_zero, List.getElem?_cons_succ] at c0 c1 c2
  have e := (rL p hp).1
  have g := (rL p hp).2
  have e0 := (rW (2 + p) (by omega)).1
  have f0 := (rW (2 + p) (by omega)).2
  rw [hl] at e
  have hbL := hB.lt
  have hbW := World.block_lt_of_cell? (w := wq) (a := ⟨bW, 0, none⟩) (rW 0 (by omega)).1
  have hbH := World.block_lt_of_cell? (w := wq) (a := ⟨bH, _, none⟩) (rL p hp).1
  have hN : w.heap.size ≤ wq.heap.size := hO.size_le
  have hnL : wq.heap.size ≠ L := Nat.ne_of_gt hbL
  have hnL' : L ≠ wq.heap.size := Nat.ne_of_lt hbL
  have hnW' : bW ≠ wq.heap.size := Nat.ne_of_lt hbW
  have hnH' : bH ≠ wq.heap.size := Nat.ne_of_lt hbH

  have hnW : wq.heap.size ≠ bW := Nat.ne_of_gt hbW
  have hnH : wq.heap.size ≠ bH := Nat.ne_of_gt hbH
  clear hl hbL
  go_wp2
  all_goals go_ret
  all_goals
    refine ⟨rfl, ⟨bW, bH, cap, rfl, hcap, hLW, hLH, hWH, ?_, ?_, ?_, ?_⟩, ?_⟩
    · exact (((hB).other hLW.symm _ _).other hLH.symm _ _).alloc _
    · exact (((rW).set (i := 2 + p) (by omega) (fun j _ e => e) _).other _ (.inl hWH.symm)).alloc (by simpa using hbW) _
    · exact (((rL).other _ (.inl hWH)).set (i := p) hp (fun j _ e => by omega) _).alloc (by simpa using hbH) _
    · exact (((rK).other _ (.inl hWH)).other _ (.inr fun j _ => by omega)).alloc (by simpa using hbH) _
    · exact (((hO).set (by simp) _ _).set (by simp) _ _).alloc _

set_option maxHeartbeats 2000000 in
set_option maxRecDepth 100000 in
theorem line2 {w : World} {n L p : Nat} {fb : List Nat} {s : St} (h : Rep w n L fb s) (hp : p < n) (hn : n ≤ 4) (h1 : 1 ≤ n) (hl : s.ln p = 2) :
    Calls Tryd.prog 64 #[.pointer (some ⟨L, 0, none⟩), .int .i64 p] w (Post n L fb w .nilIface (stepN n s p)) := by
  obtain ⟨bW, bH, cap, rfl, hcap, hLW, hLH, hWH, hB, rW, rL, rK⟩ := h
  have hst : stepN n s p = { s with wd := upd s.wd 0 (p + 1), ln := upd s.ln p 3 } := by simp [stepN, hl]
  rw [hst]
  have c0 := hB.cell 0
  have c1 := hB.cell 1
  have c2 := hB.cell 2
  simp only [List.getElem?_toArray, List.getElem?_cons_zero, List.getElem?_cons_succ] at c0 c1 c2
  have e := (rL p hp).1
  have g := (rL p hp).2
  have e0 := (rW (0) (by omega)).1
  have f0 := (rW (0) (by omega)).2
  rw [hl] at e
  have hpn : (p : Int) ≤ (n : Int) - 1 := by omega
  have hnI : 1 ≤ (n : Int) := by omega
  clear hst 
  have Hl := Lib.hid hl
  clear hl
  go_enter Tryd.func64, Tryd.ntmps64
  go_wp2
  go_quiet (fail)
  have hl := Hl.out
  have hO : OnlyG [L, bW, bH] w (w.drewN nq) := (OnlyG.refl _ _).drewN _
  replace hB := hB.drewN nq
  replace rW := rW.drewN nq
  replace rL := rL.drewN nq
  replace rK := rK.drewN nq
  clear c0 c1 c2 e g e0 f0
  generalize hwq : w.drewN nq = wq at *
  clear hwq
  have c0 := hB.cell 0
  have c1 := hB.cell 1
  have c2 := hB.cell 2
  simp only [List.getElem?_toArray, List.getElem?_cons_zero, List.getElem?_cons_succ] at c0 c1 c2
  have e := (rL p hp).1
  have g := (rL p hp).2
  have e0 := (rW (0) (by omega)).1
  have f0 := (rW (0) (by omega)).2
  rw [hl] at e
  have hbL := hB.lt
  have hbW := World.block_lt_of_cell? (w := wq) (a := ⟨bW, 0, none⟩) (rW 0 (by omega)).1
  have hbH := World.block_lt_of_cell? (w := wq) (a := ⟨bH, _, none⟩) (rL p hp).1
  have hN : w.heap.size ≤ wq.heap.size := hO.size_le
  have hnL : wq.heap.size ≠ L := Nat.ne_of_gt hbL
  have hnL' : L ≠ wq.heap.size := Nat.ne_of_lt hbL
  have hnW' : bW ≠ wq.heap.size := Nat.ne_of_lt hbW
  have hnH' : bH ≠ wq.heap.size := Nat.ne_of_lt hbH

  have hnW : wq.heap.size ≠ bW := Nat.ne_of_gt hbW
  have hnH : wq.heap.size ≠ bH := Nat.ne_of_gt hbH
  clear hl hbL
  go_wp2
  all_goals go_ret
  all_goals
    refine ⟨rfl, ⟨bW, bH, cap, rfl, hcap, hLW, hLH, hWH, ?_, ?_, ?_, ?_⟩, ?_⟩
    · exact (((hB).other hLW.symm _ _).other hLH.symm _ _).alloc _
    · exact (((rW).set (i := 0) (by omega) (fun j _ e => e) _).other _ (.inl hWH.symm)).alloc (by simpa using hbW) _
    · exact (((rL).other _ (.inl hWH)).set (i := p) hp (fun j _ e => by omega) _).alloc (by simpa using hbH) _
    · exact (((rK).other _ (.inl hWH)).other _ (.inr fun j _ => by omega)).alloc (by simpa using hbH) _
    · exact (((hO).set (by simp) _ _).set (by simp) _ _).alloc _

set_option maxHeartbeats 2000000 in
set_option maxRecDepth 100000 in
theorem line30 {w : World} {n L p : Nat} {fb : List Nat} {s : St} (h : Rep w n L fb s) (hp : p < n) (hn : n ≤ 4) (h1 : 1 ≤ n) (hl : s.ln p = 3) (h0 : ¬ s.wd 1 = 0) :
    Calls Tryd.prog 64 #[.pointer (some ⟨L, 0, none⟩), .int .i64 p] w (Post n L fb w .nilIface (stepN n s p)) := by
  obtain ⟨bW, bH, cap, rfl, hcap, hLW, hLH, hWH, hB, rW, rL, rK⟩ := h
  have hst : stepN n s p = { s with ln := upd s.ln p 4 } := by simp [stepN, hl, h0]
  rw [hst]
  have c0 := hB.cell 0
  have c1 := hB.cell 1
  have c2 := hB.cell 2
  simp only [List.getElem?_toArray, List.getElem?_cons_zero, List.getElem?_cons_succ] at c0 c1 c2
  have e := (rL p hp).1
  have g := (rL p hp).2
  have e0 := (rW (1) (by omega)).1
  have f0 := (rW (1) (by omega)).2
  rw [hl] at e
  have hpn : (p : Int) ≤ (n : Int) - 1 := by omega
  have hnI : 1 ≤ (n : Int) := by omega
  have t0 : (s.wd 1 != 0) = true := by simp [h0]
  clear hst h0
  have Hl := Lib.hid hl
  clear hl
  go_enter Tryd.func64, Tryd.ntmps64
  go_wp2
  go_quiet (fail)
  have hl := Hl.out
  have hO : OnlyG [L, bW, bH] w (w.drewN nq) := (OnlyG.refl _ _).drewN _
  replace hB := hB.drewN nq
  replace rW := rW.drewN nq
  replace rL := rL.drewN nq
  replace rK := rK.drewN nq
  clear c0 c1 c2 e g e0 f0
  generalize hwq : w.drewN nq = wq at *
  clear hwq
  have c0 := hB.cell 0
  have c1 := hB.cell 1
  have c2 := hB.cell 2
  simp only [List.getElem?_toArray, List.getElem?_cons_zero, List.getElem?_cons_succ] at c0 c1 c2
  have e := (rL p hp).1
  have g := (rL p hp).2
  have e0 := (rW (1) (by omega)).1
  have f0 := (rW (1) (by omega)).2
  rw [hl] at e
  have hbL := hB.lt
  have hbW := World.block_lt_of_cell? (w := wq) (a := ⟨bW, 0, none⟩) (rW 0 (by omega)).1
  have hbH := World.block_lt_of_cell? (w := wq) (a := ⟨bH, _, none⟩) (rL p hp).1
  have hN : w.heap.size ≤ wq.heap.size := hO.size_le
  have hnL : wq.heap.size ≠ L := Nat.ne_of_gt hbL
  have hnL' : L ≠ wq.heap.size := Nat.ne_of_lt hbL
  have hnW' : bW ≠ wq.heap.size := Nat.ne_of_lt hbW
  have hnH' : bH ≠ wq.heap.size := Nat.ne_of_lt hbH

  have hnW : wq.heap.size ≠ bW := Nat.ne_of_gt hbW
  have hnH : wq.heap.size ≠ bH := Nat.ne_of_gt hbH
  clear hl hbL
  go_wp2
  go_end0
  go_wp2
  all_goals go_ret
  all_goals
    refine ⟨rfl, ⟨bW, bH, cap, rfl, hcap, hLW, hLH, hWH, ?_, ?_, ?_, ?_⟩, ?_⟩
    · exact ((hB).other hLH.symm _ _).alloc _
    · exact ((rW).other _ (.inl hWH.symm)).alloc (by simpa using hbW) _
    · exact ((rL).set (i := p) hp (fun j _ e => by omega) _).alloc (by simpa using hbH) _
    · exact ((rK).other _ (.inr fun j _ => by omega)).alloc (by simpa using hbH) _
    · exact ((hO).set (by simp) _ _).alloc _

set_option maxHeartbeats 2000000 in
set_option maxRecDepth 100000 in
theorem line31 {w : World} {n L p : Nat} {fb : List Nat} {s : St} (h : Rep w n L fb s) (hp : p < n) (hn : n ≤ 4) (h1 : 1 ≤ n) (hl : s.ln p = 3) (h0 : s.wd 1 = 0) :
    Calls Tryd.prog 64 #[.pointer (some ⟨L, 0, none⟩), .int .i64 p] w (Post n L fb w .nilIface (stepN n s p)) := by
  obtain ⟨bW, bH, cap, rfl, hcap, hLW, hLH, hWH, hB, rW, rL, rK⟩ := h
  have hst : stepN n s p = { s with ln := upd s.ln p 6 } := by simp [stepN, hl, h0]
  rw [hst]
  have c0 := hB.cell 0
  have c1 := hB.cell 1
  have c2 := hB.cell 2
  simp only [List.getElem?_toArray, List.getElem?_cons_zero, List.getElem?_cons_succ] at c0 c1 c2
  have e := (rL p hp).1
  have g := (rL p hp).2
  have e0 := (rW (1) (by omega)).1
  have f0 := (rW (1) (by omega)).2
  rw [hl] at e
  have hpn : (p : Int) ≤ (n : Int) - 1 := by omega
  have hnI : 1 ≤ (n : Int) := by omega
  have t0 : (s.wd 1 != 0) = false := by simp [h0]
  clear hst h0
  have Hl := Lib.hid hl
  clear hl
  go_enter Tryd.func64, Tryd.ntmps64
  go_wp2
  go_quiet (fail)
  have hl := Hl.out
  have hO : OnlyG [L, bW, bH] w (w.drewN nq) := (OnlyG.refl _ _).drewN _
  replace hB := hB.drewN nq
  replace rW := rW.drewN nq
  replace rL := rL.drewN nq
  replace rK := rK.drewN nq
  clear c0 c1 c2 e g e0 f0
  generalize hwq : w.drewN nq = wq at *
  clear hwq
  have c0 := hB.cell 0
  have c1 := hB.cell 1
  have c2 := hB.cell 2
  simp only [List.getElem?_toArray, List.getElem?_cons_zero, List.getElem?_cons_succ] at c0 c1 c2
  have e := (rL p hp).1
  have g := (rL p hp).2
  have e0 := (rW (1) (by omega)).1
  have f0 := (rW (1) (by omega)).2
  rw [hl] at e
  have hbL := hB.lt
  have hbW := World.block_lt_of_cell? (w := wq) (a := ⟨bW, 0, none⟩) (rW 0 (by omega)).1
  have hbH := World.block_lt_of_cell? (w := wq) (a := ⟨bH, _, none⟩) (rL p hp).1
  have hN : w.heap.size ≤ wq.heap.size := hO.size_le
  have hnL : wq.heap.size ≠ L := Nat.ne_of_gt hbL
  have hnL' : L ≠ wq.heap.size := Nat.ne_of_lt hbL
  have hnW' : bW ≠ wq.heap.size := Nat.ne_of_lt hbW
  have hnH' : bH ≠ wq.heap.size := Nat.ne_of_lt hbH

  have hnW : wq.heap.size ≠ bW := Nat.ne_of_gt hbW
  have hnH : wq.heap.size ≠ bH := Nat.ne_of_gt hbH
  clear hl hbL
  go_wp2
  go_end0
  go_wp2
  all_goals go_ret
  all_goals
    refine ⟨rfl, ⟨bW, bH, cap, rfl, hcap, hLW, hLH, hWH, ?_, ?_, ?_, ?_⟩, ?_⟩
    · exact ((hB).other hLH.symm _ _).alloc _
    · exact ((rW).other _ (.inl hWH.symm)).alloc (by simpa using hbW) _
    · exact ((rL).set (i := p) hp (fun j _ e => by omega) _).alloc (by simpa using hbH) _
    · exact ((rK).other _ (.inr fun j _ => by omega)).alloc (by simpa using hbH) _
    · exact ((hO).set (by simp) _ _).alloc _

set_option maxHeartbeats 2000000 in
set_option maxRecDepth 100000 in
theorem line4 {w : World} {n L p : Nat} {fb : List Nat} {s : St} (h : Rep w n L fb s) (hp : p < n) (hn : n ≤ 4) (h1 : 1 ≤ n) (hl : s.ln p = 4) :
    Calls Tryd.prog 64 #[.pointer (some ⟨L, 0, none⟩), .int .i64 p] w (Post n L fb w .nilIface (stepN n s p)) := by
  obtain ⟨bW, bH, cap, rfl, hcap, hLW, hLH, hWH, hB, rW, rL, rK⟩ := h
  have hst : stepN n s p = { s with wd := upd s.wd (2 + p) 0, ln := upd s.ln p 5 } := by simp [stepN, hl]
  rw [hst]
  have c0 := hB.cell 0
  have c1 := hB.cell 1
  have c2 := hB.cell 2
  simp only [List.getElem?_toArray, List.getElem?_cons_zero, List.getElem?_cons_succ] at c0 c1 c2
  have e := (rL p hp).1
  have g := (rL p hp).2
  have e0 := (rW (2 + p) (by omega)).1
  have f0 := (rW (2 + p) (by omega)).2
  rw [hl] at e
  have hpn : (p : Int) ≤ (n : Int) - 1 := by omega
  have hnI : 1 ≤ (n : Int) := by omega
  clear hst 
  have Hl := Lib.hid hl
  clear hl
  go_enter Tryd.func64, Tryd.ntmps64
  go_wp2
  go_quiet (fail)
  have hl := Hl.out
  have hO : OnlyG [L, bW, bH] w (w.drewN nq) := (OnlyG.refl _ _).drewN _
  replace hB := hB.drewN nq
  replace rW := rW.drewN nq
  replace rL := rL.drewN nq
  replace rK := rK.drewN nq
  clear c0 c1 c2 e g e0 f0
  generalize hwq : w.drewN nq = wq at *
  clear hwq
  have c0 := hB.cell 0
  have c1 := hB.cell 1
  have c2 := hB.cell 2
  simp only [List.getElem?_toArray, List.getElem?_cons_zero, List.getElem?_cons_succ] at c0 c1 c2
  have e := (rL p hp).1
  have g := (rL p hp).2
  have e0 := (rW (2 + p) (by omega)).1
  have f0 := (rW (2 + p) (by omega)).2
  rw [hl] at e
  have hbL := hB.lt
  have hbW := World.block_lt_of_cell? (w := wq) (a := ⟨bW, 0, none⟩) (rW 0 (by omega)).1
  have hbH := World.block_lt_of_cell? (w := wq) (a := ⟨bH, _, none⟩) (rL p hp).1
  have hN : w.heap.size ≤ wq.heap.size := hO.size_le
  have hnL : wq.heap.size ≠ L := Nat.ne_of_gt hbL
  have hnL' : L ≠ wq.heap.size := Nat.ne_of_lt hbL
  have hnW' : bW ≠ wq.heap.size := Nat.ne_of_lt hbW
  have hnH' : bH ≠ wq.heap.size := Nat.ne_of_lt hbH

  have hnW : wq.heap.size ≠ bW := Nat.ne_of_gt hbW
  have hnH : wq.heap.size ≠ bH := Nat.ne_of_gt hbH
  clear hl hbL
  go_wp2
  all_goals go_ret
  all_goals
    refine ⟨rfl, ⟨bW, bH, cap, rfl, hcap, hLW, hLH, hWH, ?_, ?_, ?_, ?_⟩, ?_⟩
    · exact (((hB).other hLW.symm _ _).other hLH.symm _ _).alloc _
    · exact (((rW).set (i := 2 + p) (by omega) (fun j _ e => e) _).other _ (.inl hWH.symm)).alloc (by simpa using hbW) _
    · exact (((rL).other _ (.inl hWH)).set (i := p) hp (fun j _ e => by omega) _).alloc (by simpa using hbH) _
    · exact (((rK).other _ (.inl hWH)).other _ (.inr fun j _ => by omega)).alloc (by simpa using hbH) _
    · exact (((hO).set (by simp) _ _).set (by simp) _ _).alloc _

set_option maxHeartbeats 2000000 in
set_option maxRecDepth 100000 in
theorem line50 {w : World} {n L p : Nat} {fb : List Nat} {s : St} (h : Rep w n L fb s) (hp : p < n) (hn : n ≤ 4) (h1 : 1 ≤ n) (hl : s.ln p = 5) (h0 : ¬ s.wd 1 = 0) :
    Calls Tryd.prog 64 #[.pointer (some ⟨L, 0, none⟩), .int .i64 p] w (Post n L fb w .nilIface (stepN n s p)) := by
  obtain ⟨bW, bH, cap, rfl, hcap, hLW, hLH, hWH, hB, rW, rL, rK⟩ := h
  have hst : stepN n s p = { s with ln := upd s.ln p 5 } := by simp [stepN, hl, h0]
  rw [hst]
  have c0 := hB.cell 0
  have c1 := hB.cell 1
  have c2 := hB.cell 2
  simp only [List.getElem?_toArray, List.getElem?_cons_zero, List.getElem?_cons_succ] at c0 c1 c2
  have e := (rL p hp).1
  have g := (rL p hp).2
  have e0 := (rW (1) (by omega)).1
  have f0 := (rW (1) (by omega)).2
  rw [hl] at e
  have hpn : (p : Int) ≤ (n : Int) - 1 := by omega
  have hnI : 1 ≤ (n : Int) := by omega
  have t0 : (s.wd 1 == 0) = false := by simp [h0]
  clear hst h0
  have Hl := Lib.hid hl
  clear hl
  go_enter Tryd.func64, Tryd.ntmps64
  go_wp2
  go_quiet (fail)
  have hl := Hl.out
  have hO : OnlyG [L, bW, bH] w (w.drewN nq) := (OnlyG.refl _ _).drewN _
  replace hB := hB.drewN nq
  replace rW := rW.drewN nq
  replace rL := rL.drewN nq
  replace rK := rK.drewN nq
  clear c0 c1 c2 e g e0 f0
  generalize hwq : w.drewN nq = wq at *
  clear hwq
  have c0 := hB.cell 0
  have c1 := hB.cell 1
  have c2 := hB.cell 2
  simp only [List.getElem?_toArray, List.getElem?_cons_zero, List.getElem?_cons_succ] at c0 c1 c2
  have e := (rL p hp).1
  have g := (rL p hp).2
  have e0 := (rW (1) (by omega)).1
  have f0 := (rW (1) (by omega)).2
  rw [hl] at e
  have hbL := hB.lt
  have hbW := World.block_lt_of_cell? (w := wq) (a := ⟨bW, 0, none⟩) (rW 0 (by omega)).1
  have hbH := World.block_lt_of_cell? (w := wq) (a := ⟨bH, _, none⟩) (rL p hp).1
  have hN : w.heap.size ≤ wq.heap.size := hO.size_le
  have hnL : wq.heap.size ≠ L := Nat.ne_of_gt hbL
  have hnL' : L ≠ wq.heap.size := Nat.ne_of_lt hbL
  have hnW' : bW ≠ wq.heap.size := Nat.ne_of_lt hbW
  have hnH' : bH ≠ wq.heap.size := Nat.ne_of_lt hbH

  have hnW : wq.heap.size ≠ bW := Nat.ne_of_gt hbW
  have hnH : wq.heap.size ≠ bH := Nat.ne_of_gt hbH
  clear hl hbL
  go_wp2
  go_end0
  go_wp2
  all_goals go_ret
  all_goals
    refine ⟨rfl, ⟨bW, bH, cap, rfl, hcap, hLW, hLH, hWH, ?_, ?_, ?_, ?_⟩, ?_⟩
    · exact ((hB).other hLH.symm _ _).alloc _
    · exact ((rW).other _ (.inl hWH.symm)).alloc (by simpa using hbW) _
    · exact ((rL).set (i := p) hp (fun j _ e => by omega) _).alloc (by simpa using hbH) _
    · exact ((rK).other _ (.inr fun j _ => by omega)).alloc (by simpa using hbH) _
    · exact ((hO).set (by simp) _ _).alloc _

set_option maxHeartbeats 2000000 in
set_option maxRecDepth 100000 in
theorem line51 {w : World} {n L p : Nat} {fb : List Nat} {s : St} (h : Rep w n L fb s) (hp : p < n) (hn : n ≤ 4) (h1 : 1 ≤ n) (hl : s.ln p = 5) (h0 : s.wd 1 = 0) :
    Calls Tryd.prog 64 #[.pointer (some ⟨L, 0, none⟩), .int .i64 p] w (Post n L fb w .nilIface (stepN n s p)) := by
  obtain ⟨bW, bH, cap, rfl, hcap, hLW, hLH, hWH, hB, rW, rL, rK⟩ := h
  have hst : stepN n s p = { s with ln := upd s.ln p 1 } := by simp [stepN, hl, h0]
  rw [hst]
  have c0 := hB.cell 0
  have c1 := hB.cell 1
  have c2 := hB.cell 2
  simp only [List.getElem?_toArray, List.getElem?_cons_zero, List.getElem?_cons_succ] at c0 c1 c2
  have e := (rL p hp).1
  have g := (rL p hp).2
  have e0 := (rW (1) (by omega)).1
  have f0 := (rW (1) (by omega)).2
  rw [hl] at e
  have hpn : (p : Int) ≤ (n : Int) - 1 := by omega
  have hnI : 1 ≤ (n : Int) := by omega
  have t0 : (s.wd 1 == 0) = true := by simp [h0]
  clear hst h0
  have Hl := Lib.hid hl
  clear hl
  go_enter Tryd.func64, Tryd.ntmps64
  go_wp2
  go_quiet (fail)
  have hl := Hl.out
  have hO : OnlyG [L, bW, bH] w (w.drewN nq) := (OnlyG.refl _ _).drewN _
  replace hB := hB.drewN nq
  replace rW := rW.drewN nq
  replace rL := rL.drewN nq
  replace rK := rK.drewN nq
  clear c0 c1 c2 e g e0 f0
  generalize hwq : w.drewN nq = wq at *
  clear hwq
  have c0 := hB.cell 0
  have c1 := hB.cell 1
  have c2 := hB.cell 2
  simp only [List.getElem?_toArray, List.getElem?_cons_zero, List.getElem?_cons_succ] at c0 c1 c2
  have e := (rL p hp).1
  have g := (rL p hp).2
  have e0 := (rW (1) (by omega)).1
  have f0 := (rW (1) (by omega)).2
  rw [hl] at e
  have hbL := hB.lt
  have hbW := World.block_lt_of_cell? (w := wq) (a := ⟨bW, 0, none⟩) (rW 0 (by omega)).1
  have hbH := World.block_lt_of_cell? (w := wq) (a := ⟨bH, _, none⟩) (rL p hp).1
  have hN : w.heap.size ≤ wq.heap.size := hO.size_le
  have hnL : wq.heap.size ≠ L := Nat.ne_of_gt hbL
  have hnL' : L ≠ wq.heap.size := Nat.ne_of_lt hbL
  have hnW' : bW ≠ wq.heap.size := Nat.ne_of_lt hbW
  have hnH' : bH ≠ wq.heap.size := Nat.ne_of_lt hbH

  have hnW : wq.heap.size ≠ bW := Nat.ne_of_gt hbW
  have hnH : wq.heap.size ≠ bH := Nat.ne_of_gt hbH
  clear hl hbL
  go_wp2
  go_end0
  go_wp2
  all_goals go_ret
  all_goals
    refine ⟨rfl, ⟨bW, bH, cap, rfl, hcap, hLW, hLH, hWH, ?_, ?_, ?_, ?_⟩, ?_⟩
    · exact ((hB).other hLH.symm _ _).alloc _
    · exact ((rW).other _ (.inl hWH.symm)).alloc (by simpa using hbW) _
    · exact ((rL).set (i := p) hp (fun j _ e => by omega) _).alloc (by simpa using hbH) _
    · exact ((rK).other _ (.inr fun j _ => by omega)).alloc (by simpa using hbH) _
    · exact ((hO).set (by simp) _ _).alloc _

set_option maxHeartbeats 2000000 in
set_option maxRecDepth 100000 in
theorem line6 {w : World} {n L p : Nat} {fb : List Nat} {s : St} (h : Rep w n L fb s) (hp : p < n) (hn : n ≤ 4) (h1 : 1 ≤ n) (hl : s.ln p = 6) :
    Calls Tryd.prog 64 #[.pointer (some ⟨L, 0, none⟩), .int .i64 p] w (Post n L fb w .nilIface (stepN n s p)) := by
  obtain ⟨bW, bH, cap, rfl, hcap, hLW, hLH, hWH, hB, rW, rL, rK⟩ := h
  have hst : stepN n s p = { s with wd := upd s.wd 1 (p + 1), ln := upd s.ln p 7 } := by simp [stepN, hl]
  rw [hst]
  have c0 := hB.cell 0
  have c1 := hB.cell 1
  have c2 := hB.cell 2
  simp only [List.getElem?_toArray, List.getElem?_cons_zero, List.getElem?_cons_succ] at c0 c1 c2
  have e := (rL p hp).1
  have g := (rL p hp).2
  have e0 := (rW (1) (by omega)).1
  have f0 := (rW (1) (by omega)).2
  rw [hl] at e
  have hpn : (p : Int) ≤ (n : Int) - 1 := by omega
  have hnI : 1 ≤ (n : Int) := by omega
  clear hst 
  have Hl := Lib.hid hl
  clear hl
  go_enter Tryd.func64, Tryd.ntmps64
  go_wp2
  go_quiet (fail)
  have hl := Hl.out
  have hO : OnlyG [L, bW, bH] w (w.drewN nq) := (OnlyG.refl _ _).drewN _
  replace hB := hB.drewN nq
  replace rW := rW.drewN nq
  replace rL := rL.drewN nq
  replace rK := rK.drewN nq
  clear c0 c1 c2 e g e0 f0
  generalize hwq : w.drewN nq = wq at *
  clear hwq
  have c0 := hB.cell 0
  have c1 := hB.cell 1
  have c2 := hB.cell 2
  simp only [List.getElem?_toArray, List.getElem?_cons_zero, List.getElem?_cons_succ] at c0 c1 c2
  have e := (rL p hp).1
  have g := (rL p hp).2
  have e0 := (rW (1) (by omega)).1
  have f0 := (rW (1) (by omega)).2
  rw [hl] at e
  have hbL := hB.lt
  have hbW := World.block_lt_of_cell? (w := wq) (a := ⟨bW, 0, none⟩) (rW 0 (by omega)).1
  have hbH := World.block_lt_of_cell? (w := wq) (a := ⟨bH, _, none⟩) (rL p hp).1
  have hN : w.heap.size ≤ wq.heap.size := hO.size_le
  have hnL : wq.heap.size ≠ L := Nat.ne_of_gt hbL
  have hnL' : L ≠ wq.heap.size := Nat.ne_of_lt hbL
  have hnW' : bW ≠ wq.heap.size := Nat.ne_of_lt hbW
  have hnH' : bH ≠ wq.heap.size := Nat.ne_of_lt hbH

  have hnW : wq.heap.size ≠ bW := Nat.ne_of_gt hbW
  have hnH : wq.heap.size ≠ bH := Nat.ne_of_gt hbH
  clear hl hbL
  go_wp2
  all_goals go_ret
  all_goals
    refine ⟨rfl, ⟨bW, bH, cap, rfl, hcap, hLW, hLH, hWH, ?_, ?_, ?_, ?_⟩, ?_⟩
    · exact (((hB).other hLW.symm _ _).other hLH.symm _ _).alloc _
    · exact (((rW).set (i := 1) (by omega) (fun j _ e => e) _).other _ (.inl hWH.symm)).alloc (by simpa using hbW) _
    · exact (((rL).other _ (.inl hWH)).set (i := p) hp (fun j _ e => by omega) _).alloc (by simpa using hbH) _
    · exact (((rK).other _ (.inl hWH)).other _ (.inr fun j _ => by omega)).alloc (by simpa using hbH) _
    · exact (((hO).set (by simp) _ _).set (by simp) _ _).alloc _

set_option maxHeartbeats 2000000 in
set_option maxRecDepth 100000 in
theorem line70 {w : World} {n L p : Nat} {fb : List Nat} {s : St} (h : Rep w n L fb s) (hp : p < n) (hn : n ≤ 4) (h1 : 1 ≤ n) (hl : s.ln p = 7) (h0 : ¬ s.wd 0 = p + 1) :
    Calls Tryd.prog 64 #[.pointer (some ⟨L, 0, none⟩), .int .i64 p] w (Post n L fb w .nilIface (stepN n s p)) := by
  obtain ⟨bW, bH, cap, rfl, hcap, hLW, hLH, hWH, hB, rW, rL, rK⟩ := h
  have hst : stepN n s p = { s with ln := upd s.ln p 8 } := by simp [stepN, hl, h0]
  rw [hst]
  have c0 := hB.cell 0
  have c1 := hB.cell 1
  have c2 := hB.cell 2
  simp only [List.getElem?_toArray, List.getElem?_cons_zero, List.getElem?_cons_succ] at c0 c1 c2
  have e := (rL p hp).1
  have g := (rL p hp).2
  have e0 := (rW (0) (by omega)).1
  have f0 := (rW (0) (by omega)).2
  rw [hl] at e
  have hpn : (p : Int) ≤ (n : Int) - 1 := by omega
  have hnI : 1 ≤ (n : Int) := by omega
  have t0 : (s.wd 0 == (p : Int) + 1) = false := by simp [h0]
  clear hst h0
  have Hl := Lib.hid hl
  clear hl
  go_enter Tryd.func64, Tryd.ntmps64
  go_wp2
  go_quiet (fail)
  have hl := Hl.out
  have hO : OnlyG [L, bW, bH] w (w.drewN nq) := (OnlyG.refl _ _).drewN _
  replace hB := hB.drewN nq
  replace rW := rW.drewN nq
  replace rL := rL.drewN nq
  replace rK := rK.drewN nq
  clear c0 c1 c2 e g e0 f0
  generalize hwq : w.drewN nq = wq at *
  clear hwq
  have c0 := hB.cell 0
  have c1 := hB.cell 1
  have c2 := hB.cell 2
  simp only [List.getElem?_toArray, List.getElem?_cons_zero, List.getElem?_cons_succ] at c0 c1 c2
  have e := (rL p hp).1
  have g := (rL p hp).2
  have e0 := (rW (0) (by omega)).1
  have f0 := (rW (0) (by omega)).2
  rw [hl] at e
  have hbL := hB.lt
  have hbW := World.block_lt_of_cell? (w := wq) (a := ⟨bW, 0, none⟩) (rW 0 (by omega)).1
  have hbH := World.block_lt_of_cell? (w := wq) (a := ⟨bH, _, none⟩) (rL p hp).1
  have hN : w.heap.size ≤ wq.heap.size := hO.size_le
  have hnL : wq.heap.size ≠ L := Nat.ne_of_gt hbL
  have hnL' : L ≠ wq.heap.size := Nat.ne_of_lt hbL
  have hnW' : bW ≠ wq.heap.size := Nat.ne_of_lt hbW
  have hnH' : bH ≠ wq.heap.size := Nat.ne_of_lt hbH

  have hnW : wq.heap.size ≠ bW := Nat.ne_of_gt hbW
  have hnH : wq.heap.size ≠ bH := Nat.ne_of_gt hbH
  clear hl hbL
  go_wp2
  go_end0
  go_wp2
  all_goals go_ret
  all_goals
    refine ⟨rfl, ⟨bW, bH, cap, rfl, hcap, hLW, hLH, hWH, ?_, ?_, ?_, ?_⟩, ?_⟩
    · exact ((hB).other hLH.symm _ _).alloc _
    · exact ((rW).other _ (.inl hWH.symm)).alloc (by simpa using hbW) _
    · exact ((rL).set (i := p) hp (fun j _ e => by omega) _).alloc (by simpa using hbH) _
    · exact ((rK).other _ (.inr fun j _ => by omega)).alloc (by simpa using hbH) _
    · exact ((hO).set (by simp) _ _).alloc _

set_option maxHeartbeats 2000000 in
set_option maxRecDepth 100000 in
theorem line71 {w : World} {n L p : Nat} {fb : List Nat} {s : St} (h : Rep w n L fb s) (hp : p < n) (hn : n ≤ 4) (h1 : 1 ≤ n) (hl : s.ln p = 7) (h0 : s.wd 0 = p + 1) :
    Calls Tryd.prog 64 #[.pointer (some ⟨L, 0, none⟩), .int .i64 p] w (Post n L fb w .nilIface (stepN n s p)) := by
  obtain ⟨bW, bH, cap, rfl, hcap, hLW, hLH, hWH, hB, rW, rL, rK⟩ := h
  have hst : stepN n s p = { s with ln := upd s.ln p 12 } := by simp [stepN, hl, h0]
  rw [hst]
  have c0 := hB.cell 0
  have c1 := hB.cell 1
  have c2 := hB.cell 2
  simp only [List.getElem?_toArray, List.getElem?_cons_zero, List.getElem?_cons_succ] at c0 c1 c2
  have e := (rL p hp).1
  have g := (rL p hp).2
  have e0 := (rW (0) (by omega)).1
  have f0 := (rW (0) (by omega)).2
  rw [hl] at e
  have hpn : (p : Int) ≤ (n : Int) - 1 := by omega
  have hnI : 1 ≤ (n : Int) := by omega
  have t0 : (s.wd 0 == (p : Int) + 1) = true := by simp [h0]
  clear hst h0
  have Hl := Lib.hid hl
  clear hl
  go_enter Tryd.func64, Tryd.ntmps64
  go_wp2
  go_quiet (fail)
  have hl := Hl.out
  have hO : OnlyG [L, bW, bH] w (w.drewN nq) := (OnlyG.refl _ _).drewN _
  replace hB := hB.drewN nq
  replace rW := rW.drewN nq
  replace rL := rL.drewN nq
  replace rK := rK.drewN nq
  clear c0 c1 c2 e g e0 f0
  generalize hwq : w.drewN nq = wq at *
  clear hwq
  have c0 := hB.cell 0
  have c1 := hB.cell 1
  have c2 := hB.cell 2
  simp only [List.getElem?_toArray, List.getElem?_cons_zero, List.getElem?_cons_succ] at c0 c1 c2
  have e := (rL p hp).1
  have g := (rL p hp).2
  have e0 := (rW (0) (by omega)).1
  have f0 := (rW (0) (by omega)).2
  rw [hl] at e
  have hbL := hB.lt
  have hbW := World.block_lt_of_cell? (w := wq) (a := ⟨bW, 0, none⟩) (rW 0 (by omega)).1
  have hbH := World.block_lt_of_cell? (w := wq) (a := ⟨bH, _, none⟩) (rL p hp).1
  have hN : w.heap.size ≤ wq.heap.size := hO.size_le
  have hnL : wq.heap.size ≠ L := Nat.ne_of_gt hbL
  have hnL' : L ≠ wq.heap.size := Nat.ne_of_lt hbL
  have hnW' : bW ≠ wq.heap.size := Nat.ne_of_lt hbW
  have hnH' : bH ≠ wq.heap.size := Nat.ne_of_lt hbH

  have hnW : wq.heap.size ≠ bW := Nat.ne_of_gt hbW
  have hnH : wq.heap.size ≠ bH := Nat.ne_of_gt hbH
  clear hl hbL
  go_wp2
  go_end0
  go_wp2
  all_goals go_ret
  all_goals
    refine ⟨rfl, ⟨bW, bH, cap, rfl, hcap, hLW, hLH, hWH, ?_, ?_, ?_, ?_⟩, ?_⟩
    · exact ((hB).other hLH.symm _ _).alloc _
    · exact ((rW).other _ (.inl hWH.symm)).alloc (by simpa using hbW) _
    · exact ((rL).set (i := p) hp (fun j _ e => by omega) _).alloc (by simpa using hbH) _
    · exact ((rK).other _ (.inr fun j _ => by omega)).alloc (by simpa using hbH) _
    · exact ((hO).set (by simp) _ _).alloc _

set_option maxHeartbeats 2000000 in
set_option maxRecDepth 100000 in
theorem line8 {w : World} {n L p : Nat} {fb : List Nat} {s : St} (h : Rep w n L fb s) (hp : p < n) (hn : n ≤ 4) (h1 : 1 ≤ n) (hl : s.ln p = 8) :
    Calls Tryd.prog 64 #[.pointer (some ⟨L, 0, none⟩), .int .i64 p] w (Post n L fb w .nilIface (stepN n s p)) := by
  obtain ⟨bW, bH, cap, rfl, hcap, hLW, hLH, hWH, hB, rW, rL, rK⟩ := h
  have hst : stepN n s p = { wd := upd s.wd (2 + p) 0, kk := upd s.kk p 0, ln := upd s.ln p 9 } := by simp [stepN, hl]
  rw [hst]
  have c0 := hB.cell 0
  have c1 := hB.cell 1
  have c2 := hB.cell 2
  simp only [List.getElem?_toArray, List.getElem?_cons_zero, List.getElem?_cons_succ] at c0 c1 c2
  have e := (rL p hp).1
  have g := (rL p hp).2
  have e0 := (rW (2 + p) (by omega)).1
  have f0 := (rW (2 + p) (by omega)).2
  have e1 := (rK (p) hp).1
  have f1 := (rK (p) hp).2
  rw [hl] at e
  have hpn : (p : Int) ≤ (n : Int) - 1 := by omega
  have hnI : 1 ≤ (n : Int) := by omega
  clear hst 
  have Hl := Lib.hid hl
  clear hl
  go_enter Tryd.func64, Tryd.ntmps64
  go_wp2
  go_quiet (fail)
  have hl := Hl.out
  have hO : OnlyG [L, bW, bH] w (w.drewN nq) := (OnlyG.refl _ _).drewN _
  replace hB := hB.drewN nq
  replace rW := rW.drewN nq
  replace rL := rL.drewN nq
  replace rK := rK.drewN nq
  clear c0 c1 c2 e g e0 f0 e1 f1
  generalize hwq : w.drewN nq = wq at *
  clear hwq
  have c0 := hB.cell 0
  have c1 := hB.cell 1
  have c2 := hB.cell 2
  simp only [List.getElem?_toArray, List.getElem?_cons_zero, List.getElem?_cons_succ] at c0 c1 c2
  have e := (rL p hp).1
  have g := (rL p hp).2
  have e0 := (rW (2 + p) (by omega)).1
  have f0 := (rW (2 + p) (by omega)).2
  have e1 := (rK (p) hp).1
  have f1 := (rK (p) hp).2
  rw [hl] at e
  have hbL := hB.lt
  have hbW := World.block_lt_of_cell? (w := wq) (a := ⟨bW, 0, none⟩) (rW 0 (by omega)).1
  have hbH := World.block_lt_of_cell? (w := wq) (a := ⟨bH, _, none⟩) (rL p hp).1
  have hN : w.heap.size ≤ wq.heap.size := hO.size_le
  have hnL : wq.heap.size ≠ L := Nat.ne_of_gt hbL
  have hnL' : L ≠ wq.heap.size := Nat.ne_of_lt hbL
  have hnW' : bW ≠ wq.heap.size := Nat.ne_of_lt hbW
  have hnH' : bH ≠ wq.heap.size := Nat.ne_of_lt hbH

  have hnW : wq.heap.size ≠ bW := Nat.ne_of_gt hbW
  have hnH : wq.heap.size ≠ bH := Nat.ne_of_gt hbH
  clear hl hbL
  go_wp2
  all_goals go_ret
  all_goals
    refine ⟨rfl, ⟨bW, bH, cap, rfl, hcap, hLW, hLH, hWH, ?_, ?_, ?_, ?_⟩, ?_⟩
    · exact ((((hB).other hLW.symm _ _).other hLH.symm _ _).other hLH.symm _ _).alloc _
    · exact ((((rW).set (i := 2 + p) (by omega) (fun j _ e => e) _).other _ (.inl hWH.symm)).other _ (.inl hWH.symm)).alloc (by simpa using hbW) _
    · exact ((((rL).other _ (.inl hWH)).other _ (.inr fun j _ => by omega)).set (i := p) hp (fun j _ e => by omega) _).alloc (by simpa using hbH) _
    · exact ((((rK).other _ (.inl hWH)).set (i := p) hp (fun j _ e => by omega) _).other _ (.inr fun j _ => by omega)).alloc (by simpa using hbH) _
    · exact ((((hO).set (by simp) _ _).set (by simp) _ _).set (by simp) _ _).alloc _

set_option maxHeartbeats 2000000 in
set_option maxRecDepth 100000 in
theorem line90 {w : World} {n L p : Nat} {fb : List Nat} {s : St} (h : Rep w n L fb s) (hp : p < n) (hn : n ≤ 4) (h1 : 1 ≤ n) (hl : s.ln p = 9) (hk0 : 0 ≤ s.kk p) (hk1 : s.kk p + 1 < n) (h0 : s.wd (2 + (s.kk p).toNat) = 0) :
    Calls Tryd.prog 64 #[.pointer (some ⟨L, 0, none⟩), .int .i64 p] w (Post n L fb w .nilIface (stepN n s p)) := by
  obtain ⟨bW, bH, cap, rfl, hcap, hLW, hLH, hWH, hB, rW, rL, rK⟩ := h
  have hst : stepN n s p = { s with kk := upd s.kk p (s.kk p + 1), ln := upd s.ln p 9 } := by simp [stepN, hl, h0, show ¬ s.kk p + 1 = (n : Int) by omega]
  rw [hst]
  have c0 := hB.cell 0
  have c1 := hB.cell 1
  have c2 := hB.cell 2
  simp only [List.getElem?_toArray, List.getElem?_cons_zero, List.getElem?_cons_succ] at c0 c1 c2
  have e := (rL p hp).1
  have g := (rL p hp).2
  have e0 := (rK (p) hp).1
  have f0 := (rK (p) hp).2
  have e1 := (rW (2 + (s.kk p).toNat) (by omega)).1
  have f1 := (rW (2 + (s.kk p).toNat) (by omega)).2
  rw [hl] at e
  have hpn : (p : Int) ≤ (n : Int) - 1 := by omega
  have hnI : 1 ≤ (n : Int) := by omega
  have t0 : (s.wd (2 + (s.kk p).toNat) == 0) = true := by simp [h0]
  have tk : (s.kk p + 1 == (n : Int)) = false := by simp; omega
  have hk2 : s.kk p < n := by omega
  have hk3 : (s.kk p).toNat < n := by omega
  clear hst h0
  have Hl := Lib.hid hl
  clear hl
  go_enter Tryd.func64, Tryd.ntmps64
  go_wp2
  go_quiet (fail)
  have hl := Hl.out
  have hO : OnlyG [L, bW, bH] w (w.drewN nq) := (OnlyG.refl _ _).drewN _
  replace hB := hB.drewN nq
  replace rW := rW.drewN nq
  replace rL := rL.drewN nq
  replace rK := rK.drewN nq
  clear c0 c1 c2 e g e0 f0 e1 f1
  generalize hwq : w.drewN nq = wq at *
  clear hwq
  have c0 := hB.cell 0
  have c1 := hB.cell 1
  have c2 := hB.cell 2
  simp only [List.getElem?_toArray, List.getElem?_cons_zero, List.getElem?_cons_succ] at c0 c1 c2
  have e := (rL p hp).1
  have g := (rL p hp).2
  have e0 := (rK (p) hp).1
  have f0 := (rK (p) hp).2
  have e1 := (rW (2 + (s.kk p).toNat) (by omega)).1
  have f1 := (rW (2 + (s.kk p).toNat) (by omega)).2
  rw [hl] at e
  have hbL := hB.lt
  have hbW := World.block_lt_of_cell? (w := wq) (a := ⟨bW, 0, none⟩) (rW 0 (by omega)).1
  have hbH := World.block_lt_of_cell? (w := wq) (a := ⟨bH, _, none⟩) (rL p hp).1
  have hN : w.heap.size ≤ wq.heap.size := hO.size_le
  have hnL : wq.heap.size ≠ L := Nat.ne_of_gt hbL
  have hnL' : L ≠ wq.heap.size := Nat.ne_of_lt hbL
  have hnW' : bW ≠ wq.heap.size := Nat.ne_of_lt hbW
  have hnH' : bH ≠ wq.heap.size := Nat.ne_of_lt hbH

  have hnW : wq.heap.size ≠ bW := Nat.ne_of_gt hbW
  have hnH : wq.heap.size ≠ bH := Nat.ne_of_gt hbH
  clear hl hbL
  go_wp2
  have xB : Blk ((wq.setCell ⟨bH, p * 2 + 1, none⟩ (.int .i64 (s.kk p + 1))).alloc (.cells #[.int .i64 10] 3)) L _ _ := (hB.other hLH.symm _ _).alloc (.cells #[.int .i64 10] 3)
  have xW : Row ((wq.setCell ⟨bH, p * 2 + 1, none⟩ (.int .i64 (s.kk p + 1))).alloc (.cells #[.int .i64 10] 3)) bW (2 + n) (fun j => j) s.wd := (rW.other _ (.inl hWH.symm)).alloc (by simpa using hbW) (.cells #[.int .i64 10] 3)
  have xL : Row ((wq.setCell ⟨bH, p * 2 + 1, none⟩ (.int .i64 (s.kk p + 1))).alloc (.cells #[.int .i64 10] 3)) bH n (fun j => j * 2) s.ln := (rL.other _ (.inr fun j _ => by omega)).alloc (by simpa using hbH) (.cells #[.int .i64 10] 3)
  have xK : Row ((wq.setCell ⟨bH, p * 2 + 1, none⟩ (.int .i64 (s.kk p + 1))).alloc (.cells #[.int .i64 10] 3)) bH n (fun j => j * 2 + 1) (upd s.kk p (s.kk p + 1)) := (rK.set (i := p) hp (fun j _ e => by omega) (s.kk p + 1)).alloc (by simpa using hbH) (.cells #[.int .i64 10] 3)
  have xO : OnlyG [L, bW, bH] w ((wq.setCell ⟨bH, p * 2 + 1, none⟩ (.int .i64 (s.kk p + 1))).alloc (.cells #[.int .i64 10] 3)) := (hO.set (by simp) _ _).alloc (.cells #[.int .i64 10] 3)
  have cN : ((wq.setCell ⟨bH, p * 2 + 1, none⟩ (.int .i64 (s.kk p + 1))).alloc (.cells #[.int .i64 10] 3)).cell? ⟨wq.heap.size, 0, none⟩ = some (.int .i64 10) := (World.cell?_alloc_at _ _ _ _ (by simp)).trans rfl
  have fN : ((wq.setCell ⟨bH, p * 2 + 1, none⟩ (.int .i64 (s.kk p + 1))).alloc (.cells #[.int .i64 10] 3)).frozen? ⟨wq.heap.size, 0, none⟩ = false := by go_simp
  clear c0 c1 c2 e g e0 f0 e1 f1 hB rW rL rK hO hbW hbH hnL' hnW' hnH'
  generalize (wq.setCell ⟨bH, p * 2 + 1, none⟩ (.int .i64 (s.kk p + 1))).alloc (.cells #[.int .i64 10] 3) = wx at *
  generalize wq.heap.size = N at *
  have c0 := xB.cell 0
  simp only [List.getElem?_toArray, List.getElem?_cons_zero] at c0
  have e0 := (xK p hp).1
  rw [upd_same] at e0
  have e := (xL p hp).1
  have g := (xL p hp).2
  go_region_held3 (fun w' => w'.cell? ⟨bH, p * 2 + 1, none⟩ = some (.int .i64 (s.kk p + 1)) ∧ w'.cell? ⟨L, 0, none⟩ = some (.int .i64 n)) (go_keep) ((go_at_call 90; refine (choose_false (x := .int .i64 10) ?_ ?_).mono ?_; (simpa using cN); (simpa using fN); rintro e w' ⟨rfl, rfl⟩))
  all_goals go_wp2
  all_goals go_ret
  all_goals
    refine ⟨rfl, ⟨bW, bH, cap, rfl, hcap, hLW, hLH, hWH, ?_, ?_, ?_, ?_⟩, ?_⟩
    · exact Blk.drew (((xB.other hnL _ _)).other hLH.symm _ _)
    · exact Row.drew (((xW).other _ (.inl hnW)).other _ (.inl hWH.symm))
    · exact Row.drew (((xL).other _ (.inl hnH)).set (i := p) hp (fun j _ e => by omega) _)
    · exact Row.drew (((xK).other _ (.inl hnH)).other _ (.inr fun j _ => by omega))
    · exact OnlyG.drew (((xO.setNew hN _ _)).set (by simp) _ _)

set_option maxHeartbeats 2000000 in
set_option maxRecDepth 100000 in
theorem line91 {w : World} {n L p : Nat} {fb : List Nat} {s : St} (h : Rep w n L fb s) (hp : p < n) (hn : n ≤ 4) (h1 : 1 ≤ n) (hl : s.ln p = 9) (hk0 : 0 ≤ s.kk p) (hk1 : s.kk p + 1 = n) (h0 : s.wd (2 + (s.kk p).toNat) = 0) :
    Calls Tryd.prog 64 #[.pointer (some ⟨L, 0, none⟩), .int .i64 p] w (Post n L fb w .nilIface (stepN n s p)) := by
  obtain ⟨bW, bH, cap, rfl, hcap, hLW, hLH, hWH, hB, rW, rL, rK⟩ := h
  have hst : stepN n s p = { s with kk := upd s.kk p (s.kk p + 1), ln := upd s.ln p 10 } := by simp [stepN, hl, h0, hk1]
  rw [hst]
  have c0 := hB.cell 0
  have c1 := hB.cell 1
  have c2 := hB.cell 2
  simp only [List.getElem?_toArray, List.getElem?_cons_zero, List.getElem?_cons_succ] at c0 c1 c2
  have e := (rL p hp).1
  have g := (rL p hp).2
  have e0 := (rK (p) hp).1
  have f0 := (rK (p) hp).2
  have e1 := (rW (2 + (s.kk p).toNat) (by omega)).1
  have f1 := (rW (2 + (s.kk p).toNat) (by omega)).2
  rw [hl] at e
  have hpn : (p : Int) ≤ (n : Int) - 1 := by omega
  have hnI : 1 ≤ (n : Int) := by omega
  have t0 : (s.wd (2 + (s.kk p).toNat) == 0) = true := by simp [h0]
  have tk : (s.kk p + 1 == (n : Int)) = true := by simp; omega
  have hk2 : s.kk p < n := by omega
  have hk3 : (s.kk p).toNat < n := by omega
  clear hst h0 hk1
  have Hl := Lib.hid hl
  clear hl
  go_enter Tryd.func64, Tryd.ntmps64
  go_wp2
  go_quiet (fail)
  have hl := Hl.out
  have hO : OnlyG [L, bW, bH] w (w.drewN nq) := (OnlyG.refl _ _).drewN _
  replace hB := hB.drewN nq
  replace rW := rW.drewN nq
  replace rL := rL.drewN nq
  replace rK := rK.drewN nq
  clear c0 c1 c2 e g e0 f0 e1 f1
  generalize hwq : w.drewN nq = wq at *
  clear hwq
  have c0 := hB.cell 0
  have c1 := hB.cell 1
  have c2 := hB.cell 2
  simp only [List.getElem?_toArray, List.getElem?_cons_zero, List.getElem?_cons_succ] at c0 c1 c2
  have e := (rL p hp).1
  have g := (rL p hp).2
  have e0 := (rK (p) hp).1
  have f0 := (rK (p) hp).2
  have e1 := (rW (2 + (s.kk p).toNat) (by omega)).1
  have f1 := (rW (2 + (s.kk p).toNat) (by omega)).2
  rw [hl] at e
  have hbL := hB.lt
  have hbW := World.block_lt_of_cell? (w := wq) (a := ⟨bW, 0, none⟩) (rW 0 (by omega)).1
  have hbH := World.block_lt_of_cell? (w := wq) (a := ⟨bH, _, none⟩) (rL p hp).1
  have hN : w.heap.size ≤ wq.heap.size := hO.size_le
  have hnL : wq.heap.size ≠ L := Nat.ne_of_gt hbL
  have hnL' : L ≠ wq.heap.size := Nat.ne_of_lt hbL
  have hnW' : bW ≠ wq.heap.size := Nat.ne_of_lt hbW
  have hnH' : bH ≠ wq.heap.size := Nat.ne_of_lt hbH

  have hnW : wq.heap.size ≠ bW := Nat.ne_of_gt hbW
  have hnH : wq.heap.size ≠ bH := Nat.ne_of_gt hbH
  clear hl hbL
  go_wp2
  have xB : Blk ((wq.setCell ⟨bH, p * 2 + 1, none⟩ (.int .i64 (s.kk p + 1))).alloc (.cells #[.int .i64 10] 3)) L _ _ := (hB.other hLH.symm _ _).alloc (.cells #[.int .i64 10] 3)
  have xW : Row ((wq.setCell ⟨bH, p * 2 + 1, none⟩ (.int .i64 (s.kk p + 1))).alloc (.cells #[.int .i64 10] 3)) bW (2 + n) (fun j => j) s.wd := (rW.other _ (.inl hWH.symm)).alloc (by simpa using hbW) (.cells #[.int .i64 10] 3)
  have xL : Row ((wq.setCell ⟨bH, p * 2 + 1, none⟩ (.int .i64 (s.kk p + 1))).alloc (.cells #[.int .i64 10] 3)) bH n (fun j => j * 2) s.ln := (rL.other _ (.inr fun j _ => by omega)).alloc (by simpa using hbH) (.cells #[.int .i64 10] 3)
  have xK : Row ((wq.setCell ⟨bH, p * 2 + 1, none⟩ (.int .i64 (s.kk p + 1))).alloc (.cells #[.int .i64 10] 3)) bH n (fun j => j * 2 + 1) (upd s.kk p (s.kk p + 1)) := (rK.set (i := p) hp (fun j _ e => by omega) (s.kk p + 1)).alloc (by simpa using hbH) (.cells #[.int .i64 10] 3)
  have xO : OnlyG [L, bW, bH] w ((wq.setCell ⟨bH, p * 2 + 1, none⟩ (.int .i64 (s.kk p + 1))).alloc (.cells #[.int .i64 10] 3)) := (hO.set (by simp) _ _).alloc (.cells #[.int .i64 10] 3)
  have cN : ((wq.setCell ⟨bH, p * 2 + 1, none⟩ (.int .i64 (s.kk p + 1))).alloc (.cells #[.int .i64 10] 3)).cell? ⟨wq.heap.size, 0, none⟩ = some (.int .i64 10) := (World.cell?_alloc_at _ _ _ _ (by simp)).trans rfl
  have fN : ((wq.setCell ⟨bH, p * 2 + 1, none⟩ (.int .i64 (s.kk p + 1))).alloc (.cells #[.int .i64 10] 3)).frozen? ⟨wq.heap.size, 0, none⟩ = false := by go_simp
  clear c0 c1 c2 e g e0 f0 e1 f1 hB rW rL rK hO hbW hbH hnL' hnW' hnH'
  generalize (wq.setCell ⟨bH, p * 2 + 1, none⟩ (.int .i64 (s.kk p + 1))).alloc (.cells #[.int .i64 10] 3) = wx at *
  generalize wq.heap.size = N at *
  have c0 := xB.cell 0
  simp only [List.getElem?_toArray, List.getElem?_cons_zero] at c0
  have e0 := (xK p hp).1
  rw [upd_same] at e0
  have e := (xL p hp).1
  have g := (xL p hp).2
  go_region_held3 (fun w' => w'.cell? ⟨bH, p * 2 + 1, none⟩ = some (.int .i64 (s.kk p + 1)) ∧ w'.cell? ⟨L, 0, none⟩ = some (.int .i64 n)) (go_keep) ((go_at_call 90; refine (choose_true (x := .int .i64 10) ?_ ?_).mono ?_; (simpa using cN); (simpa using fN); rintro e w' ⟨rfl, rfl⟩))
  all_goals go_wp2
  all_goals go_ret
  all_goals
    refine ⟨rfl, ⟨bW, bH, cap, rfl, hcap, hLW, hLH, hWH, ?_, ?_, ?_, ?_⟩, ?_⟩
    · exact Blk.drew (((xB.other hnL _ _).other hnL _ _).other hLH.symm _ _)
    · exact Row.drew ((((xW).other _ (.inl hnW)).other _ (.inl hnW)).other _ (.inl hWH.symm))
    · exact Row.drew ((((xL).other _ (.inl hnH)).other _ (.inl hnH)).set (i := p) hp (fun j _ e => by omega) _)
    · exact Row.drew ((((xK).other _ (.inl hnH)).other _ (.inl hnH)).other _ (.inr fun j _ => by omega))
    · exact OnlyG.drew (((xO.setNew hN _ _).setNew hN _ _).set (by simp) _ _)

set_option maxHeartbeats 2000000 in
set_option maxRecDepth 100000 in
theorem line92 {w : World} {n L p : Nat} {fb : List Nat} {s : St} (h : Rep w n L fb s) (hp : p < n) (hn : n ≤ 4) (h1 : 1 ≤ n) (hl : s.ln p = 9) (hk0 : 0 ≤ s.kk p) (hk1 : s.kk p < n) (h0 : s.wd (2 + (s.kk p).toNat) ≠ 0) :
    Calls Tryd.prog 64 #[.pointer (some ⟨L, 0, none⟩), .int .i64 p] w (Post n L fb w .nilIface (stepN n s p)) := by
  obtain ⟨bW, bH, cap, rfl, hcap, hLW, hLH, hWH, hB, rW, rL, rK⟩ := h
  have hst : stepN n s p = { s with ln := upd s.ln p 9 } := by simp [stepN, hl, h0]
  rw [hst]
  have c0 := hB.cell 0
  have c1 := hB.cell 1
  have c2 := hB.cell 2
  simp only [List.getElem?_toArray, List.getElem?_cons_zero, List.getElem?_cons_succ] at c0 c1 c2
  have e := (rL p hp).1
  have g := (rL p hp).2
  have e0 := (rK (p) hp).1
  have f0 := (rK (p) hp).2
  have e1 := (rW (2 + (s.kk p).toNat) (by omega)).1
  have f1 := (rW (2 + (s.kk p).toNat) (by omega)).2
  rw [hl] at e
  have hpn : (p : Int) ≤ (n : Int) - 1 := by omega
  have hnI : 1 ≤ (n : Int) := by omega
  have t0 : (s.wd (2 + (s.kk p).toNat) == 0) = false := by simp [h0]
  have tk : (s.kk p == (n : Int)) = false := by simp; omega
  have hk3 : (s.kk p).toNat < n := by omega
  clear hst h0
  have Hl := Lib.hid hl
  clear hl
  go_enter Tryd.func64, Tryd.ntmps64
  go_wp2
  go_quiet (fail)
  have hl := Hl.out
  have hO : OnlyG [L, bW, bH] w (w.drewN nq) := (OnlyG.refl _ _).drewN _
  replace hB := hB.drewN nq
  replace rW := rW.drewN nq
  replace rL := rL.drewN nq
  replace rK := rK.drewN nq
  clear c0 c1 c2 e g e0 f0 e1 f1
  generalize hwq : w.drewN nq = wq at *
  clear hwq
  have c0 := hB.cell 0
  have c1 := hB.cell 1
  have c2 := hB.cell 2
  simp only [List.getElem?_toArray, List.getElem?_cons_zero, List.getElem?_cons_succ] at c0 c1 c2
  have e := (rL p hp).1
  have g := (rL p hp).2
  have e0 := (rK (p) hp).1
  have f0 := (rK (p) hp).2
  have e1 := (rW (2 + (s.kk p).toNat) (by omega)).1
  have f1 := (rW (2 + (s.kk p).toNat) (by omega)).2
  rw [hl] at e
  have hbL := hB.lt
  have hbW := World.block_lt_of_cell? (w := wq) (a := ⟨bW, 0, none⟩) (rW 0 (by omega)).1
  have hbH := World.block_lt_of_cell? (w := wq) (a := ⟨bH, _, none⟩) (rL p hp).1
  have hN : w.heap.size ≤ wq.heap.size := hO.size_le
  have hnL : wq.heap.size ≠ L := Nat.ne_of_gt hbL
  have hnL' : L ≠ wq.heap.size := Nat.ne_of_lt hbL
  have hnW' : bW ≠ wq.heap.size := Nat.ne_of_lt hbW
  have hnH' : bH ≠ wq.heap.size := Nat.ne_of_lt hbH

  have hnW : wq.heap.size ≠ bW := Nat.ne_of_gt hbW
  have hnH : wq.heap.size ≠ bH := Nat.ne_of_gt hbH
  clear hl hbL
  go_wp2
  have xB : Blk (wq.alloc (.cells #[.int .i64 10] 3)) L _ _ := hB.alloc (.cells #[.int .i64 10] 3)
  have xW : Row (wq.alloc (.cells #[.int .i64 10] 3)) bW (2 + n) (fun j => j) s.wd := rW.alloc (by simpa using hbW) (.cells #[.int .i64 10] 3)
  have xL : Row (wq.alloc (.cells #[.int .i64 10] 3)) bH n (fun j => j * 2) s.ln := rL.alloc (by simpa using hbH) (.cells #[.int .i64 10] 3)
  have xK : Row (wq.alloc (.cells #[.int .i64 10] 3)) bH n (fun j => j * 2 + 1) s.kk := rK.alloc (by simpa using hbH) (.cells #[.int .i64 10] 3)
  have xO : OnlyG [L, bW, bH] w (wq.alloc (.cells #[.int .i64 10] 3)) := hO.alloc (.cells #[.int .i64 10] 3)
  have cN : (wq.alloc (.cells #[.int .i64 10] 3)).cell? ⟨wq.heap.size, 0, none⟩ = some (.int .i64 10) := (World.cell?_alloc_at _ _ _ _ (by simp)).trans rfl
  have fN : (wq.alloc (.cells #[.int .i64 10] 3)).frozen? ⟨wq.heap.size, 0, none⟩ = false := by go_simp
  clear c0 c1 c2 e g e0 f0 e1 f1 hB rW rL rK hO hbW hbH hnL' hnW' hnH'
  generalize wq.alloc (.cells #[.int .i64 10] 3) = wx at *
  generalize wq.heap.size = N at *
  have c0 := xB.cell 0
  simp only [List.getElem?_toArray, List.getElem?_cons_zero] at c0
  have e0 := (xK p hp).1
  skip
  have e := (xL p hp).1
  have g := (xL p hp).2
  go_region_held3 (fun w' => w'.cell? ⟨bH, p * 2 + 1, none⟩ = some (.int .i64 (s.kk p)) ∧ w'.cell? ⟨L, 0, none⟩ = some (.int .i64 n)) (go_keep) ((go_at_call 90; refine (choose_false (x := .int .i64 10) ?_ ?_).mono ?_; (simpa using cN); (simpa using fN); rintro e w' ⟨rfl, rfl⟩))
  all_goals go_wp2
  all_goals go_ret
  all_goals
    refine ⟨rfl, ⟨bW, bH, cap, rfl, hcap, hLW, hLH, hWH, ?_, ?_, ?_, ?_⟩, ?_⟩
    · exact Blk.drew (((xB.other hnL _ _)).other hLH.symm _ _)
    · exact Row.drew (((xW).other _ (.inl hnW)).other _ (.inl hWH.symm))
    · exact Row.drew (((xL).other _ (.inl hnH)).set (i := p) hp (fun j _ e => by omega) _)
    · exact Row.drew (((xK).other _ (.inl hnH)).other _ (.inr fun j _ => by omega))
    · exact OnlyG.drew (((xO.setNew hN _ _)).set (by simp) _ _)

set_option maxHeartbeats 2000000 in
set_option maxRecDepth 100000 in
theorem line100 {w : World} {n L p : Nat} {fb : List Nat} {s : St} (h : Rep w n L fb s) (hp : p < n) (hn : n ≤ 4) (h1 : 1 ≤ n) (hl : s.ln p = 10) (h0 : ¬ s.wd 1 = p + 1) :
    Calls Tryd.prog 64 #[.pointer (some ⟨L, 0, none⟩), .int .i64 p] w (Post n L fb w .nilIface (stepN n s p)) := by
  obtain ⟨bW, bH, cap, rfl, hcap, hLW, hLH, hWH, hB, rW, rL, rK⟩ := h
  have hst : stepN n s p = { s with ln := upd s.ln p 11 } := by simp [stepN, hl, h0]
  rw [hst]
  have c0 := hB.cell 0
  have c1 := hB.cell 1
  have c2 := hB.cell 2
  simp only [List.getElem?_toArray, List.getElem?_cons_zero, List.getElem?_cons_succ] at c0 c1 c2
  have e := (rL p hp).1
  have g := (rL p hp).2
  have e0 := (rW (1) (by omega)).1
  have f0 := (rW (1) (by omega)).2
  rw [hl] at e
  have hpn : (p : Int) ≤ (n : Int) - 1 := by omega
  have hnI : 1 ≤ (n : Int) := by omega
  have t0 : (s.wd 1 == (p : Int) + 1) = false := by simp [h0]
  clear hst h0
  have Hl := Lib.hid hl
  clear hl
  go_enter Tryd.func64, Tryd.ntmps64
  go_wp2
  go_quiet (fail)
  have hl := Hl.out
  have hO : OnlyG [L, bW, bH] w (w.drewN nq) := (OnlyG.refl _ _).drewN _
  replace hB := hB.drewN nq
  replace rW := rW.drewN nq
  replace rL := rL.drewN nq
  replace rK := rK.drewN nq
  clear c0 c1 c2 e g e0 f0
  generalize hwq : w.drewN nq = wq at *
  clear hwq
  have c0 := hB.cell 0
  have c1 := hB.cell 1
  have c2 := hB.cell 2
  simp only [List.getElem?_toArray, List.getElem?_cons_zero, List.getElem?_cons_succ] at c0 c1 c2
  have e := (rL p hp).1
  have g := (rL p hp).2
  have e0 := (rW (1) (by omega)).1
  have f0 := (rW (1) (by omega)).2
  rw [hl] at e
  have hbL := hB.lt
  have hbW := World.block_lt_of_cell? (w := wq) (a := ⟨bW, 0, none⟩) (rW 0 (by omega)).1
  have hbH := World.block_lt_of_cell? (w := wq) (a := ⟨bH, _, none⟩) (rL p hp).1
  have hN : w.heap.size ≤ wq.heap.size := hO.size_le
  have hnL : wq.heap.size ≠ L := Nat.ne_of_gt hbL
  have hnL' : L ≠ wq.heap.size := Nat.ne_of_lt hbL
  have hnW' : bW ≠ wq.heap.size := Nat.ne_of_lt hbW
  have hnH' : bH ≠ wq.heap.size := Nat.ne_of_lt hbH

  have hnW : wq.heap.size ≠ bW := Nat.ne_of_gt hbW
  have hnH : wq.heap.size ≠ bH := Nat.ne_of_gt hbH
  clear hl hbL
  go_wp2
  go_end0
  go_wp2
  all_goals go_ret
  all_goals
    refine ⟨rfl, ⟨bW, bH, cap, rfl, hcap, hLW, hLH, hWH, ?_, ?_, ?_, ?_⟩, ?_⟩
    · exact ((hB).other hLH.symm _ _).alloc _
    · exact ((rW).other _ (.inl hWH.symm)).alloc (by simpa using hbW) _
    · exact ((rL).set (i := p) hp (fun j _ e => by omega) _).alloc (by simpa using hbH) _
    · exact ((rK).other _ (.inr fun j _ => by omega)).alloc (by simpa using hbH) _
    · exact ((hO).set (by simp) _ _).alloc _

set_option maxHeartbeats 2000000 in
set_option maxRecDepth 100000 in
theorem line101 {w : World} {n L p : Nat} {fb : List Nat} {s : St} (h : Rep w n L fb s) (hp : p < n) (hn : n ≤ 4) (h1 : 1 ≤ n) (hl : s.ln p = 10) (h0 : s.wd 1 = p + 1) :
    Calls Tryd.prog 64 #[.pointer (some ⟨L, 0, none⟩), .int .i64 p] w (Post n L fb w .nilIface (stepN n s p)) := by
  obtain ⟨bW, bH, cap, rfl, hcap, hLW, hLH, hWH, hB, rW, rL, rK⟩ := h
  have hst : stepN n s p = { s with ln := upd s.ln p 12 } := by simp [stepN, hl, h0]
  rw [hst]
  have c0 := hB.cell 0
  have c1 := hB.cell 1
  have c2 := hB.cell 2
  simp only [List.getElem?_toArray, List.getElem?_cons_zero, List.getElem?_cons_succ] at c0 c1 c2
  have e := (rL p hp).1
  have g := (rL p hp).2
  have e0 := (rW (1) (by omega)).1
  have f0 := (rW (1) (by omega)).2
  rw [hl] at e
  have hpn : (p : Int) ≤ (n : Int) - 1 := by omega
  have hnI : 1 ≤ (n : Int) := by omega
  have t0 : (s.wd 1 == (p : Int) + 1) = true := by simp [h0]
  clear hst h0
  have Hl := Lib.hid hl
  clear hl
  go_enter Tryd.func64, Tryd.ntmps64
  go_wp2
  go_quiet (fail)
  have hl := Hl.out
  have hO : OnlyG [L, bW, bH] w (w.drewN nq) := (OnlyG.refl _ _).drewN _
  replace hB := hB.drewN nq
  replace rW := rW.drewN nq
  replace rL := rL.drewN nq
  replace rK := rK.drewN nq
  clear c0 c1 c2 e g e0 f0
  generalize hwq : w.drewN nq = wq at *
  clear hwq
  have c0 := hB.cell 0
  have c1 := hB.cell 1
  have c2 := hB.cell 2
  simp only [List.getElem?_toArray, List.getElem?_cons_zero, List.getElem?_cons_succ] at c0 c1 c2
  have e := (rL p hp).1
  have g := (rL p hp).2
  have e0 := (rW (1) (by omega)).1
  have f0 := (rW (1) (by omega)).2
  rw [hl] at e
  have hbL := hB.lt
  have hbW := World.block_lt_of_cell? (w := wq) (a := ⟨bW, 0, none⟩) (rW 0 (by omega)).1
  have hbH := World.block_lt_of_cell? (w := wq) (a := ⟨bH, _, none⟩) (rL p hp).1
  have hN : w.heap.size ≤ wq.heap.size := hO.size_le
  have hnL : wq.heap.size ≠ L := Nat.ne_of_gt hbL
  have hnL' : L ≠ wq.heap.size := Nat.ne_of_lt hbL
  have hnW' : bW ≠ wq.heap.size := Nat.ne_of_lt hbW
  have hnH' : bH ≠ wq.heap.size := Nat.ne_of_lt hbH

  have hnW : wq.heap.size ≠ bW := Nat.ne_of_gt hbW
  have hnH : wq.heap.size ≠ bH := Nat.ne_of_gt hbH
  clear hl hbL
  go_wp2
  go_end0
  go_wp2
  all_goals go_ret
  all_goals
    refine ⟨rfl, ⟨bW, bH, cap, rfl, hcap, hLW, hLH, hWH, ?_, ?_, ?_, ?_⟩, ?_⟩
    · exact ((hB).other hLH.symm _ _).alloc _
    · exact ((rW).other _ (.inl hWH.symm)).alloc (by simpa using hbW) _
    · exact ((rL).set (i := p) hp (fun j _ e => by omega) _).alloc (by simpa using hbH) _
    · exact ((rK).other _ (.inr fun j _ => by omega)).alloc (by simpa using hbH) _
    · exact ((hO).set (by simp) _ _).alloc _

set_option maxHeartbeats 2000000 in
set_option maxRecDepth 100000 in
theorem line110 {w : World} {n L p : Nat} {fb : List Nat} {s : St} (h : Rep w n L fb s) (hp : p < n) (hn : n ≤ 4) (h1 : 1 ≤ n) (hl : s.ln p = 11) (h0 : ¬ s.wd 1 = 0) :
    Calls Tryd.prog 64 #[.pointer (some ⟨L, 0, none⟩), .int .i64 p] w (Post n L fb w .nilIface (stepN n s p)) := by
  obtain ⟨bW, bH, cap, rfl, hcap, hLW, hLH, hWH, hB, rW, rL, rK⟩ := h
  have hst : stepN n s p = { s with ln := upd s.ln p 11 } := by simp [stepN, hl, h0]
  rw [hst]
  have c0 := hB.cell 0
  have c1 := hB.cell 1
  have c2 := hB.cell 2
  simp only [List.getElem?_toArray, List.getElem?_cons_zero, List.getElem?_cons_succ] at c0 c1 c2
  have e := (rL p hp).1
  have g := (rL p hp).2
  have e0 := (rW (1) (by omega)).1
  have f0 := (rW (1) (by omega)).2
  rw [hl] at e
  have hpn : (p : Int) ≤ (n : Int) - 1 := by omega
  have hnI : 1 ≤ (n : Int) := by omega
  have t0 : (s.wd 1 == 0) = false := by simp [h0]
  clear hst h0
  have Hl := Lib.hid hl
  clear hl
  go_enter Tryd.func64, Tryd.ntmps64
  go_wp2
  go_quiet (fail)
  have hl := Hl.out
  have hO : OnlyG [L, bW, bH] w (w.drewN nq) := (OnlyG.refl _ _).drewN _
  replace hB := hB.drewN nq
  replace rW := rW.drewN nq
  replace rL := rL.drewN nq
  replace rK := rK.drewN nq
  clear c0 c1 c2 e g e0 f0
  generalize hwq : w.drewN nq = wq at *
  clear hwq
  have c0 := hB.cell 0
  have c1 := hB.cell 1
  have c2 := hB.cell 2
  simp only [List.getElem?_toArray, List.getElem?_cons_zero, List.getElem?_cons_succ] at c0 c1 c2
  have e := (rL p hp).1
  have g := (rL p hp).2
  have e0 := (rW (1) (by omega)).1
  have f0 := (rW (1) (by omega)).2
  rw [hl] at e
  have hbL := hB.lt
  have hbW := World.block_lt_of_cell? (w := wq) (a := ⟨bW, 0, none⟩) (rW 0 (by omega)).1
  have hbH := World.block_lt_of_cell? (w := wq) (a := ⟨bH, _, none⟩) (rL p hp).1
  have hN : w.heap.size ≤ wq.heap.size := hO.size_le
  have hnL : wq.heap.size ≠ L := Nat.ne_of_gt hbL
  have hnL' : L ≠ wq.heap.size := Nat.ne_of_lt hbL
  have hnW' : bW ≠ wq.heap.size := Nat.ne_of_lt hbW
  have hnH' : bH ≠ wq.heap.size := Nat.ne_of_lt hbH

  have hnW : wq.heap.size ≠ bW := Nat.ne_of_gt hbW
  have hnH : wq.heap.size ≠ bH := Nat.ne_of_gt hbH
  clear hl hbL
  go_wp2
  go_end0
  go_wp2
  all_goals go_ret
  all_goals
    refine ⟨rfl, ⟨bW, bH, cap, rfl, hcap, hLW, hLH, hWH, ?_, ?_, ?_, ?_⟩, ?_⟩
    · exact ((hB).other hLH.symm _ _).alloc _
    · exact ((rW).other _ (.inl hWH.symm)).alloc (by simpa using hbW) _
    · exact ((rL).set (i := p) hp (fun j _ e => by omega) _).alloc (by simpa using hbH) _
    · exact ((rK).other _ (.inr fun j _ => by omega)).alloc (by simpa using hbH) _
    · exact ((hO).set (by simp) _ _).alloc _

set_option maxHeartbeats 2000000 in
set_option maxRecDepth 100000 in
theorem line111 {w : World} {n L p : Nat} {fb : List Nat} {s : St} (h : Rep w n L fb s) (hp : p < n) (hn : n ≤ 4) (h1 : 1 ≤ n) (hl : s.ln p = 11) (h0 : s.wd 1 = 0) :
    Calls Tryd.prog 64 #[.pointer (some ⟨L, 0, none⟩), .int .i64 p] w (Post n L fb w .nilIface (stepN n s p)) := by
  obtain ⟨bW, bH, cap, rfl, hcap, hLW, hLH, hWH, hB, rW, rL, rK⟩ := h
  have hst : stepN n s p = { s with ln := upd s.ln p 1 } := by simp [stepN, hl, h0]
  rw [hst]
  have c0 := hB.cell 0
  have c1 := hB.cell 1
  have c2 := hB.cell 2
  simp only [List.getElem?_toArray, List.getElem?_cons_zero, List.getElem?_cons_succ] at c0 c1 c2
  have e := (rL p hp).1
  have g := (rL p hp).2
  have e0 := (rW (1) (by omega)).1
  have f0 := (rW (1) (by omega)).2
  rw [hl] at e
  have hpn : (p : Int) ≤ (n : Int) - 1 := by omega
  have hnI : 1 ≤ (n : Int) := by omega
  have t0 : (s.wd 1 == 0) = true := by simp [h0]
  clear hst h0
  have Hl := Lib.hid hl
  clear hl
  go_enter Tryd.func64, Tryd.ntmps64
  go_wp2
  go_quiet (fail)
  have hl := Hl.out
  have hO : OnlyG [L, bW, bH] w (w.drewN nq) := (OnlyG.refl _ _).drewN _
  replace hB := hB.drewN nq
  replace rW := rW.drewN nq
  replace rL := rL.drewN nq
  replace rK := rK.drewN nq
  clear c0 c1 c2 e g e0 f0
  generalize hwq : w.drewN nq = wq at *
  clear hwq
  have c0 := hB.cell 0
  have c1 := hB.cell 1
  have c2 := hB.cell 2
  simp only [List.getElem?_toArray, List.getElem?_cons_zero, List.getElem?_cons_succ] at c0 c1 c2
  have e := (rL p hp).1
  have g := (rL p hp).2
  have e0 := (rW (1) (by omega)).1
  have f0 := (rW (1) (by omega)).2
  rw [hl] at e
  have hbL := hB.lt
  have hbW := World.block_lt_of_cell? (w := wq) (a := ⟨bW, 0, none⟩) (rW 0 (by omega)).1
  have hbH := World.block_lt_of_cell? (w := wq) (a := ⟨bH, _, none⟩) (rL p hp).1
  have hN : w.heap.size ≤ wq.heap.size := hO.size_le
  have hnL : wq.heap.size ≠ L := Nat.ne_of_gt hbL
  have hnL' : L ≠ wq.heap.size := Nat.ne_of_lt hbL
  have hnW' : bW ≠ wq.heap.size := Nat.ne_of_lt hbW
  have hnH' : bH ≠ wq.heap.size := Nat.ne_of_lt hbH

  have hnW : wq.heap.size ≠ bW := Nat.ne_of_gt hbW
  have hnH : wq.heap.size ≠ bH := Nat.ne_of_gt hbH
  clear hl hbL
  go_wp2
  go_end0
  go_wp2
  all_goals go_ret
  all_goals
    refine ⟨rfl, ⟨bW, bH, cap, rfl, hcap, hLW, hLH, hWH, ?_, ?_, ?_, ?_⟩, ?_⟩
    · exact ((hB).other hLH.symm _ _).alloc _
    · exact ((rW).other _ (.inl hWH.symm)).alloc (by simpa using hbW) _
    · exact ((rL).set (i := p) hp (fun j _ e => by omega) _).alloc (by simpa using hbH) _
    · exact ((rK).other _ (.inr fun j _ => by omega)).alloc (by simpa using hbH) _
    · exact ((hO).set (by simp) _ _).alloc _

set_option maxHeartbeats 2000000 in
set_option maxRecDepth 100000 in
theorem line12 {w : World} {n L p : Nat} {fb : List Nat} {s : St} (h : Rep w n L fb s) (hp : p < n) (hn : n ≤ 4) (h1 : 1 ≤ n) (hl : s.ln p = 12) :
    Calls Tryd.prog 64 #[.pointer (some ⟨L, 0, none⟩), .int .i64 p] w (Post n L fb w .nilIface (stepN n s p)) := by
  obtain ⟨bW, bH, cap, rfl, hcap, hLW, hLH, hWH, hB, rW, rL, rK⟩ := h
  have hst : stepN n s p = { s with ln := upd s.ln p 13 } := by simp [stepN, hl]
  rw [hst]
  have c0 := hB.cell 0
  have c1 := hB.cell 1
  have c2 := hB.cell 2
  simp only [List.getElem?_toArray, List.getElem?_cons_zero, List.getElem?_cons_succ] at c0 c1 c2
  have e := (rL p hp).1
  have g := (rL p hp).2
  rw [hl] at e
  have hpn : (p : Int) ≤ (n : Int) - 1 := by omega
  have hnI : 1 ≤ (n : Int) := by omega
  clear hst 
  have Hl := Lib.hid hl
  clear hl
  go_enter Tryd.func64, Tryd.ntmps64
  go_wp2
  go_quiet (fail)
  have hl := Hl.out
  have hO : OnlyG [L, bW, bH] w (w.drewN nq) := (OnlyG.refl _ _).drewN _
  replace hB := hB.drewN nq
  replace rW := rW.drewN nq
  replace rL := rL.drewN nq
  replace rK := rK.drewN nq
  clear c0 c1 c2 e g 
  generalize hwq : w.drewN nq = wq at *
  clear hwq
  have c0 := hB.cell 0
  have c1 := hB.cell 1
  have c2 := hB.cell 2
  simp only [List.getElem?_toArray, List.getElem?_cons_zero, List.getElem?_cons_succ] at c0 c1 c2
  have e := (rL p hp).1
  have g := (rL p hp).2
  rw [hl] at e
  have hbL := hB.lt
  have hbW := World.block_lt_of_cell? (w := wq) (a := ⟨bW, 0, none⟩) (rW 0 (by omega)).1
  have hbH := World.block_lt_of_cell? (w := wq) (a := ⟨bH, _, none⟩) (rL p hp).1
  have hN : w.heap.size ≤ wq.heap.size := hO.size_le
  have hnL : wq.heap.size ≠ L := Nat.ne_of_gt hbL
  have hnL' : L ≠ wq.heap.size := Nat.ne_of_lt hbL
  have hnW' : bW ≠ wq.heap.size := Nat.ne_of_lt hbW
  have hnH' : bH ≠ wq.heap.size := Nat.ne_of_lt hbH

  have hnW : wq.heap.size ≠ bW := Nat.ne_of_gt hbW
  have hnH : wq.heap.size ≠ bH := Nat.ne_of_gt hbH
  clear hl hbL
  go_wp2
  all_goals go_ret
  all_goals
    refine ⟨rfl, ⟨bW, bH, cap, rfl, hcap, hLW, hLH, hWH, ?_, ?_, ?_, ?_⟩, ?_⟩
    · exact ((hB).other hLH.symm _ _).alloc _
    · exact ((rW).other _ (.inl hWH.symm)).alloc (by simpa using hbW) _
    · exact ((rL).set (i := p) hp (fun j _ e => by omega) _).alloc (by simpa using hbH) _
    · exact ((rK).other _ (.inr fun j _ => by omega)).alloc (by simpa using hbH) _
    · exact ((hO).set (by simp) _ _).alloc _

set_option maxHeartbeats 2000000 in
set_option maxRecDepth 100000 in
theorem line13 {w : World} {n L p : Nat} {fb : List Nat} {s : St} (h : Rep w n L fb s) (hp : p < n) (hn : n ≤ 4) (h1 : 1 ≤ n) (hl : s.ln p = 13) :
    Calls Tryd.prog 64 #[.pointer (some ⟨L, 0, none⟩), .int .i64 p] w (Post n L fb w .nilIface (stepN n s p)) := by
  obtain ⟨bW, bH, cap, rfl, hcap, hLW, hLH, hWH, hB, rW, rL, rK⟩ := h
  have hst : stepN n s p = { s with wd := upd s.wd 1 0, ln := upd s.ln p 14 } := by simp [stepN, hl]
  rw [hst]
  have c0 := hB.cell 0
  have c1 := hB.cell 1
  have c2 := hB.cell 2
  simp only [List.getElem?_toArray, List.getElem?_cons_zero, List.getElem?_cons_succ] at c0 c1 c2
  have e := (rL p hp).1
  have g := (rL p hp).2
  have e0 := (rW (1) (by omega)).1
  have f0 := (rW (1) (by omega)).2
  rw [hl] at e
  have hpn : (p : Int) ≤ (n : Int) - 1 := by omega
  have hnI : 1 ≤ (n : Int) := by omega
  clear hst 
  have Hl := Lib.hid hl
  clear hl
  go_enter Tryd.func64, Tryd.ntmps64
  go_wp2
  go_quiet (fail)
  have hl := Hl.out
  have hO : OnlyG [L, bW, bH] w (w.drewN nq) := (OnlyG.refl _ _).drewN _
  replace hB := hB.drewN nq
  replace rW := rW.drewN nq
  replace rL := rL.drewN nq
  replace rK := rK.drewN nq
  clear c0 c1 c2 e g e0 f0
  generalize hwq : w.drewN nq = wq at *
  clear hwq
  have c0 := hB.cell 0
  have c1 := hB.cell 1
  have c2 := hB.cell 2
  simp only [List.getElem?_toArray, List.getElem?_cons_zero, List.getElem?_cons_succ] at c0 c1 c2
  have e := (rL p hp).1
  have g := (rL p hp).2
  have e0 := (rW (1) (by omega)).1
  have f0 := (rW (1) (by omega)).2
  rw [hl] at e
  have hbL := hB.lt
  have hbW := World.block_lt_of_cell? (w := wq) (a := ⟨bW, 0, none⟩) (rW 0 (by omega)).1
  have hbH := World.block_lt_of_cell? (w := wq) (a := ⟨bH, _, none⟩) (rL p hp).1
  have hN : w.heap.size ≤ wq.heap.size := hO.size_le
  have hnL : wq.heap.size ≠ L := Nat.ne_of_gt hbL
  have hnL' : L ≠ wq.heap.size := Nat.ne_of_lt hbL
  have hnW' : bW ≠ wq.heap.size := Nat.ne_of_lt hbW
  have hnH' : bH ≠ wq.heap.size := Nat.ne_of_lt hbH

  have hnW : wq.heap.size ≠ bW := Nat.ne_of_gt hbW
  have hnH : wq.heap.size ≠ bH := Nat.ne_of_gt hbH
  clear hl hbL
  go_wp2
  all_goals go_ret
  all_goals
    refine ⟨rfl, ⟨bW, bH, cap, rfl, hcap, hLW, hLH, hWH, ?_, ?_, ?_, ?_⟩, ?_⟩
    · exact (((hB).other hLW.symm _ _).other hLH.symm _ _).alloc _
    · exact (((rW).set (i := 1) (by omega) (fun j _ e => e) _).other _ (.inl hWH.symm)).alloc (by simpa using hbW) _
    · exact (((rL).other _ (.inl hWH)).set (i := p) hp (fun j _ e => by omega) _).alloc (by simpa using hbH) _
    · exact (((rK).other _ (.inl hWH)).other _ (.inr fun j _ => by omega)).alloc (by simpa using hbH) _
    · exact (((hO).set (by simp) _ _).set (by simp) _ _).alloc _

set_option maxHeartbeats 2000000 in
set_option maxRecDepth 100000 in
theorem line14 {w : World} {n L p : Nat} {fb : List Nat} {s : St} (h : Rep w n L fb s) (hp : p < n) (hn : n ≤ 4) (h1 : 1 ≤ n) (hl : s.ln p = 14) :
    Calls Tryd.prog 64 #[.pointer (some ⟨L, 0, none⟩), .int .i64 p] w (Post n L fb w .nilIface (stepN n s p)) := by
  obtain ⟨bW, bH, cap, rfl, hcap, hLW, hLH, hWH, hB, rW, rL, rK⟩ := h
  have hst : stepN n s p = { s with wd := upd s.wd (2 + p) 0, ln := upd s.ln p 1 } := by simp [stepN, hl]
  rw [hst]
  have c0 := hB.cell 0
  have c1 := hB.cell 1
  have c2 := hB.cell 2
  simp only [List.getElem?_toArray, List.getElem?_cons_zero, List.getElem?_cons_succ] at c0 c1 c2
  have e := (rL p hp).1
  have g := (rL p hp).2
  have e0 := (rW (2 + p) (by omega)).1
  have f0 := (rW (2 + p) (by omega)).2
  rw [hl] at e
  have hpn : (p : Int) ≤ (n : Int) - 1 := by omega
  have hnI : 1 ≤ (n : Int) := by omega
  clear hst 
  have Hl := Lib.hid hl
  clear hl
  go_enter Tryd.func64, Tryd.ntmps64
  go_wp2
  go_quiet (fail)
  have hl := Hl.out
  have hO : OnlyG [L, bW, bH] w (w.drewN nq) := (OnlyG.refl _ _).drewN _
  replace hB := hB.drewN nq
  replace rW := rW.drewN nq
  replace rL := rL.drewN nq
  replace rK := rK.drewN nq
  clear c0 c1 c2 e g e0 f0
  generalize hwq : w.drewN nq = wq at *
  clear hwq
  have c0 := hB.cell 0
  have c1 := hB.cell 1
  have c2 := hB.cell 2
  simp only [List.getElem?_toArray, List.getElem?_cons_zero, List.getElem?_cons_succ] at c0 c1 c2
  have e := (rL p hp).1
  have g := (rL p hp).2
  have e0 := (rW (2 + p) (by omega)).1
  have f0 := (rW (2 + p) (by omega)).2
  rw [hl] at e
  have hbL := hB.lt
  have hbW := World.block_lt_of_cell? (w := wq) (a := ⟨bW, 0, none⟩) (rW 0 (by omega)).1
  have hbH := World.block_lt_of_cell? (w := wq) (a := ⟨bH, _, none⟩) (rL p hp).1
  have hN : w.heap.size ≤ wq.heap.size := hO.size_le
  have hnL : wq.heap.size ≠ L := Nat.ne_of_gt hbL
  have hnL' : L ≠ wq.heap.size := Nat.ne_of_lt hbL
  have hnW' : bW ≠ wq.heap.size := Nat.ne_of_lt hbW
  have hnH' : bH ≠ wq.heap.size := Nat.ne_of_lt hbH

  have hnW : wq.heap.size ≠ bW := Nat.ne_of_gt hbW
  have hnH : wq.heap.size ≠ bH := Nat.ne_of_gt hbH
  clear hl hbL
  go_wp2
  all_goals go_ret
  all_goals
    refine ⟨rfl, ⟨bW, bH, cap, rfl, hcap, hLW, hLH, hWH, ?_, ?_, ?_, ?_⟩, ?_⟩
    · exact (((hB).other hLW.symm _ _).other hLH.symm _ _).alloc _
    · exact (((rW).set (i := 2 + p) (by omega) (fun j _ e => e) _).other _ (.inl hWH.symm)).alloc (by simpa using hbW) _
    · exact (((rL).other _ (.inl hWH)).set (i := p) hp (fun j _ e => by omega) _).alloc (by simpa using hbH) _
    · exact (((rK).other _ (.inl hWH)).other _ (.inr fun j _ => by omega)).alloc (by simpa using hbH) _
    · exact (((hO).set (by simp) _ _).set (by simp) _ _).alloc _

set_option maxRecDepth 100000 in
theorem step_no {w : World} {n L : Nat} {fb : List Nat} {s : St} {p : Int} (h : Rep w n L fb s) (hn : n ≤ 4) (hp : p < 0 ∨ n ≤ p) :
    Calls Tryd.prog 64 #[.pointer (some ⟨L, 0, none⟩), .int .i64 p] w fun e w' => e = .returned (.iface 77 (.int .i64 1)) ∧ w = w' := by
  obtain ⟨bW, bH, cap, rfl, hcap, hLW, hLH, hWH, hB, -⟩ := h
  have c0 := hB.cell 0
  simp only [List.getElem?_toArray, List.getElem?_cons_zero] at c0
  by_cases hq : p < 0
  · clear hp
    go_enter Tryd.func64, Tryd.ntmps64
    go_wp2
    go_ret
    exact ⟨rfl, rfl⟩
  · have h1 : decide (p ≤ (n : Int) - 1) = false := by simp; omega
    have h0 : 0 ≤ p := by omega
    clear hp hq
    go_enter Tryd.func64, Tryd.ntmps64
    go_wp2
    go_ret
    exact ⟨rfl, rfl⟩

theorem at_any {w : World} {n L : Nat} {fb : List Nat} {s : St} (p : Int) (h : Rep w n L fb s) (hn : n ≤ 4) :
    Calls Tryd.prog 66 #[.pointer (some ⟨L, 0, none⟩), .int .i64 p] w fun e w' => e = .returned (.int .i64 (line n s p)) ∧ w = w' := by
  obtain ⟨bW, bH, cap, rfl, hcap, hLW, hLH, hWH, hB, rW, rL, -⟩ := h
  have c0 := hB.cell 0
  have c2 := hB.cell 2
  simp only [List.getElem?_toArray, List.getElem?_cons_zero, List.getElem?_cons_succ] at c0 c2
  by_cases hp : 0 ≤ p ∧ p < n
  · obtain ⟨m, rfl⟩ := Int.eq_ofNat_of_zero_le hp.1
    rw [line_nat s (by omega)]
    have e := (rL m (by omega)).1
    have h0 : (m : Int) ≤ (n : Int) - 1 := by omega
    have h1 : m < n := by omega
    clear hp
    go_enter Tryd.func66, Tryd.ntmps66
    go_wp2
    go_ret
    exact ⟨rfl, rfl⟩
  · have e : line n s p = 0 := by unfold line; rw [if_neg hp]
    rw [e]
    by_cases hq : p < 0
    · clear hp
      go_enter Tryd.func66, Tryd.ntmps66
      go_wp2
      go_ret
      exact ⟨rfl, rfl⟩
    · have h1 : decide (p ≤ (n : Int) - 1) = false := by simp; omega
      have h0 : 0 ≤ p := by omega
      clear hp hq
      go_enter Tryd.func66, Tryd.ntmps66
      go_wp2
      go_ret
      exact ⟨rfl, rfl⟩

theorem at_of {w : World} {n L : Nat} {fb : List Nat} {s : St} {p k : Int} (hb : Rep w n L fb s) (hn : n ≤ 4) (hk : line n s p = k) :
    Calls Tryd.prog 66 #[.pointer (some ⟨L, 0, none⟩), .int .i64 p] w fun e w' => e = .returned (.int .i64 k) ∧ w = w' := by
  subst hk; exact at_any p hb hn

theorem step_any {w : World} {n k L : Nat} {fb : List Nat} {s : St} (p : Int) (hb : Rep w n L fb s) (hs : Reach n k s) (hk : k ≤ 100000) :
    Calls Tryd.prog 64 #[.pointer (some ⟨L, 0, none⟩), .int .i64 p] w (Post n L fb w (told n p) (step n s p)) := by
  by_cases hp : 0 ≤ p ∧ p < n
  · obtain ⟨m, rfl⟩ := Int.eq_ofNat_of_zero_le hp.1
    have hm : m < n := by omega
    have ht : told n (m : Int) = .nilIface := by unfold told; rw [if_pos hp]
    rw [step_nat s hm, ht]
    have hln := hs.fine hm
    have hn := hs.2.1
    have h1 := hs.1
    have hk := hs.2.2.kk m hm
    obtain hl | hl | hl | hl | hl | hl | hl | hl | hl | hl | hl | hl | hl | hl : s.ln m = 1 ∨ s.ln m = 2 ∨ s.ln m = 3 ∨ s.ln m = 4 ∨ s.ln m = 5 ∨ s.ln m = 6 ∨ s.ln m = 7 ∨ s.ln m = 8 ∨ s.ln m = 9 ∨ s.ln m = 10 ∨ s.ln m = 11 ∨ s.ln m = 12 ∨ s.ln m = 13 ∨ s.ln m = 14 := by omega
    · exact line1 hb hm hn h1 hl
    · exact line2 hb hm hn h1 hl
    · by_cases h0 : s.wd 1 = 0
      · exact line31 hb hm hn h1 hl h0
      · exact line30 hb hm hn h1 hl h0
    · exact line4 hb hm hn h1 hl
    · by_cases h0 : s.wd 1 = 0
      · exact line51 hb hm hn h1 hl h0
      · exact line50 hb hm hn h1 hl h0
    · exact line6 hb hm hn h1 hl
    · by_cases h0 : s.wd 0 = m + 1
      · exact line71 hb hm hn h1 hl h0
      · exact line70 hb hm hn h1 hl h0
    · exact line8 hb hm hn h1 hl
    · by_cases h0 : s.wd (2 + (s.kk m).toNat) = 0
      · by_cases h2 : s.kk m + 1 = n
        · exact line91 hb hm hn h1 hl hk.1 h2 h0
        · exact line90 hb hm hn h1 hl hk.1 (by have := hk.2.2 hl; omega) h0
      · exact line92 hb hm hn h1 hl hk.1 (hk.2.2 hl) h0
    · by_cases h0 : s.wd 1 = m + 1
      · exact line101 hb hm hn h1 hl h0
      · exact line100 hb hm hn h1 hl h0
    · by_cases h0 : s.wd 1 = 0
      · exact line111 hb hm hn h1 hl h0
      · exact line110 hb hm hn h1 hl h0
    · exact line12 hb hm hn h1 hl
    · exact line13 hb hm hn h1 hl
    · exact line14 hb hm hn h1 hl
  · refine (step_no hb hs.2.1 (by omega)).mono ?_
    rintro e w' ⟨rfl, rfl⟩
    exact ⟨by unfold told; rw [if_neg hp], by unfold step; rw [if_neg hp]; exact hb, OnlyG.refl _ _⟩

theorem step_of {w : World} {n k L : Nat} {fb : List Nat} {s s' : St} {p : Int} {r : Value} (hb : Rep w n L fb s) (hs : Reach n k s) (hk : k ≤ 100000) (hr : told n p = r) (he : step n s p = s') :
    Calls Tryd.prog 64 #[.pointer (some ⟨L, 0, none⟩), .int .i64 p] w (Post n L fb w r s') := by
  subst hr; subst he; exact step_any p hb hs hk
theorem told_nil {n : Nat} {p : Nat} (hp : p < n) : told n (p : Int) = .nilIface := by
  unfold told; rw [if_pos (by omega)]
end Go.Proofs.YtgkfgijmccojjaaDoor.Fast
