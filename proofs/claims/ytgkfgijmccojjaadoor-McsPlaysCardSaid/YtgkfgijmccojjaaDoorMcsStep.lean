import Derived.Test.YtgkfgijmccojjaaDoorBase
import Derived.Test.YtgkfgijmccojjaaDoorMcsPlain
namespace Go.Proofs.YtgkfgijmccojjaaDoor.Mcs
open Go.RowKit
set_option linter.unusedVariables false

/-- The lock lies at block L, in the state s; the list: the blocks that are its own. -/
def Rep (w : World) (n L : Nat) (fb : List Nat) (s : St) : Prop :=
  ∃ bW bH cap, fb = [L, bW, bH] ∧ n ≤ cap ∧ L ≠ bW ∧ L ≠ bH ∧ bW ≠ bH ∧
    Blk w L #[.int .i64 n, .slice (some ⟨bW, 0, none⟩) (1 + 2 * n) (1 + 2 * n), .slice (some ⟨bH, 0, none⟩) n cap] 140 ∧
    Row w bW (1 + 2 * n) (fun j => j) s.wd ∧ Row w bH n (fun j => j * 2) s.ln ∧ Row w bH n (fun j => j * 2 + 1) s.sn
def told (n : Nat) (p : Int) : Value := if 0 ≤ p ∧ p < n then .nilIface else .iface 77 (.int .i64 1)
def Post (n L : Nat) (fb : List Nat) (w : World) (r : Value) (s : St) (e : Ending) (w' : World) : Prop :=
  e = .returned r ∧ Rep w' n L fb s ∧ Only fb w w'
def Made (n : Nat) (w : World) (e : Ending) (w' : World) : Prop :=
  ∃ L fb, e = .returned (.tuple #[.pointer (some ⟨L, 0, none⟩), .nilIface]) ∧ Rep w' n L fb (first n) ∧ Below w.heap.size w w' ∧ (∀ k ∈ fb, w.heap.size ≤ k ∧ k < w'.heap.size)

theorem Rep.keep {w w' : World} {n L : Nat} {fb : List Nat} {s : St} (h : Rep w n L fb s) (hk : ∀ k ∈ fb, w'.heap[k]? = w.heap[k]?) : Rep w' n L fb s := by
  obtain ⟨bW, bH, cap, rfl, hcap, hLW, hLH, hWH, hB, rW, rL, rS⟩ := h
  refine ⟨bW, bH, cap, rfl, hcap, hLW, hLH, hWH, ?_, rW.keep (hk _ (by simp)), rL.keep (hk _ (by simp)), rS.keep (hk _ (by simp))⟩
  unfold Blk at *
  rw [hk L (by simp)]; exact hB

set_option maxHeartbeats 1000000 in
set_option maxRecDepth 100000 in
theorem line1 {w : World} {n L p : Nat} {fb : List Nat} {s : St} (h : Rep w n L fb s) (hp : p < n) (hn : n ≤ 4) (h1 : 1 ≤ n) (hl : s.ln p = 1) :
    Calls Tryd.prog 69 #[.pointer (some ⟨L, 0, none⟩), .int .i64 p] w (Post n L fb w .nilIface (stepN n s p)) := by
  obtain ⟨bW, bH, cap, rfl, hcap, hLW, hLH, hWH, hB, rW, rL, rS⟩ := h
  have c0 := hB.cell 0
  have c1 := hB.cell 1
  have c2 := hB.cell 2
  simp only [List.getElem?_toArray, List.getElem?_cons_zero, List.getElem?_cons_succ] at c0 c1 c2
  have hst : stepN n s p = { s with wd := upd s.wd (1 + n + p) 0, ln := upd s.ln p 2 } := by simp [stepN, hl]
  rw [hst]
  have e := (rL p hp).1
  have g := (rL p hp).2
  have e0 := (rW (1 + n + p) (by omega)).1
  have f0 := (rW (1 + n + p) (by omega)).2
  rw [hl] at e
  have hpn : (p : Int) ≤ (n : Int) - 1 := by omega
  have hnI : 1 ≤ (n : Int) := by omega
  clear hl hst 
  go_enter Tryd.func69, Tryd.ntmps69
  go_wp2
  go_quiet (fail)
  all_goals go_wp2
  all_goals go_ret
  all_goals
    refine ⟨rfl, ⟨bW, bH, cap, rfl, hcap, hLW, hLH, hWH, ?_, ?_, ?_, ?_⟩, ?_⟩
    · exact (((hB.drewN _)).other hLW.symm _ _).other hLH.symm _ _
    · exact (((rW.drewN _)).set (i := 1 + n + p) (by omega) (fun j _ e => e) _).other _ (.inl hWH.symm)
    · exact (((rL.drewN _)).other _ (.inl hWH)).set (i := p) hp (fun j _ e => by omega) _
    · exact (((rS.drewN _)).other _ (.inl hWH)).other _ (.inr fun j _ => by omega)
    · exact ((((Only.refl _ _).drewN _)).set (by simp) _ _).set (by simp) _ _

set_option maxHeartbeats 1000000 in
set_option maxRecDepth 100000 in
theorem line20 {w : World} {n L p : Nat} {fb : List Nat} {s : St} (h : Rep w n L fb s) (hp : p < n) (hn : n ≤ 4) (h1 : 1 ≤ n) (hl : s.ln p = 2) (h0 : s.wd 0 ≠ 0) :
    Calls Tryd.prog 69 #[.pointer (some ⟨L, 0, none⟩), .int .i64 p] w (Post n L fb w .nilIface (stepN n s p)) := by
  obtain ⟨bW, bH, cap, rfl, hcap, hLW, hLH, hWH, hB, rW, rL, rS⟩ := h
  have c0 := hB.cell 0
  have c1 := hB.cell 1
  have c2 := hB.cell 2
  simp only [List.getElem?_toArray, List.getElem?_cons_zero, List.getElem?_cons_succ] at c0 c1 c2
  have hst : stepN n s p = { wd := upd s.wd 0 (p + 1), ln := upd s.ln p 3, sn := upd s.sn p (s.wd 0), q := s.q ++ [p] } := by simp [stepN, hl, h0]
  rw [hst]
  have e := (rL p hp).1
  have g := (rL p hp).2
  have e0 := (rW (0) (by omega)).1
  have f0 := (rW (0) (by omega)).2
  have e1 := (rS (p) hp).1
  have f1 := (rS (p) hp).2
  rw [hl] at e
  have hpn : (p : Int) ≤ (n : Int) - 1 := by omega
  have hnI : 1 ≤ (n : Int) := by omega
  have t0 : (s.wd 0 == 0) = false := by simp [h0]
  clear hl hst h0
  go_enter Tryd.func69, Tryd.ntmps69
  go_wp2
  go_quiet (fail)
  all_goals go_wp2
  all_goals go_ret
  all_goals
    refine ⟨rfl, ⟨bW, bH, cap, rfl, hcap, hLW, hLH, hWH, ?_, ?_, ?_, ?_⟩, ?_⟩
    · exact ((((hB.drewN _)).other hLH.symm _ _).other hLW.symm _ _).other hLH.symm _ _
    · exact ((((rW.drewN _)).other _ (.inl hWH.symm)).set (i := 0) (by omega) (fun j _ e => e) _).other _ (.inl hWH.symm)
    · exact ((((rL.drewN _)).other _ (.inr fun j _ => by omega)).other _ (.inl hWH)).set (i := p) hp (fun j _ e => by omega) _
    · exact ((((rS.drewN _)).set (i := p) hp (fun j _ e => by omega) _).other _ (.inl hWH)).other _ (.inr fun j _ => by omega)
    · exact (((((Only.refl _ _).drewN _)).set (by simp) _ _).set (by simp) _ _).set (by simp) _ _

set_option maxHeartbeats 1000000 in
set_option maxRecDepth 100000 in
theorem line21 {w : World} {n L p : Nat} {fb : List Nat} {s : St} (h : Rep w n L fb s) (hp : p < n) (hn : n ≤ 4) (h1 : 1 ≤ n) (hl : s.ln p = 2) (h0 : s.wd 0 = 0) :
    Calls Tryd.prog 69 #[.pointer (some ⟨L, 0, none⟩), .int .i64 p] w (Post n L fb w .nilIface (stepN n s p)) := by
  obtain ⟨bW, bH, cap, rfl, hcap, hLW, hLH, hWH, hB, rW, rL, rS⟩ := h
  have c0 := hB.cell 0
  have c1 := hB.cell 1
  have c2 := hB.cell 2
  simp only [List.getElem?_toArray, List.getElem?_cons_zero, List.getElem?_cons_succ] at c0 c1 c2
  have hst : stepN n s p = { wd := upd s.wd 0 (p + 1), ln := upd s.ln p 6, sn := upd s.sn p (s.wd 0), q := s.q ++ [p] } := by simp [stepN, hl, h0]
  rw [hst]
  have e := (rL p hp).1
  have g := (rL p hp).2
  have e0 := (rW (0) (by omega)).1
  have f0 := (rW (0) (by omega)).2
  have e1 := (rS (p) hp).1
  have f1 := (rS (p) hp).2
  rw [hl] at e
  have hpn : (p : Int) ≤ (n : Int) - 1 := by omega
  have hnI : 1 ≤ (n : Int) := by omega
  have t0 : (s.wd 0 == 0) = true := by simp [h0]
  clear hl hst h0
  go_enter Tryd.func69, Tryd.ntmps69
  go_wp2
  go_quiet (fail)
  all_goals go_wp2
  all_goals go_ret
  all_goals
    refine ⟨rfl, ⟨bW, bH, cap, rfl, hcap, hLW, hLH, hWH, ?_, ?_, ?_, ?_⟩, ?_⟩
    · exact ((((hB.drewN _)).other hLH.symm _ _).other hLW.symm _ _).other hLH.symm _ _
    · exact ((((rW.drewN _)).other _ (.inl hWH.symm)).set (i := 0) (by omega) (fun j _ e => e) _).other _ (.inl hWH.symm)
    · exact ((((rL.drewN _)).other _ (.inr fun j _ => by omega)).other _ (.inl hWH)).set (i := p) hp (fun j _ e => by omega) _
    · exact ((((rS.drewN _)).set (i := p) hp (fun j _ e => by omega) _).other _ (.inl hWH)).other _ (.inr fun j _ => by omega)
    · exact (((((Only.refl _ _).drewN _)).set (by simp) _ _).set (by simp) _ _).set (by simp) _ _

set_option maxHeartbeats 1000000 in
set_option maxRecDepth 100000 in
theorem line3 {w : World} {n L p : Nat} {fb : List Nat} {s : St} (h : Rep w n L fb s) (hp : p < n) (hn : n ≤ 4) (h1 : 1 ≤ n) (hl : s.ln p = 3) :
    Calls Tryd.prog 69 #[.pointer (some ⟨L, 0, none⟩), .int .i64 p] w (Post n L fb w .nilIface (stepN n s p)) := by
  obtain ⟨bW, bH, cap, rfl, hcap, hLW, hLH, hWH, hB, rW, rL, rS⟩ := h
  have c0 := hB.cell 0
  have c1 := hB.cell 1
  have c2 := hB.cell 2
  simp only [List.getElem?_toArray, List.getElem?_cons_zero, List.getElem?_cons_succ] at c0 c1 c2
  have hst : stepN n s p = { s with wd := upd s.wd (1 + p) 1, ln := upd s.ln p 4 } := by simp [stepN, hl]
  rw [hst]
  have e := (rL p hp).1
  have g := (rL p hp).2
  have e0 := (rW (1 + p) (by omega)).1
  have f0 := (rW (1 + p) (by omega)).2
  rw [hl] at e
  have hpn : (p : Int) ≤ (n : Int) - 1 := by omega
  have hnI : 1 ≤ (n : Int) := by omega
  clear hl hst 
  go_enter Tryd.func69, Tryd.ntmps69
  go_wp2
  go_quiet (fail)
  all_goals go_wp2
  all_goals go_ret
  all_goals
    refine ⟨rfl, ⟨bW, bH, cap, rfl, hcap, hLW, hLH, hWH, ?_, ?_, ?_, ?_⟩, ?_⟩
    · exact (((hB.drewN _)).other hLW.symm _ _).other hLH.symm _ _
    · exact (((rW.drewN _)).set (i := 1 + p) (by omega) (fun j _ e => e) _).other _ (.inl hWH.symm)
    · exact (((rL.drewN _)).other _ (.inl hWH)).set (i := p) hp (fun j _ e => by omega) _
    · exact (((rS.drewN _)).other _ (.inl hWH)).other _ (.inr fun j _ => by omega)
    · exact ((((Only.refl _ _).drewN _)).set (by simp) _ _).set (by simp) _ _

set_option maxHeartbeats 1000000 in
set_option maxRecDepth 100000 in
theorem line4 {w : World} {n L p : Nat} {fb : List Nat} {s : St} (h : Rep w n L fb s) (hp : p < n) (hn : n ≤ 4) (h1 : 1 ≤ n) (hl : s.ln p = 4) (hs : 1 ≤ s.sn p ∧ s.sn p ≤ n) :
    Calls Tryd.prog 69 #[.pointer (some ⟨L, 0, none⟩), .int .i64 p] w (Post n L fb w .nilIface (stepN n s p)) := by
  obtain ⟨bW, bH, cap, rfl, hcap, hLW, hLH, hWH, hB, rW, rL, rS⟩ := h
  have c0 := hB.cell 0
  have c1 := hB.cell 1
  have c2 := hB.cell 2
  simp only [List.getElem?_toArray, List.getElem?_cons_zero, List.getElem?_cons_succ] at c0 c1 c2
  have hst : stepN n s p = { s with wd := upd s.wd (1 + n + ((s.sn p).toNat - 1)) (p + 1), ln := upd s.ln p 5 } := by simp [stepN, hl, show (s.sn p - 1).toNat = (s.sn p).toNat - 1 by omega]
  rw [hst]
  have e := (rL p hp).1
  have g := (rL p hp).2
  have e0 := (rS (p) hp).1
  have f0 := (rS (p) hp).2
  have e1 := (rW (1 + n + ((s.sn p).toNat - 1)) (by omega)).1
  have f1 := (rW (1 + n + ((s.sn p).toNat - 1)) (by omega)).2
  rw [hl] at e
  have hpn : (p : Int) ≤ (n : Int) - 1 := by omega
  have hnI : 1 ≤ (n : Int) := by omega
  have hs1 := hs.1
  have hs2 := hs.2
  clear hl hst hs
  go_enter Tryd.func69, Tryd.ntmps69
  go_wp2
  go_quiet (fail)
  all_goals go_wp2
  all_goals go_ret
  all_goals
    refine ⟨rfl, ⟨bW, bH, cap, rfl, hcap, hLW, hLH, hWH, ?_, ?_, ?_, ?_⟩, ?_⟩
    · exact (((hB.drewN _)).other hLW.symm _ _).other hLH.symm _ _
    · exact (((rW.drewN _)).set (i := 1 + n + ((s.sn p).toNat - 1)) (by omega) (fun j _ e => e) _).other _ (.inl hWH.symm)
    · exact (((rL.drewN _)).other _ (.inl hWH)).set (i := p) hp (fun j _ e => by omega) _
    · exact (((rS.drewN _)).other _ (.inl hWH)).other _ (.inr fun j _ => by omega)
    · exact ((((Only.refl _ _).drewN _)).set (by simp) _ _).set (by simp) _ _

set_option maxHeartbeats 1000000 in
set_option maxRecDepth 100000 in
theorem line50 {w : World} {n L p : Nat} {fb : List Nat} {s : St} (h : Rep w n L fb s) (hp : p < n) (hn : n ≤ 4) (h1 : 1 ≤ n) (hl : s.ln p = 5) (h0 : s.wd (1 + p) ≠ 0) :
    Calls Tryd.prog 69 #[.pointer (some ⟨L, 0, none⟩), .int .i64 p] w (Post n L fb w .nilIface (stepN n s p)) := by
  obtain ⟨bW, bH, cap, rfl, hcap, hLW, hLH, hWH, hB, rW, rL, rS⟩ := h
  have c0 := hB.cell 0
  have c1 := hB.cell 1
  have c2 := hB.cell 2
  simp only [List.getElem?_toArray, List.getElem?_cons_zero, List.getElem?_cons_succ] at c0 c1 c2
  have hst : stepN n s p = { s with ln := upd s.ln p 5 } := by simp [stepN, hl, h0]
  rw [hst]
  have e := (rL p hp).1
  have g := (rL p hp).2
  have e0 := (rW (1 + p) (by omega)).1
  have f0 := (rW (1 + p) (by omega)).2
  rw [hl] at e
  have hpn : (p : Int) ≤ (n : Int) - 1 := by omega
  have hnI : 1 ≤ (n : Int) := by omega
  have t0 : (s.wd (1 + p) != 0) = true := by simp [h0]
  clear hl hst h0
  go_enter Tryd.func69, Tryd.ntmps69
  go_wp2
  go_quiet (fail)
  all_goals go_wp2
  all_goals go_ret
  all_goals
    refine ⟨rfl, ⟨bW, bH, cap, rfl, hcap, hLW, hLH, hWH, ?_, ?_, ?_, ?_⟩, ?_⟩
    · exact ((hB.drewN _)).other hLH.symm _ _
    · exact ((rW.drewN _)).other _ (.inl hWH.symm)
    · exact ((rL.drewN _)).set (i := p) hp (fun j _ e => by omega) _
    · exact ((rS.drewN _)).other _ (.inr fun j _ => by omega)
    · exact (((Only.refl _ _).drewN _)).set (by simp) _ _

set_option maxHeartbeats 1000000 in
set_option maxRecDepth 100000 in
theorem line51 {w : World} {n L p : Nat} {fb : List Nat} {s : St} (h : Rep w n L fb s) (hp : p < n) (hn : n ≤ 4) (h1 : 1 ≤ n) (hl : s.ln p = 5) (h0 : s.wd (1 + p) = 0) :
    Calls Tryd.prog 69 #[.pointer (some ⟨L, 0, none⟩), .int .i64 p] w (Post n L fb w .nilIface (stepN n s p)) := by
  obtain ⟨bW, bH, cap, rfl, hcap, hLW, hLH, hWH, hB, rW, rL, rS⟩ := h
  have c0 := hB.cell 0
  have c1 := hB.cell 1
  have c2 := hB.cell 2
  simp only [List.getElem?_toArray, List.getElem?_cons_zero, List.getElem?_cons_succ] at c0 c1 c2
  have hst : stepN n s p = { s with ln := upd s.ln p 6 } := by simp [stepN, hl, h0]
  rw [hst]
  have e := (rL p hp).1
  have g := (rL p hp).2
  have e0 := (rW (1 + p) (by omega)).1
  have f0 := (rW (1 + p) (by omega)).2
  rw [hl] at e
  have hpn : (p : Int) ≤ (n : Int) - 1 := by omega
  have hnI : 1 ≤ (n : Int) := by omega
  have t0 : (s.wd (1 + p) != 0) = false := by simp [h0]
  clear hl hst h0
  go_enter Tryd.func69, Tryd.ntmps69
  go_wp2
  go_quiet (fail)
  all_goals go_wp2
  all_goals go_ret
  all_goals
    refine ⟨rfl, ⟨bW, bH, cap, rfl, hcap, hLW, hLH, hWH, ?_, ?_, ?_, ?_⟩, ?_⟩
    · exact ((hB.drewN _)).other hLH.symm _ _
    · exact ((rW.drewN _)).other _ (.inl hWH.symm)
    · exact ((rL.drewN _)).set (i := p) hp (fun j _ e => by omega) _
    · exact ((rS.drewN _)).other _ (.inr fun j _ => by omega)
    · exact (((Only.refl _ _).drewN _)).set (by simp) _ _

set_option maxHeartbeats 1000000 in
set_option maxRecDepth 100000 in
theorem line6 {w : World} {n L p : Nat} {fb : List Nat} {s : St} (h : Rep w n L fb s) (hp : p < n) (hn : n ≤ 4) (h1 : 1 ≤ n) (hl : s.ln p = 6) :
    Calls Tryd.prog 69 #[.pointer (some ⟨L, 0, none⟩), .int .i64 p] w (Post n L fb w .nilIface (stepN n s p)) := by
  obtain ⟨bW, bH, cap, rfl, hcap, hLW, hLH, hWH, hB, rW, rL, rS⟩ := h
  have c0 := hB.cell 0
  have c1 := hB.cell 1
  have c2 := hB.cell 2
  simp only [List.getElem?_toArray, List.getElem?_cons_zero, List.getElem?_cons_succ] at c0 c1 c2
  have hst : stepN n s p = { s with ln := upd s.ln p 7 } := by simp [stepN, hl]
  rw [hst]
  have e := (rL p hp).1
  have g := (rL p hp).2
  rw [hl] at e
  have hpn : (p : Int) ≤ (n : Int) - 1 := by omega
  have hnI : 1 ≤ (n : Int) := by omega
  clear hl hst 
  go_enter Tryd.func69, Tryd.ntmps69
  go_wp2
  go_quiet (fail)
  all_goals go_wp2
  all_goals go_ret
  all_goals
    refine ⟨rfl, ⟨bW, bH, cap, rfl, hcap, hLW, hLH, hWH, ?_, ?_, ?_, ?_⟩, ?_⟩
    · exact ((hB.drewN _)).other hLH.symm _ _
    · exact ((rW.drewN _)).other _ (.inl hWH.symm)
    · exact ((rL.drewN _)).set (i := p) hp (fun j _ e => by omega) _
    · exact ((rS.drewN _)).other _ (.inr fun j _ => by omega)
    · exact (((Only.refl _ _).drewN _)).set (by simp) _ _

set_option maxHeartbeats 1000000 in
set_option maxRecDepth 100000 in
theorem line70 {w : World} {n L p : Nat} {fb : List Nat} {s : St} (h : Rep w n L fb s) (hp : p < n) (hn : n ≤ 4) (h1 : 1 ≤ n) (hl : s.ln p = 7) (h0 : s.wd (1 + n + p) ≠ 0) :
    Calls Tryd.prog 69 #[.pointer (some ⟨L, 0, none⟩), .int .i64 p] w (Post n L fb w .nilIface (stepN n s p)) := by
  obtain ⟨bW, bH, cap, rfl, hcap, hLW, hLH, hWH, hB, rW, rL, rS⟩ := h
  have c0 := hB.cell 0
  have c1 := hB.cell 1
  have c2 := hB.cell 2
  simp only [List.getElem?_toArray, List.getElem?_cons_zero, List.getElem?_cons_succ] at c0 c1 c2
  have hst : stepN n s p = { s with ln := upd s.ln p 10, sn := upd s.sn p (s.wd (1 + n + p)) } := by simp [stepN, hl, h0]
  rw [hst]
  have e := (rL p hp).1
  have g := (rL p hp).2
  have e0 := (rW (1 + n + p) (by omega)).1
  have f0 := (rW (1 + n + p) (by omega)).2
  have e1 := (rS (p) hp).1
  have f1 := (rS (p) hp).2
  rw [hl] at e
  have hpn : (p : Int) ≤ (n : Int) - 1 := by omega
  have hnI : 1 ≤ (n : Int) := by omega
  have t0 : (s.wd (1 + n + p) != 0) = true := by simp [h0]
  clear hl hst h0
  go_enter Tryd.func69, Tryd.ntmps69
  go_wp2
  go_quiet (fail)
  all_goals go_wp2
  all_goals go_ret
  all_goals
    refine ⟨rfl, ⟨bW, bH, cap, rfl, hcap, hLW, hLH, hWH, ?_, ?_, ?_, ?_⟩, ?_⟩
    · exact (((hB.drewN _)).other hLH.symm _ _).other hLH.symm _ _
    · exact (((rW.drewN _)).other _ (.inl hWH.symm)).other _ (.inl hWH.symm)
    · exact (((rL.drewN _)).other _ (.inr fun j _ => by omega)).set (i := p) hp (fun j _ e => by omega) _
    · exact (((rS.drewN _)).set (i := p) hp (fun j _ e => by omega) _).other _ (.inr fun j _ => by omega)
    · exact ((((Only.refl _ _).drewN _)).set (by simp) _ _).set (by simp) _ _

set_option maxHeartbeats 1000000 in
set_option maxRecDepth 100000 in
theorem line71 {w : World} {n L p : Nat} {fb : List Nat} {s : St} (h : Rep w n L fb s) (hp : p < n) (hn : n ≤ 4) (h1 : 1 ≤ n) (hl : s.ln p = 7) (h0 : s.wd (1 + n + p) = 0) :
    Calls Tryd.prog 69 #[.pointer (some ⟨L, 0, none⟩), .int .i64 p] w (Post n L fb w .nilIface (stepN n s p)) := by
  obtain ⟨bW, bH, cap, rfl, hcap, hLW, hLH, hWH, hB, rW, rL, rS⟩ := h
  have c0 := hB.cell 0
  have c1 := hB.cell 1
  have c2 := hB.cell 2
  simp only [List.getElem?_toArray, List.getElem?_cons_zero, List.getElem?_cons_succ] at c0 c1 c2
  have hst : stepN n s p = { s with ln := upd s.ln p 8, sn := upd s.sn p (s.wd (1 + n + p)) } := by simp [stepN, hl, h0]
  rw [hst]
  have e := (rL p hp).1
  have g := (rL p hp).2
  have e0 := (rW (1 + n + p) (by omega)).1
  have f0 := (rW (1 + n + p) (by omega)).2
  have e1 := (rS (p) hp).1
  have f1 := (rS (p) hp).2
  rw [hl] at e
  have hpn : (p : Int) ≤ (n : Int) - 1 := by omega
  have hnI : 1 ≤ (n : Int) := by omega
  have t0 : (s.wd (1 + n + p) != 0) = false := by simp [h0]
  clear hl hst h0
  go_enter Tryd.func69, Tryd.ntmps69
  go_wp2
  go_quiet (fail)
  all_goals go_wp2
  all_goals go_ret
  all_goals
    refine ⟨rfl, ⟨bW, bH, cap, rfl, hcap, hLW, hLH, hWH, ?_, ?_, ?_, ?_⟩, ?_⟩
    · exact (((hB.drewN _)).other hLH.symm _ _).other hLH.symm _ _
    · exact (((rW.drewN _)).other _ (.inl hWH.symm)).other _ (.inl hWH.symm)
    · exact (((rL.drewN _)).other _ (.inr fun j _ => by omega)).set (i := p) hp (fun j _ e => by omega) _
    · exact (((rS.drewN _)).set (i := p) hp (fun j _ e => by omega) _).other _ (.inr fun j _ => by omega)
    · exact ((((Only.refl _ _).drewN _)).set (by simp) _ _).set (by simp) _ _

set_option maxHeartbeats 1000000 in
set_option maxRecDepth 100000 in
theorem line90 {w : World} {n L p : Nat} {fb : List Nat} {s : St} (h : Rep w n L fb s) (hp : p < n) (hn : n ≤ 4) (h1 : 1 ≤ n) (hl : s.ln p = 9) (h0 : s.wd (1 + n + p) ≠ 0) :
    Calls Tryd.prog 69 #[.pointer (some ⟨L, 0, none⟩), .int .i64 p] w (Post n L fb w .nilIface (stepN n s p)) := by
  obtain ⟨bW, bH, cap, rfl, hcap, hLW, hLH, hWH, hB, rW, rL, rS⟩ := h
  have c0 := hB.cell 0
  have c1 := hB.cell 1
  have c2 := hB.cell 2
  simp only [List.getElem?_toArray, List.getElem?_cons_zero, List.getElem?_cons_succ] at c0 c1 c2
  have hst : stepN n s p = { s with ln := upd s.ln p 10, sn := upd s.sn p (s.wd (1 + n + p)) } := by simp [stepN, hl, h0]
  rw [hst]
  have e := (rL p hp).1
  have g := (rL p hp).2
  have e0 := (rW (1 + n + p) (by omega)).1
  have f0 := (rW (1 + n + p) (by omega)).2
  have e1 := (rS (p) hp).1
  have f1 := (rS (p) hp).2
  rw [hl] at e
  have hpn : (p : Int) ≤ (n : Int) - 1 := by omega
  have hnI : 1 ≤ (n : Int) := by omega
  have t0 : (s.wd (1 + n + p) == 0) = false := by simp [h0]
  clear hl hst h0
  go_enter Tryd.func69, Tryd.ntmps69
  go_wp2
  go_quiet (fail)
  all_goals go_wp2
  all_goals go_ret
  all_goals
    refine ⟨rfl, ⟨bW, bH, cap, rfl, hcap, hLW, hLH, hWH, ?_, ?_, ?_, ?_⟩, ?_⟩
    · exact (((hB.drewN _)).other hLH.symm _ _).other hLH.symm _ _
    · exact (((rW.drewN _)).other _ (.inl hWH.symm)).other _ (.inl hWH.symm)
    · exact (((rL.drewN _)).other _ (.inr fun j _ => by omega)).set (i := p) hp (fun j _ e => by omega) _
    · exact (((rS.drewN _)).set (i := p) hp (fun j _ e => by omega) _).other _ (.inr fun j _ => by omega)
    · exact ((((Only.refl _ _).drewN _)).set (by simp) _ _).set (by simp) _ _

set_option maxHeartbeats 1000000 in
set_option maxRecDepth 100000 in
theorem line91 {w : World} {n L p : Nat} {fb : List Nat} {s : St} (h : Rep w n L fb s) (hp : p < n) (hn : n ≤ 4) (h1 : 1 ≤ n) (hl : s.ln p = 9) (h0 : s.wd (1 + n + p) = 0) :
    Calls Tryd.prog 69 #[.pointer (some ⟨L, 0, none⟩), .int .i64 p] w (Post n L fb w .nilIface (stepN n s p)) := by
  obtain ⟨bW, bH, cap, rfl, hcap, hLW, hLH, hWH, hB, rW, rL, rS⟩ := h
  have c0 := hB.cell 0
  have c1 := hB.cell 1
  have c2 := hB.cell 2
  simp only [List.getElem?_toArray, List.getElem?_cons_zero, List.getElem?_cons_succ] at c0 c1 c2
  have hst : stepN n s p = { s with ln := upd s.ln p 9, sn := upd s.sn p (s.wd (1 + n + p)) } := by simp [stepN, hl, h0]
  rw [hst]
  have e := (rL p hp).1
  have g := (rL p hp).2
  have e0 := (rW (1 + n + p) (by omega)).1
  have f0 := (rW (1 + n + p) (by omega)).2
  have e1 := (rS (p) hp).1
  have f1 := (rS (p) hp).2
  rw [hl] at e
  have hpn : (p : Int) ≤ (n : Int) - 1 := by omega
  have hnI : 1 ≤ (n : Int) := by omega
  have t0 : (s.wd (1 + n + p) == 0) = true := by simp [h0]
  clear hl hst h0
  go_enter Tryd.func69, Tryd.ntmps69
  go_wp2
  go_quiet (fail)
  all_goals go_wp2
  all_goals go_ret
  all_goals
    refine ⟨rfl, ⟨bW, bH, cap, rfl, hcap, hLW, hLH, hWH, ?_, ?_, ?_, ?_⟩, ?_⟩
    · exact (((hB.drewN _)).other hLH.symm _ _).other hLH.symm _ _
    · exact (((rW.drewN _)).other _ (.inl hWH.symm)).other _ (.inl hWH.symm)
    · exact (((rL.drewN _)).other _ (.inr fun j _ => by omega)).set (i := p) hp (fun j _ e => by omega) _
    · exact (((rS.drewN _)).set (i := p) hp (fun j _ e => by omega) _).other _ (.inr fun j _ => by omega)
    · exact ((((Only.refl _ _).drewN _)).set (by simp) _ _).set (by simp) _ _

set_option maxHeartbeats 1000000 in
set_option maxRecDepth 100000 in
theorem line81 {w : World} {n L p : Nat} {fb : List Nat} {s : St} (h : Rep w n L fb s) (hp : p < n) (hn : n ≤ 4) (h1 : 1 ≤ n) (hl : s.ln p = 8) (h0 : s.wd 0 = p + 1) :
    Calls Tryd.prog 69 #[.pointer (some ⟨L, 0, none⟩), .int .i64 p] w (Post n L fb w .nilIface (stepN n s p)) := by
  obtain ⟨bW, bH, cap, rfl, hcap, hLW, hLH, hWH, hB, rW, rL, rS⟩ := h
  have c0 := hB.cell 0
  have c1 := hB.cell 1
  have c2 := hB.cell 2
  simp only [List.getElem?_toArray, List.getElem?_cons_zero, List.getElem?_cons_succ] at c0 c1 c2
  have hst : stepN n s p = { s with wd := upd s.wd 0 0, ln := upd s.ln p 1, q := s.q.tail } := by simp [stepN, hl, h0]
  rw [hst]
  have e := (rL p hp).1
  have g := (rL p hp).2
  have e0 := (rW (0) (by omega)).1
  have f0 := (rW (0) (by omega)).2
  rw [hl] at e
  have hpn : (p : Int) ≤ (n : Int) - 1 := by omega
  have hnI : 1 ≤ (n : Int) := by omega
  have t0 : (s.wd 0 != (p : Int) + 1) = false := by simp [h0]
  clear hl hst h0
  go_enter Tryd.func69, Tryd.ntmps69
  go_wp2
  go_quiet (fail)
  all_goals go_wp2
  all_goals go_ret
  all_goals
    refine ⟨rfl, ⟨bW, bH, cap, rfl, hcap, hLW, hLH, hWH, ?_, ?_, ?_, ?_⟩, ?_⟩
    · exact (((hB.drewN _)).other hLW.symm _ _).other hLH.symm _ _
    · exact (((rW.drewN _)).set (i := 0) (by omega) (fun j _ e => e) _).other _ (.inl hWH.symm)
    · exact (((rL.drewN _)).other _ (.inl hWH)).set (i := p) hp (fun j _ e => by omega) _
    · exact (((rS.drewN _)).other _ (.inl hWH)).other _ (.inr fun j _ => by omega)
    · exact ((((Only.refl _ _).drewN _)).set (by simp) _ _).set (by simp) _ _

set_option maxHeartbeats 1000000 in
set_option maxRecDepth 100000 in
theorem line80 {w : World} {n L p : Nat} {fb : List Nat} {s : St} (h : Rep w n L fb s) (hp : p < n) (hn : n ≤ 4) (h1 : 1 ≤ n) (hl : s.ln p = 8) (h0 : s.wd 0 ≠ p + 1) :
    Calls Tryd.prog 69 #[.pointer (some ⟨L, 0, none⟩), .int .i64 p] w (Post n L fb w .nilIface (stepN n s p)) := by
  obtain ⟨bW, bH, cap, rfl, hcap, hLW, hLH, hWH, hB, rW, rL, rS⟩ := h
  have c0 := hB.cell 0
  have c1 := hB.cell 1
  have c2 := hB.cell 2
  simp only [List.getElem?_toArray, List.getElem?_cons_zero, List.getElem?_cons_succ] at c0 c1 c2
  have hst : stepN n s p = { s with ln := upd s.ln p 9 } := by simp [stepN, hl, h0]
  rw [hst]
  have e := (rL p hp).1
  have g := (rL p hp).2
  have e0 := (rW (0) (by omega)).1
  have f0 := (rW (0) (by omega)).2
  rw [hl] at e
  have hpn : (p : Int) ≤ (n : Int) - 1 := by omega
  have hnI : 1 ≤ (n : Int) := by omega
  have t0 : (s.wd 0 != (p : Int) + 1) = true := by simp [h0]
  clear hl hst h0
  go_enter Tryd.func69, Tryd.ntmps69
  go_wp2
  go_quiet (fail)
  all_goals go_wp2
  all_goals go_ret
  all_goals
    refine ⟨rfl, ⟨bW, bH, cap, rfl, hcap, hLW, hLH, hWH, ?_, ?_, ?_, ?_⟩, ?_⟩
    · exact ((hB.drewN _)).other hLH.symm _ _
    · exact ((rW.drewN _)).other _ (.inl hWH.symm)
    · exact ((rL.drewN _)).set (i := p) hp (fun j _ e => by omega) _
    · exact ((rS.drewN _)).other _ (.inr fun j _ => by omega)
    · exact (((Only.refl _ _).drewN _)).set (by simp) _ _

set_option maxHeartbeats 1000000 in
set_option maxRecDepth 100000 in
theorem line10 {w : World} {n L p : Nat} {fb : List Nat} {s : St} (h : Rep w n L fb s) (hp : p < n) (hn : n ≤ 4) (h1 : 1 ≤ n) (hl : s.ln p = 10) (hs : 1 ≤ s.sn p ∧ s.sn p ≤ n) :
    Calls Tryd.prog 69 #[.pointer (some ⟨L, 0, none⟩), .int .i64 p] w (Post n L fb w .nilIface (stepN n s p)) := by
  obtain ⟨bW, bH, cap, rfl, hcap, hLW, hLH, hWH, hB, rW, rL, rS⟩ := h
  have c0 := hB.cell 0
  have c1 := hB.cell 1
  have c2 := hB.cell 2
  simp only [List.getElem?_toArray, List.getElem?_cons_zero, List.getElem?_cons_succ] at c0 c1 c2
  have hst : stepN n s p = { s with wd := upd s.wd (1 + ((s.sn p).toNat - 1)) 0, ln := upd s.ln p 1, q := s.q.tail } := by simp [stepN, hl, show (s.sn p - 1).toNat = (s.sn p).toNat - 1 by omega]
  rw [hst]
  have e := (rL p hp).1
  have g := (rL p hp).2
  have e0 := (rS (p) hp).1
  have f0 := (rS (p) hp).2
  have e1 := (rW (1 + ((s.sn p).toNat - 1)) (by omega)).1
  have f1 := (rW (1 + ((s.sn p).toNat - 1)) (by omega)).2
  rw [hl] at e
  have hpn : (p : Int) ≤ (n : Int) - 1 := by omega
  have hnI : 1 ≤ (n : Int) := by omega
  have hs1 := hs.1
  have hs2 := hs.2
  clear hl hst hs
  go_enter Tryd.func69, Tryd.ntmps69
  go_wp2
  go_quiet (fail)
  all_goals go_wp2
  all_goals go_ret
  all_goals
    refine ⟨rfl, ⟨bW, bH, cap, rfl, hcap, hLW, hLH, hWH, ?_, ?_, ?_, ?_⟩, ?_⟩
    · exact (((hB.drewN _)).other hLW.symm _ _).other hLH.symm _ _
    · exact (((rW.drewN _)).set (i := 1 + ((s.sn p).toNat - 1)) (by omega) (fun j _ e => e) _).other _ (.inl hWH.symm)
    · exact (((rL.drewN _)).other _ (.inl hWH)).set (i := p) hp (fun j _ e => by omega) _
    · exact (((rS.drewN _)).other _ (.inl hWH)).other _ (.inr fun j _ => by omega)
    · exact ((((Only.refl _ _).drewN _)).set (by simp) _ _).set (by simp) _ _

theorem step_no {w : World} {n L : Nat} {fb : List Nat} {s : St} {p : Int} (h : Rep w n L fb s) (hn : n ≤ 4) (hp : p < 0 ∨ n ≤ p) :
    Calls Tryd.prog 69 #[.pointer (some ⟨L, 0, none⟩), .int .i64 p] w fun e w' => e = .returned (.iface 77 (.int .i64 1)) ∧ w = w' := by
  obtain ⟨bW, bH, cap, rfl, hcap, hLW, hLH, hWH, hB, -⟩ := h
  have c0 := hB.cell 0
  simp only [List.getElem?_toArray, List.getElem?_cons_zero] at c0
  by_cases hq : p < 0
  · clear hp
    go_enter Tryd.func69, Tryd.ntmps69
    go_wp2
    go_ret
    exact ⟨rfl, rfl⟩
  · have h1 : decide (p ≤ (n : Int) - 1) = false := by simp; omega
    have h0 : 0 ≤ p := by omega
    clear hp hq
    go_enter Tryd.func69, Tryd.ntmps69
    go_wp2
    go_ret
    exact ⟨rfl, rfl⟩

theorem at_any {w : World} {n L : Nat} {fb : List Nat} {s : St} (p : Int) (h : Rep w n L fb s) (hn : n ≤ 4) :
    Calls Tryd.prog 71 #[.pointer (some ⟨L, 0, none⟩), .int .i64 p] w fun e w' => e = .returned (.int .i64 (line n s p)) ∧ w = w' := by
  obtain ⟨bW, bH, cap, rfl, hcap, hLW, hLH, hWH, hB, rW, rL, -⟩ := h
  have c0 := hB.cell 0
  have c2 := hB.cell 2
  simp only [List.getElem?_toArray, List.getElem?_cons_zero, List.getElem?_cons_succ] at c0 c2
  by_cases hp : 0 ≤ p ∧ p < n
  · obtain ⟨m, rfl⟩ := Int.eq_ofNat_of_zero_le hp.1
    rw [line_nat s (by omega)]
    have e := (rL m (by omega)).1
    have h0 : (m : Int) ≤ (n : Int) - 1 := by omega
    have h1 : m < n := by omega
    clear hp
    go_enter Tryd.func71, Tryd.ntmps71
    go_wp2
    go_ret
    exact ⟨rfl, rfl⟩
  · have e : line n s p = 0 := by unfold line; rw [if_neg hp]
    rw [e]
    by_cases hq : p < 0
    · clear hp
      go_enter Tryd.func71, Tryd.ntmps71
      go_wp2
      go_ret
      exact ⟨rfl, rfl⟩
    · have h1 : decide (p ≤ (n : Int) - 1) = false := by simp; omega
      have h0 : 0 ≤ p := by omega
      clear hp hq
      go_enter Tryd.func71, Tryd.ntmps71
      go_wp2
      go_ret
      exact ⟨rfl, rfl⟩

theorem at_of {w : World} {n L : Nat} {fb : List Nat} {s : St} {p k : Int} (hb : Rep w n L fb s) (hn : n ≤ 4) (hk : line n s p = k) :
    Calls Tryd.prog 71 #[.pointer (some ⟨L, 0, none⟩), .int .i64 p] w fun e w' => e = .returned (.int .i64 k) ∧ w = w' := by
  subst hk; exact at_any p hb hn

theorem step_any {w : World} {n k L : Nat} {fb : List Nat} {s : St} (p : Int) (hb : Rep w n L fb s) (hs : Reach n k s) (hk : k ≤ 100000) :
    Calls Tryd.prog 69 #[.pointer (some ⟨L, 0, none⟩), .int .i64 p] w (Post n L fb w (told n p) (step n s p)) := by
  by_cases hp : 0 ≤ p ∧ p < n
  · obtain ⟨m, rfl⟩ := Int.eq_ofNat_of_zero_le hp.1
    have hm : m < n := by omega
    have ht : told n (m : Int) = .nilIface := by unfold told; rw [if_pos hp]
    rw [step_nat s hm, ht]
    have hln := hs.fine hm
    have hn := hs.2.1
    have h1 := hs.1
    obtain hl | hl | hl | hl | hl | hl | hl | hl | hl | hl : s.ln m = 1 ∨ s.ln m = 2 ∨ s.ln m = 3 ∨ s.ln m = 4 ∨ s.ln m = 5 ∨ s.ln m = 6 ∨ s.ln m = 7 ∨ s.ln m = 8 ∨ s.ln m = 9 ∨ s.ln m = 10 := by omega
    · exact line1 hb hm hn h1 hl
    · by_cases h0 : s.wd 0 = 0
      · exact line21 hb hm hn h1 hl h0
      · exact line20 hb hm hn h1 hl h0
    · exact line3 hb hm hn h1 hl
    · exact line4 hb hm hn h1 hl (hs.seen4 hm hl)
    · by_cases h0 : s.wd (1 + m) = 0
      · exact line51 hb hm hn h1 hl h0
      · exact line50 hb hm hn h1 hl h0
    · exact line6 hb hm hn h1 hl
    · by_cases h0 : s.wd (1 + n + m) = 0
      · exact line71 hb hm hn h1 hl h0
      · exact line70 hb hm hn h1 hl h0
    · by_cases h0 : s.wd 0 = m + 1
      · exact line81 hb hm hn h1 hl h0
      · exact line80 hb hm hn h1 hl h0
    · by_cases h0 : s.wd (1 + n + m) = 0
      · exact line91 hb hm hn h1 hl h0
      · exact line90 hb hm hn h1 hl h0
    · exact line10 hb hm hn h1 hl (hs.seen10 hm hl)
  · refine (step_no hb hs.2.1 (by omega)).mono ?_
    rintro e w' ⟨rfl, rfl⟩
    exact ⟨by unfold told; rw [if_neg hp], by unfold step; rw [if_neg hp]; exact hb, Only.refl _ _⟩

theorem step_of {w : World} {n k L : Nat} {fb : List Nat} {s s' : St} {p : Int} {r : Value} (hb : Rep w n L fb s) (hs : Reach n k s) (hk : k ≤ 100000) (hr : told n p = r) (he : step n s p = s') :
    Calls Tryd.prog 69 #[.pointer (some ⟨L, 0, none⟩), .int .i64 p] w (Post n L fb w r s') := by
  subst hr; subst he; exact step_any p hb hs hk
theorem told_nil {n : Nat} {p : Nat} (hp : p < n) : told n (p : Int) = .nilIface := by
  unfold told; rw [if_pos (by omega)]
end Go.Proofs.YtgkfgijmccojjaaDoor.Mcs
