import Derived.Test.YtgkfgijmccojjaaDoorBase
import Derived.Test.YtgkfgijmccojjaaDoorFilterPlain
import Derived.Handy
namespace Go.Proofs.YtgkfgijmccojjaaDoor.Filter
open Go.RowKit
set_option linter.unusedVariables false

/-- The lock lies at block L, in the state s; the list: the blocks that are its own. -/
def Rep (w : World) (n L : Nat) (fb : List Nat) (s : St) : Prop :=
  ∃ bW bH cap, fb = [L, bW, bH] ∧ n ≤ cap ∧ L ≠ bW ∧ L ≠ bH ∧ bW ≠ bH ∧
    Blk w L #[.int .i64 n, .slice (some ⟨bW, 0, none⟩) (2 * n) (2 * n), .slice (some ⟨bH, 0, none⟩) n cap] 115 ∧
    Row w bW (2 * n) (fun j => j) s.wd ∧ Row w bH n (fun j => j * 3) s.ln ∧ Row w bH n (fun j => j * 3 + 1) s.dr ∧ Row w bH n (fun j => j * 3 + 2) s.kk
def told (n : Nat) (p : Int) : Value := if 0 ≤ p ∧ p < n then .nilIface else .iface 77 (.int .i64 1)
def Post (n L : Nat) (fb : List Nat) (w : World) (r : Value) (s : St) (e : Ending) (w' : World) : Prop :=
  e = .returned r ∧ Rep w' n L fb s ∧ Only fb w w'
def Made (n : Nat) (w : World) (e : Ending) (w' : World) : Prop :=
  ∃ L fb, e = .returned (.tuple #[.pointer (some ⟨L, 0, none⟩), .nilIface]) ∧ Rep w' n L fb (first n) ∧ Below w.heap.size w w' ∧ (∀ k ∈ fb, w.heap.size ≤ k ∧ k < w'.heap.size)

theorem Rep.keep {w w' : World} {n L : Nat} {fb : List Nat} {s : St} (h : Rep w n L fb s) (hk : ∀ k ∈ fb, w'.heap[k]? = w.heap[k]?) : Rep w' n L fb s := by
  obtain ⟨bW, bH, cap, rfl, hcap, hLW, hLH, hWH, hB, rW, rL, rD, rK⟩ := h
  refine ⟨bW, bH, cap, rfl, hcap, hLW, hLH, hWH, ?_, rW.keep (hk _ (by simp)), rL.keep (hk _ (by simp)), rD.keep (hk _ (by simp)), rK.keep (hk _ (by simp))⟩
  unfold Blk at *
  rw [hk L (by simp)]; exact hB

set_option maxHeartbeats 1000000 in
set_option maxRecDepth 100000 in
theorem line1 {w : World} {n L p : Nat} {fb : List Nat} {s : St} (h : Rep w n L fb s) (hp : p < n) (hn : n ≤ 4) (h1 : 1 ≤ n) (hd : 1 ≤ s.dr p) (hd2 : s.dr p ≤ n) (hl : s.ln p = 1) :
    Calls Tryd.prog 54 #[.pointer (some ⟨L, 0, none⟩), .int .i64 p] w (Post n L fb w .nilIface (stepN n s p)) := by
  obtain ⟨bW, bH, cap, rfl, hcap, hLW, hLH, hWH, hB, rW, rL, rD, rK⟩ := h
  have c0 := hB.cell 0
  have c1 := hB.cell 1
  have c2 := hB.cell 2
  simp only [List.getElem?_toArray, List.getElem?_cons_zero, List.getElem?_cons_succ] at c0 c1 c2
  have hst : stepN n s p = { s with wd := upd s.wd p (s.dr p), ln := upd s.ln p 2 } := by have hvx : vx n (s.dr p) = ((n : Int) + s.dr p).toNat - 1 := (by unfold vx; omega); simp [stepN, hl]
  rw [hst]
  have e := (rL p hp).1
  have g := (rL p hp).2
  have e0 := (rD (p) hp).1
  have f0 := (rD (p) hp).2
  have e1 := (rW (p) (by omega)).1
  have f1 := (rW (p) (by omega)).2
  rw [hl] at e
  have hpn : (p : Int) ≤ (n : Int) - 1 := by omega
  have hnI : 1 ≤ (n : Int) := by omega
  have hd4 : s.dr p ≤ 4 := by omega
  have hmn : (n : Int) + s.dr p ≤ 2 * n := by omega
  clear hl hst hd2 
  go_enter Tryd.func54, Tryd.ntmps54
  go_wp2
  go_quiet (fail)
  all_goals go_wp2
  all_goals go_region
  all_goals go_wp2
  all_goals go_ret
  all_goals
    refine ⟨rfl, ⟨bW, bH, cap, rfl, hcap, hLW, hLH, hWH, ?_, ?_, ?_, ?_, ?_⟩, ?_⟩
    · exact (((hB.drewN _)).other hLW.symm _ _).other hLH.symm _ _
    · exact (((rW.drewN _)).set (i := p) (by omega) (fun j _ e => e) _).other _ (.inl hWH.symm)
    · exact (((rL.drewN _)).other _ (.inl hWH)).set (i := p) hp (fun j _ e => by omega) _
    · exact (((rD.drewN _)).other _ (.inl hWH)).other _ (.inr fun j _ => by omega)
    · exact (((rK.drewN _)).other _ (.inl hWH)).other _ (.inr fun j _ => by omega)
    · exact ((((Only.refl _ _).drewN _)).set (by simp) _ _).set (by simp) _ _

set_option maxHeartbeats 1000000 in
set_option maxRecDepth 100000 in
theorem line2 {w : World} {n L p : Nat} {fb : List Nat} {s : St} (h : Rep w n L fb s) (hp : p < n) (hn : n ≤ 4) (h1 : 1 ≤ n) (hd : 1 ≤ s.dr p) (hd2 : s.dr p ≤ n) (hl : s.ln p = 2) :
    Calls Tryd.prog 54 #[.pointer (some ⟨L, 0, none⟩), .int .i64 p] w (Post n L fb w .nilIface (stepN n s p)) := by
  obtain ⟨bW, bH, cap, rfl, hcap, hLW, hLH, hWH, hB, rW, rL, rD, rK⟩ := h
  have c0 := hB.cell 0
  have c1 := hB.cell 1
  have c2 := hB.cell 2
  simp only [List.getElem?_toArray, List.getElem?_cons_zero, List.getElem?_cons_succ] at c0 c1 c2
  have hst : stepN n s p = { s with wd := upd s.wd (((n : Int) + s.dr p).toNat - 1) (p + 1), ln := upd s.ln p 3 } := by have hvx : vx n (s.dr p) = ((n : Int) + s.dr p).toNat - 1 := (by unfold vx; omega); simp [stepN, hl, hvx]
  rw [hst]
  have e := (rL p hp).1
  have g := (rL p hp).2
  have e0 := (rD (p) hp).1
  have f0 := (rD (p) hp).2
  rw [hl] at e
  have hpn : (p : Int) ≤ (n : Int) - 1 := by omega
  have hnI : 1 ≤ (n : Int) := by omega
  have hd4 : s.dr p ≤ 4 := by omega
  have hmn : (n : Int) + s.dr p ≤ 2 * n := by omega
  have hvb : ((n : Int) + s.dr p).toNat - 1 < 2 * n := by omega
  have ev := (rW (((n : Int) + s.dr p).toNat - 1) hvb).1
  have fv := (rW (((n : Int) + s.dr p).toNat - 1) hvb).2
  clear hl hst hd2 
  go_enter Tryd.func54, Tryd.ntmps54
  go_wp2
  go_quiet (fail)
  all_goals go_wp2
  all_goals go_ret
  all_goals
    refine ⟨rfl, ⟨bW, bH, cap, rfl, hcap, hLW, hLH, hWH, ?_, ?_, ?_, ?_, ?_⟩, ?_⟩
    · exact (((hB.drewN _)).other hLW.symm _ _).other hLH.symm _ _
    · exact (((rW.drewN _)).set (i := ((n : Int) + s.dr p).toNat - 1) (by omega) (fun j _ e => e) _).other _ (.inl hWH.symm)
    · exact (((rL.drewN _)).other _ (.inl hWH)).set (i := p) hp (fun j _ e => by omega) _
    · exact (((rD.drewN _)).other _ (.inl hWH)).other _ (.inr fun j _ => by omega)
    · exact (((rK.drewN _)).other _ (.inl hWH)).other _ (.inr fun j _ => by omega)
    · exact ((((Only.refl _ _).drewN _)).set (by simp) _ _).set (by simp) _ _

set_option maxHeartbeats 1000000 in
set_option maxRecDepth 100000 in
theorem line3go {w : World} {n L p : Nat} {fb : List Nat} {s : St} (h : Rep w n L fb s) (hp : p < n) (hn : n ≤ 4) (h1 : 1 ≤ n) (hd : 1 ≤ s.dr p) (hd2 : s.dr p ≤ n) (hl : s.ln p = 3) (h0 : s.wd (((n : Int) + s.dr p).toNat - 1) = p + 1) :
    Calls Tryd.prog 54 #[.pointer (some ⟨L, 0, none⟩), .int .i64 p] w (Post n L fb w .nilIface (stepN n s p)) := by
  obtain ⟨bW, bH, cap, rfl, hcap, hLW, hLH, hWH, hB, rW, rL, rD, rK⟩ := h
  have c0 := hB.cell 0
  have c1 := hB.cell 1
  have c2 := hB.cell 2
  simp only [List.getElem?_toArray, List.getElem?_cons_zero, List.getElem?_cons_succ] at c0 c1 c2
  have hst : stepN n s p = { s with ln := upd s.ln p 4 } := by have hvx : vx n (s.dr p) = ((n : Int) + s.dr p).toNat - 1 := (by unfold vx; omega); simp [stepN, hl, hvx, h0]
  rw [hst]
  have e := (rL p hp).1
  have g := (rL p hp).2
  have e0 := (rD (p) hp).1
  have f0 := (rD (p) hp).2
  rw [hl] at e
  have hpn : (p : Int) ≤ (n : Int) - 1 := by omega
  have hnI : 1 ≤ (n : Int) := by omega
  have hd4 : s.dr p ≤ 4 := by omega
  have hmn : (n : Int) + s.dr p ≤ 2 * n := by omega
  have hvb : ((n : Int) + s.dr p).toNat - 1 < 2 * n := by omega
  have ev := (rW (((n : Int) + s.dr p).toNat - 1) hvb).1
  have fv := (rW (((n : Int) + s.dr p).toNat - 1) hvb).2
  rw [h0] at ev
  clear hl hst hd2 h0
  go_enter Tryd.func54, Tryd.ntmps54
  go_wp2
  go_quiet (fail)
  all_goals go_wp2
  all_goals go_ret
  all_goals
    refine ⟨rfl, ⟨bW, bH, cap, rfl, hcap, hLW, hLH, hWH, ?_, ?_, ?_, ?_, ?_⟩, ?_⟩
    · exact ((hB.drewN _)).other hLH.symm _ _
    · exact ((rW.drewN _)).other _ (.inl hWH.symm)
    · exact ((rL.drewN _)).set (i := p) hp (fun j _ e => by omega) _
    · exact ((rD.drewN _)).other _ (.inr fun j _ => by omega)
    · exact ((rK.drewN _)).other _ (.inr fun j _ => by omega)
    · exact (((Only.refl _ _).drewN _)).set (by simp) _ _

set_option maxHeartbeats 1000000 in
set_option maxRecDepth 100000 in
theorem line3pass0 {w : World} {n L p : Nat} {fb : List Nat} {s : St} (h : Rep w n L fb s) (hp : p < n) (hn : n ≤ 4) (h1 : 1 ≤ n) (hd : 1 ≤ s.dr p) (hd2 : s.dr p ≤ n) (hl : s.ln p = 3) (h0 : s.wd (((n : Int) + s.dr p).toNat - 1) ≠ p + 1) (hg : s.dr p + 1 < n) :
    Calls Tryd.prog 54 #[.pointer (some ⟨L, 0, none⟩), .int .i64 p] w (Post n L fb w .nilIface (stepN n s p)) := by
  obtain ⟨bW, bH, cap, rfl, hcap, hLW, hLH, hWH, hB, rW, rL, rD, rK⟩ := h
  have c0 := hB.cell 0
  have c1 := hB.cell 1
  have c2 := hB.cell 2
  simp only [List.getElem?_toArray, List.getElem?_cons_zero, List.getElem?_cons_succ] at c0 c1 c2
  have hst : stepN n s p = { s with ln := upd s.ln p 1, kk := upd s.kk p 0, dr := upd s.dr p (s.dr p + 1) } := by have hvx : vx n (s.dr p) = ((n : Int) + s.dr p).toNat - 1 := (by unfold vx; omega); simp [stepN, pass, hl, hvx, h0, show ¬ ((n : Int) ≤ s.dr p + 1) by omega]
  rw [hst]
  have e := (rL p hp).1
  have g := (rL p hp).2
  have e0 := (rD (p) hp).1
  have f0 := (rD (p) hp).2
  have e1 := (rK (p) hp).1
  have f1 := (rK (p) hp).2
  rw [hl] at e
  have hpn : (p : Int) ≤ (n : Int) - 1 := by omega
  have hnI : 1 ≤ (n : Int) := by omega
  have hd4 : s.dr p ≤ 4 := by omega
  have hmn : (n : Int) + s.dr p ≤ 2 * n := by omega
  have hvb : ((n : Int) + s.dr p).toNat - 1 < 2 * n := by omega
  have ev := (rW (((n : Int) + s.dr p).toNat - 1) hvb).1
  have fv := (rW (((n : Int) + s.dr p).toNat - 1) hvb).2
  have tg : decide ((n : Int) ≤ s.dr p + 1) = false := by simp; omega
  have tv : (s.wd (((n : Int) + s.dr p).toNat - 1) != (p : Int) + 1) = true := by simp [h0]
  clear hl hst hd2 h0 hg
  go_enter Tryd.func54, Tryd.ntmps54
  go_wp2
  go_quiet (fail)
  all_goals go_wp2
  all_goals (try (go_end0; go_wp2))
  all_goals go_ret
  all_goals
    refine ⟨rfl, ⟨bW, bH, cap, rfl, hcap, hLW, hLH, hWH, ?_, ?_, ?_, ?_, ?_⟩, ?_⟩
    · exact (((((hB.drewN _)).other hLH.symm _ _).other hLH.symm _ _).other hLH.symm _ _).other hLH.symm _ _
    · exact (((((rW.drewN _)).other _ (.inl hWH.symm)).other _ (.inl hWH.symm)).other _ (.inl hWH.symm)).other _ (.inl hWH.symm)
    · refine Row.re ((((((rL.drewN _)).set (i := p) hp (fun j _ e => by omega) _).set (i := p) hp (fun j _ e => by omega) _).other _ (.inr fun j _ => by omega)).other _ (.inr fun j _ => by omega)) ?_
      simp only [upd_upd]
    · exact (((((rD.drewN _)).other _ (.inr fun j _ => by omega)).other _ (.inr fun j _ => by omega)).other _ (.inr fun j _ => by omega)).set (i := p) hp (fun j _ e => by omega) _
    · exact (((((rK.drewN _)).other _ (.inr fun j _ => by omega)).other _ (.inr fun j _ => by omega)).set (i := p) hp (fun j _ e => by omega) _).other _ (.inr fun j _ => by omega)
    · exact ((((((Only.refl _ _).drewN _)).set (by simp) _ _).set (by simp) _ _).set (by simp) _ _).set (by simp) _ _

set_option maxHeartbeats 1000000 in
set_option maxRecDepth 100000 in
theorem line4pass00 {w : World} {n L p : Nat} {fb : List Nat} {s : St} (h : Rep w n L fb s) (hp : p < n) (hn : n ≤ 4) (h1 : 1 ≤ n) (hd : 1 ≤ s.dr p) (hd2 : s.dr p ≤ n) (hl : s.ln p = 4) (hk0 : 0 ≤ s.kk p) (hk1 : s.kk p + 1 = n) (ha : s.kk p ≠ p) (hb : s.wd (s.kk p).toNat < s.dr p) (hg : s.dr p + 1 < n) :
    Calls Tryd.prog 54 #[.pointer (some ⟨L, 0, none⟩), .int .i64 p] w (Post n L fb w .nilIface (stepN n s p)) := by
  obtain ⟨bW, bH, cap, rfl, hcap, hLW, hLH, hWH, hB, rW, rL, rD, rK⟩ := h
  have c0 := hB.cell 0
  have c1 := hB.cell 1
  have c2 := hB.cell 2
  simp only [List.getElem?_toArray, List.getElem?_cons_zero, List.getElem?_cons_succ] at c0 c1 c2
  have hst : stepN n s p = { s with ln := upd s.ln p 1, kk := upd s.kk p 0, dr := upd s.dr p (s.dr p + 1) } := by have hvx : vx n (s.dr p) = ((n : Int) + s.dr p).toNat - 1 := (by unfold vx; omega); simp [stepN, pass, hl, ha, show ¬ (s.dr p ≤ s.wd (s.kk p).toNat) by omega, hk1, show ¬ ((n : Int) ≤ s.dr p + 1) by omega]
  rw [hst]
  have e := (rL p hp).1
  have g := (rL p hp).2
  have e0 := (rD (p) hp).1
  have f0 := (rD (p) hp).2
  have e1 := (rK (p) hp).1
  have f1 := (rK (p) hp).2
  have e2 := (rW ((s.kk p).toNat) (by omega)).1
  have f2 := (rW ((s.kk p).toNat) (by omega)).2
  rw [hl] at e
  have hpn : (p : Int) ≤ (n : Int) - 1 := by omega
  have hnI : 1 ≤ (n : Int) := by omega
  have hd4 : s.dr p ≤ 4 := by omega
  have hmn : (n : Int) + s.dr p ≤ 2 * n := by omega
  have hvb : ((n : Int) + s.dr p).toNat - 1 < 2 * n := by omega
  have ev := (rW (((n : Int) + s.dr p).toNat - 1) hvb).1
  have fv := (rW (((n : Int) + s.dr p).toNat - 1) hvb).2
  have tg : decide ((n : Int) ≤ s.dr p + 1) = false := by simp; omega
  have ta : (s.kk p != (p : Int)) = true := by simp [ha]
  have tb : decide (s.dr p ≤ s.wd (s.kk p).toNat) = false := by simp; omega
  have tk : (s.kk p + 1 == (n : Int)) = true := by simp [hk1]
  have hk2 : s.kk p < 2 * n := by omega
  have hk3 : (s.kk p).toNat < 2 * n := by omega
  clear hl hst hd2 hk1 ha hg hb
  go_enter Tryd.func54, Tryd.ntmps54
  go_wp2
  go_quiet (fail)
  all_goals go_wp2
  go_quiet (fail)
  all_goals go_wp2
  go_quiet (fail)
  all_goals go_wp2
  all_goals go_ret
  all_goals
    refine ⟨rfl, ⟨bW, bH, cap, rfl, hcap, hLW, hLH, hWH, ?_, ?_, ?_, ?_, ?_⟩, ?_⟩
    · exact ((((((hB.drewN _)).other hLH.symm _ _).drewN _).other hLH.symm _ _).other hLH.symm _ _).other hLH.symm _ _
    · exact ((((((rW.drewN _)).other _ (.inl hWH.symm)).drewN _).other _ (.inl hWH.symm)).other _ (.inl hWH.symm)).other _ (.inl hWH.symm)
    · exact ((((((rL.drewN _)).other _ (.inr fun j _ => by omega)).drewN _).set (i := p) hp (fun j _ e => by omega) _).other _ (.inr fun j _ => by omega)).other _ (.inr fun j _ => by omega)
    · exact ((((((rD.drewN _)).other _ (.inr fun j _ => by omega)).drewN _).other _ (.inr fun j _ => by omega)).other _ (.inr fun j _ => by omega)).set (i := p) hp (fun j _ e => by omega) _
    · refine Row.re (((((((rK.drewN _)).set (i := p) hp (fun j _ e => by omega) _).drewN _).other _ (.inr fun j _ => by omega)).set (i := p) hp (fun j _ e => by omega) _).other _ (.inr fun j _ => by omega)) ?_
      simp only [upd_upd]
    · exact (((((((Only.refl _ _).drewN _)).set (by simp) _ _).drewN _).set (by simp) _ _).set (by simp) _ _).set (by simp) _ _

set_option maxHeartbeats 1000000 in
set_option maxRecDepth 100000 in
theorem line4pass01 {w : World} {n L p : Nat} {fb : List Nat} {s : St} (h : Rep w n L fb s) (hp : p < n) (hn : n ≤ 4) (h1 : 1 ≤ n) (hd : 1 ≤ s.dr p) (hd2 : s.dr p ≤ n) (hl : s.ln p = 4) (hk0 : 0 ≤ s.kk p) (hk1 : s.kk p + 1 = n) (ha : s.kk p = p) (hg : s.dr p + 1 < n) :
    Calls Tryd.prog 54 #[.pointer (some ⟨L, 0, none⟩), .int .i64 p] w (Post n L fb w .nilIface (stepN n s p)) := by
  obtain ⟨bW, bH, cap, rfl, hcap, hLW, hLH, hWH, hB, rW, rL, rD, rK⟩ := h
  have c0 := hB.cell 0
  have c1 := hB.cell 1
  have c2 := hB.cell 2
  simp only [List.getElem?_toArray, List.getElem?_cons_zero, List.getElem?_cons_succ] at c0 c1 c2
  have hst : stepN n s p = { s with ln := upd s.ln p 1, kk := upd s.kk p 0, dr := upd s.dr p (s.dr p + 1) } := by have hvx : vx n (s.dr p) = ((n : Int) + s.dr p).toNat - 1 := (by unfold vx; omega); simp [stepN, pass, hl, ha, show (p : Int) + 1 = n by omega, show ¬ ((n : Int) ≤ s.dr p + 1) by omega]
  rw [hst]
  have e := (rL p hp).1
  have g := (rL p hp).2
  have e0 := (rD (p) hp).1
  have f0 := (rD (p) hp).2
  have e1 := (rK (p) hp).1
  have f1 := (rK (p) hp).2
  have e2 := (rW ((s.kk p).toNat) (by omega)).1
  have f2 := (rW ((s.kk p).toNat) (by omega)).2
  rw [hl] at e
  have hpn : (p : Int) ≤ (n : Int) - 1 := by omega
  have hnI : 1 ≤ (n : Int) := by omega
  have hd4 : s.dr p ≤ 4 := by omega
  have hmn : (n : Int) + s.dr p ≤ 2 * n := by omega
  have hvb : ((n : Int) + s.dr p).toNat - 1 < 2 * n := by omega
  have ev := (rW (((n : Int) + s.dr p).toNat - 1) hvb).1
  have fv := (rW (((n : Int) + s.dr p).toNat - 1) hvb).2
  have tg : decide ((n : Int) ≤ s.dr p + 1) = false := by simp; omega
  have ta : (s.kk p != (p : Int)) = false := by simp [ha]
  have tk : (s.kk p + 1 == (n : Int)) = true := by simp [hk1]
  have hk2 : s.kk p < 2 * n := by omega
  have hk3 : (s.kk p).toNat < 2 * n := by omega
  clear hl hst hd2 hk1 ha hg
  go_enter Tryd.func54, Tryd.ntmps54
  go_wp2
  go_quiet (fail)
  all_goals go_wp2
  go_quiet (fail)
  all_goals go_wp2
  go_quiet (fail)
  all_goals go_wp2
  all_goals go_ret
  all_goals
    refine ⟨rfl, ⟨bW, bH, cap, rfl, hcap, hLW, hLH, hWH, ?_, ?_, ?_, ?_, ?_⟩, ?_⟩
    · exact ((((((hB.drewN _)).other hLH.symm _ _).drewN _).other hLH.symm _ _).other hLH.symm _ _).other hLH.symm _ _
    · exact ((((((rW.drewN _)).other _ (.inl hWH.symm)).drewN _).other _ (.inl hWH.symm)).other _ (.inl hWH.symm)).other _ (.inl hWH.symm)
    · exact ((((((rL.drewN _)).other _ (.inr fun j _ => by omega)).drewN _).set (i := p) hp (fun j _ e => by omega) _).other _ (.inr fun j _ => by omega)).other _ (.inr fun j _ => by omega)
    · exact ((((((rD.drewN _)).other _ (.inr fun j _ => by omega)).drewN _).other _ (.inr fun j _ => by omega)).other _ (.inr fun j _ => by omega)).set (i := p) hp (fun j _ e => by omega) _
    · refine Row.re (((((((rK.drewN _)).set (i := p) hp (fun j _ e => by omega) _).drewN _).other _ (.inr fun j _ => by omega)).set (i := p) hp (fun j _ e => by omega) _).other _ (.inr fun j _ => by omega)) ?_
      simp only [upd_upd]
    · exact (((((((Only.refl _ _).drewN _)).set (by simp) _ _).drewN _).set (by simp) _ _).set (by simp) _ _).set (by simp) _ _

set_option maxHeartbeats 1000000 in
set_option maxRecDepth 100000 in
theorem line3pass1 {w : World} {n L p : Nat} {fb : List Nat} {s : St} (h : Rep w n L fb s) (hp : p < n) (hn : n ≤ 4) (h1 : 1 ≤ n) (hd : 1 ≤ s.dr p) (hd2 : s.dr p ≤ n) (hl : s.ln p = 3) (h0 : s.wd (((n : Int) + s.dr p).toNat - 1) ≠ p + 1) (hg : s.dr p + 1 ≥ n) :
    Calls Tryd.prog 54 #[.pointer (some ⟨L, 0, none⟩), .int .i64 p] w (Post n L fb w .nilIface (stepN n s p)) := by
  obtain ⟨bW, bH, cap, rfl, hcap, hLW, hLH, hWH, hB, rW, rL, rD, rK⟩ := h
  have c0 := hB.cell 0
  have c1 := hB.cell 1
  have c2 := hB.cell 2
  simp only [List.getElem?_toArray, List.getElem?_cons_zero, List.getElem?_cons_succ] at c0 c1 c2
  have hst : stepN n s p = { s with ln := upd s.ln p 5, kk := upd s.kk p 0, dr := upd s.dr p (s.dr p + 1) } := by have hvx : vx n (s.dr p) = ((n : Int) + s.dr p).toNat - 1 := (by unfold vx; omega); simp [stepN, pass, hl, hvx, h0, show (n : Int) ≤ s.dr p + 1 from hg]
  rw [hst]
  have e := (rL p hp).1
  have g := (rL p hp).2
  have e0 := (rD (p) hp).1
  have f0 := (rD (p) hp).2
  have e1 := (rK (p) hp).1
  have f1 := (rK (p) hp).2
  rw [hl] at e
  have hpn : (p : Int) ≤ (n : Int) - 1 := by omega
  have hnI : 1 ≤ (n : Int) := by omega
  have hd4 : s.dr p ≤ 4 := by omega
  have hmn : (n : Int) + s.dr p ≤ 2 * n := by omega
  have hvb : ((n : Int) + s.dr p).toNat - 1 < 2 * n := by omega
  have ev := (rW (((n : Int) + s.dr p).toNat - 1) hvb).1
  have fv := (rW (((n : Int) + s.dr p).toNat - 1) hvb).2
  have tg : decide ((n : Int) ≤ s.dr p + 1) = true := by simp; omega
  have tv : (s.wd (((n : Int) + s.dr p).toNat - 1) != (p : Int) + 1) = true := by simp [h0]
  clear hl hst hd2 h0 hg
  go_enter Tryd.func54, Tryd.ntmps54
  go_wp2
  go_quiet (fail)
  all_goals go_wp2
  all_goals (try (go_end0; go_wp2))
  all_goals go_ret
  all_goals
    refine ⟨rfl, ⟨bW, bH, cap, rfl, hcap, hLW, hLH, hWH, ?_, ?_, ?_, ?_, ?_⟩, ?_⟩
    · exact ((((((hB.drewN _)).other hLH.symm _ _).other hLH.symm _ _).other hLH.symm _ _).other hLH.symm _ _).other hLH.symm _ _
    · exact ((((((rW.drewN _)).other _ (.inl hWH.symm)).other _ (.inl hWH.symm)).other _ (.inl hWH.symm)).other _ (.inl hWH.symm)).other _ (.inl hWH.symm)
    · refine Row.re (((((((rL.drewN _)).set (i := p) hp (fun j _ e => by omega) _).set (i := p) hp (fun j _ e => by omega) _).other _ (.inr fun j _ => by omega)).other _ (.inr fun j _ => by omega)).set (i := p) hp (fun j _ e => by omega) _) ?_
      simp only [upd_upd]
    · exact ((((((rD.drewN _)).other _ (.inr fun j _ => by omega)).other _ (.inr fun j _ => by omega)).other _ (.inr fun j _ => by omega)).set (i := p) hp (fun j _ e => by omega) _).other _ (.inr fun j _ => by omega)
    · exact ((((((rK.drewN _)).other _ (.inr fun j _ => by omega)).other _ (.inr fun j _ => by omega)).set (i := p) hp (fun j _ e => by omega) _).other _ (.inr fun j _ => by omega)).other _ (.inr fun j _ => by omega)
    · exact (((((((Only.refl _ _).drewN _)).set (by simp) _ _).set (by simp) _ _).set (by simp) _ _).set (by simp) _ _).set (by simp) _ _

set_option maxHeartbeats 1000000 in
set_option maxRecDepth 100000 in
theorem line4pass10 {w : World} {n L p : Nat} {fb : List Nat} {s : St} (h : Rep w n L fb s) (hp : p < n) (hn : n ≤ 4) (h1 : 1 ≤ n) (hd : 1 ≤ s.dr p) (hd2 : s.dr p ≤ n) (hl : s.ln p = 4) (hk0 : 0 ≤ s.kk p) (hk1 : s.kk p + 1 = n) (ha : s.kk p ≠ p) (hb : s.wd (s.kk p).toNat < s.dr p) (hg : s.dr p + 1 ≥ n) :
    Calls Tryd.prog 54 #[.pointer (some ⟨L, 0, none⟩), .int .i64 p] w (Post n L fb w .nilIface (stepN n s p)) := by
  obtain ⟨bW, bH, cap, rfl, hcap, hLW, hLH, hWH, hB, rW, rL, rD, rK⟩ := h
  have c0 := hB.cell 0
  have c1 := hB.cell 1
  have c2 := hB.cell 2
  simp only [List.getElem?_toArray, List.getElem?_cons_zero, List.getElem?_cons_succ] at c0 c1 c2
  have hst : stepN n s p = { s with ln := upd s.ln p 5, kk := upd s.kk p 0, dr := upd s.dr p (s.dr p + 1) } := by have hvx : vx n (s.dr p) = ((n : Int) + s.dr p).toNat - 1 := (by unfold vx; omega); simp [stepN, pass, hl, ha, show ¬ (s.dr p ≤ s.wd (s.kk p).toNat) by omega, hk1, show (n : Int) ≤ s.dr p + 1 from hg]
  rw [hst]
  have e := (rL p hp).1
  have g := (rL p hp).2
  have e0 := (rD (p) hp).1
  have f0 := (rD (p) hp).2
  have e1 := (rK (p) hp).1
  have f1 := (rK (p) hp).2
  have e2 := (rW ((s.kk p).toNat) (by omega)).1
  have f2 := (rW ((s.kk p).toNat) (by omega)).2
  rw [hl] at e
  have hpn : (p : Int) ≤ (n : Int) - 1 := by omega
  have hnI : 1 ≤ (n : Int) := by omega
  have hd4 : s.dr p ≤ 4 := by omega
  have hmn : (n : Int) + s.dr p ≤ 2 * n := by omega
  have hvb : ((n : Int) + s.dr p).toNat - 1 < 2 * n := by omega
  have ev := (rW (((n : Int) + s.dr p).toNat - 1) hvb).1
  have fv := (rW (((n : Int) + s.dr p).toNat - 1) hvb).2
  have tg : decide ((n : Int) ≤ s.dr p + 1) = true := by simp; omega
  have ta : (s.kk p != (p : Int)) = true := by simp [ha]
  have tb : decide (s.dr p ≤ s.wd (s.kk p).toNat) = false := by simp; omega
  have tk : (s.kk p + 1 == (n : Int)) = true := by simp [hk1]
  have hk2 : s.kk p < 2 * n := by omega
  have hk3 : (s.kk p).toNat < 2 * n := by omega
  clear hl hst hd2 hk1 ha hg hb
  go_enter Tryd.func54, Tryd.ntmps54
  go_wp2
  go_quiet (fail)
  all_goals go_wp2
  go_quiet (fail)
  all_goals go_wp2
  go_quiet (fail)
  all_goals go_wp2
  all_goals go_ret
  all_goals
    refine ⟨rfl, ⟨bW, bH, cap, rfl, hcap, hLW, hLH, hWH, ?_, ?_, ?_, ?_, ?_⟩, ?_⟩
    · exact (((((((hB.drewN _)).other hLH.symm _ _).drewN _).other hLH.symm _ _).other hLH.symm _ _).other hLH.symm _ _).other hLH.symm _ _
    · exact (((((((rW.drewN _)).other _ (.inl hWH.symm)).drewN _).other _ (.inl hWH.symm)).other _ (.inl hWH.symm)).other _ (.inl hWH.symm)).other _ (.inl hWH.symm)
    · refine Row.re ((((((((rL.drewN _)).other _ (.inr fun j _ => by omega)).drewN _).set (i := p) hp (fun j _ e => by omega) _).other _ (.inr fun j _ => by omega)).other _ (.inr fun j _ => by omega)).set (i := p) hp (fun j _ e => by omega) _) ?_
      simp only [upd_upd]
    · exact (((((((rD.drewN _)).other _ (.inr fun j _ => by omega)).drewN _).other _ (.inr fun j _ => by omega)).other _ (.inr fun j _ => by omega)).set (i := p) hp (fun j _ e => by omega) _).other _ (.inr fun j _ => by omega)
    · refine Row.re ((((((((rK.drewN _)).set (i := p) hp (fun j _ e => by omega) _).drewN _).other _ (.inr fun j _ => by omega)).set (i := p) hp (fun j _ e => by omega) _).other _ (.inr fun j _ => by omega)).other _ (.inr fun j _ => by omega)) ?_
      simp only [upd_upd]
    · exact ((((((((Only.refl _ _).drewN _)).set (by simp) _ _).drewN _).set (by simp) _ _).set (by simp) _ _).set (by simp) _ _).set (by simp) _ _

set_option maxHeartbeats 1000000 in
set_option maxRecDepth 100000 in
theorem line4pass11 {w : World} {n L p : Nat} {fb : List Nat} {s : St} (h : Rep w n L fb s) (hp : p < n) (hn : n ≤ 4) (h1 : 1 ≤ n) (hd : 1 ≤ s.dr p) (hd2 : s.dr p ≤ n) (hl : s.ln p = 4) (hk0 : 0 ≤ s.kk p) (hk1 : s.kk p + 1 = n) (ha : s.kk p = p) (hg : s.dr p + 1 ≥ n) :
    Calls Tryd.prog 54 #[.pointer (some ⟨L, 0, none⟩), .int .i64 p] w (Post n L fb w .nilIface (stepN n s p)) := by
  obtain ⟨bW, bH, cap, rfl, hcap, hLW, hLH, hWH, hB, rW, rL, rD, rK⟩ := h
  have c0 := hB.cell 0
  have c1 := hB.cell 1
  have c2 := hB.cell 2
  simp only [List.getElem?_toArray, List.getElem?_cons_zero, List.getElem?_cons_succ] at c0 c1 c2
  have hst : stepN n s p = { s with ln := upd s.ln p 5, kk := upd s.kk p 0, dr := upd s.dr p (s.dr p + 1) } := by have hvx : vx n (s.dr p) = ((n : Int) + s.dr p).toNat - 1 := (by unfold vx; omega); simp [stepN, pass, hl, ha, show (p : Int) + 1 = n by omega, show (n : Int) ≤ s.dr p + 1 from hg]
  rw [hst]
  have e := (rL p hp).1
  have g := (rL p hp).2
  have e0 := (rD (p) hp).1
  have f0 := (rD (p) hp).2
  have e1 := (rK (p) hp).1
  have f1 := (rK (p) hp).2
  have e2 := (rW ((s.kk p).toNat) (by omega)).1
  have f2 := (rW ((s.kk p).toNat) (by omega)).2
  rw [hl] at e
  have hpn : (p : Int) ≤ (n : Int) - 1 := by omega
  have hnI : 1 ≤ (n : Int) := by omega
  have hd4 : s.dr p ≤ 4 := by omega
  have hmn : (n : Int) + s.dr p ≤ 2 * n := by omega
  have hvb : ((n : Int) + s.dr p).toNat - 1 < 2 * n := by omega
  have ev := (rW (((n : Int) + s.dr p).toNat - 1) hvb).1
  have fv := (rW (((n : Int) + s.dr p).toNat - 1) hvb).2
  have tg : decide ((n : Int) ≤ s.dr p + 1) = true := by simp; omega
  have ta : (s.kk p != (p : Int)) = false := by simp [ha]
  have tk : (s.kk p + 1 == (n : Int)) = true := by simp [hk1]
  have hk2 : s.kk p < 2 * n := by omega
  have hk3 : (s.kk p).toNat < 2 * n := by omega
  clear hl hst hd2 hk1 ha hg
  go_enter Tryd.func54, Tryd.ntmps54
  go_wp2
  go_quiet (fail)
  all_goals go_wp2
  go_quiet (fail)
  all_goals go_wp2
  go_quiet (fail)
  all_goals go_wp2
  all_goals go_ret
  all_goals
    refine ⟨rfl, ⟨bW, bH, cap, rfl, hcap, hLW, hLH, hWH, ?_, ?_, ?_, ?_, ?_⟩, ?_⟩
    · exact (((((((hB.drewN _)).other hLH.symm _ _).drewN _).other hLH.symm _ _).other hLH.symm _ _).other hLH.symm _ _).other hLH.symm _ _
    · exact (((((((rW.drewN _)).other _ (.inl hWH.symm)).drewN _).other _ (.inl hWH.symm)).other _ (.inl hWH.symm)).other _ (.inl hWH.symm)).other _ (.inl hWH.symm)
    · refine Row.re ((((((((rL.drewN _)).other _ (.inr fun j _ => by omega)).drewN _).set (i := p) hp (fun j _ e => by omega) _).other _ (.inr fun j _ => by omega)).other _ (.inr fun j _ => by omega)).set (i := p) hp (fun j _ e => by omega) _) ?_
      simp only [upd_upd]
    · exact (((((((rD.drewN _)).other _ (.inr fun j _ => by omega)).drewN _).other _ (.inr fun j _ => by omega)).other _ (.inr fun j _ => by omega)).set (i := p) hp (fun j _ e => by omega) _).other _ (.inr fun j _ => by omega)
    · refine Row.re ((((((((rK.drewN _)).set (i := p) hp (fun j _ e => by omega) _).drewN _).other _ (.inr fun j _ => by omega)).set (i := p) hp (fun j _ e => by omega) _).other _ (.inr fun j _ => by omega)).other _ (.inr fun j _ => by omega)) ?_
      simp only [upd_upd]
    · exact ((((((((Only.refl _ _).drewN _)).set (by simp) _ _).drewN _).set (by simp) _ _).set (by simp) _ _).set (by simp) _ _).set (by simp) _ _

set_option maxHeartbeats 1000000 in
set_option maxRecDepth 100000 in
theorem line4next0 {w : World} {n L p : Nat} {fb : List Nat} {s : St} (h : Rep w n L fb s) (hp : p < n) (hn : n ≤ 4) (h1 : 1 ≤ n) (hd : 1 ≤ s.dr p) (hd2 : s.dr p ≤ n) (hl : s.ln p = 4) (hk0 : 0 ≤ s.kk p) (hk1 : s.kk p + 1 < n) (ha : s.kk p ≠ p) (hb : s.wd (s.kk p).toNat < s.dr p) :
    Calls Tryd.prog 54 #[.pointer (some ⟨L, 0, none⟩), .int .i64 p] w (Post n L fb w .nilIface (stepN n s p)) := by
  obtain ⟨bW, bH, cap, rfl, hcap, hLW, hLH, hWH, hB, rW, rL, rD, rK⟩ := h
  have c0 := hB.cell 0
  have c1 := hB.cell 1
  have c2 := hB.cell 2
  simp only [List.getElem?_toArray, List.getElem?_cons_zero, List.getElem?_cons_succ] at c0 c1 c2
  have hst : stepN n s p = { s with kk := upd s.kk p (s.kk p + 1) } := by have hvx : vx n (s.dr p) = ((n : Int) + s.dr p).toNat - 1 := (by unfold vx; omega); simp [stepN, hl, ha, show ¬ (s.dr p ≤ s.wd (s.kk p).toNat) by omega, show ¬ (s.kk p + 1 = (n : Int)) by omega]
  rw [hst]
  have e := (rL p hp).1
  have g := (rL p hp).2
  have e0 := (rD (p) hp).1
  have f0 := (rD (p) hp).2
  have e1 := (rK (p) hp).1
  have f1 := (rK (p) hp).2
  have e2 := (rW ((s.kk p).toNat) (by omega)).1
  have f2 := (rW ((s.kk p).toNat) (by omega)).2
  rw [hl] at e
  have hpn : (p : Int) ≤ (n : Int) - 1 := by omega
  have hnI : 1 ≤ (n : Int) := by omega
  have hd4 : s.dr p ≤ 4 := by omega
  have hmn : (n : Int) + s.dr p ≤ 2 * n := by omega
  have hvb : ((n : Int) + s.dr p).toNat - 1 < 2 * n := by omega
  have ev := (rW (((n : Int) + s.dr p).toNat - 1) hvb).1
  have fv := (rW (((n : Int) + s.dr p).toNat - 1) hvb).2
  have ta : (s.kk p != (p : Int)) = true := by simp [ha]
  have tb : decide (s.dr p ≤ s.wd (s.kk p).toNat) = false := by simp; omega
  have tk : (s.kk p + 1 == (n : Int)) = false := by simp; omega
  have hk2 : s.kk p < 2 * n := by omega
  have hk3 : (s.kk p).toNat < 2 * n := by omega
  clear hl hst hd2 ha hb
  go_enter Tryd.func54, Tryd.ntmps54
  go_wp2
  go_quiet (fail)
  all_goals go_wp2
  go_quiet (fail)
  all_goals go_wp2
  go_quiet (fail)
  all_goals go_wp2
  all_goals go_ret
  all_goals
    refine ⟨rfl, ⟨bW, bH, cap, rfl, hcap, hLW, hLH, hWH, ?_, ?_, ?_, ?_, ?_⟩, ?_⟩
    · exact (((hB.drewN _)).other hLH.symm _ _).drewN _
    · exact (((rW.drewN _)).other _ (.inl hWH.symm)).drewN _
    · exact (((rL.drewN _)).other _ (.inr fun j _ => by omega)).drewN _
    · exact (((rD.drewN _)).other _ (.inr fun j _ => by omega)).drewN _
    · exact (((rK.drewN _)).set (i := p) hp (fun j _ e => by omega) _).drewN _
    · exact ((((Only.refl _ _).drewN _)).set (by simp) _ _).drewN _

set_option maxHeartbeats 1000000 in
set_option maxRecDepth 100000 in
theorem line4next1 {w : World} {n L p : Nat} {fb : List Nat} {s : St} (h : Rep w n L fb s) (hp : p < n) (hn : n ≤ 4) (h1 : 1 ≤ n) (hd : 1 ≤ s.dr p) (hd2 : s.dr p ≤ n) (hl : s.ln p = 4) (hk0 : 0 ≤ s.kk p) (hk1 : s.kk p + 1 < n) (ha : s.kk p = p) :
    Calls Tryd.prog 54 #[.pointer (some ⟨L, 0, none⟩), .int .i64 p] w (Post n L fb w .nilIface (stepN n s p)) := by
  obtain ⟨bW, bH, cap, rfl, hcap, hLW, hLH, hWH, hB, rW, rL, rD, rK⟩ := h
  have c0 := hB.cell 0
  have c1 := hB.cell 1
  have c2 := hB.cell 2
  simp only [List.getElem?_toArray, List.getElem?_cons_zero, List.getElem?_cons_succ] at c0 c1 c2
  have hst : stepN n s p = { s with kk := upd s.kk p (s.kk p + 1) } := by have hvx : vx n (s.dr p) = ((n : Int) + s.dr p).toNat - 1 := (by unfold vx; omega); simp [stepN, hl, ha, show ¬ ((p : Int) + 1 = (n : Int)) by omega]
  rw [hst]
  have e := (rL p hp).1
  have g := (rL p hp).2
  have e0 := (rD (p) hp).1
  have f0 := (rD (p) hp).2
  have e1 := (rK (p) hp).1
  have f1 := (rK (p) hp).2
  have e2 := (rW ((s.kk p).toNat) (by omega)).1
  have f2 := (rW ((s.kk p).toNat) (by omega)).2
  rw [hl] at e
  have hpn : (p : Int) ≤ (n : Int) - 1 := by omega
  have hnI : 1 ≤ (n : Int) := by omega
  have hd4 : s.dr p ≤ 4 := by omega
  have hmn : (n : Int) + s.dr p ≤ 2 * n := by omega
  have hvb : ((n : Int) + s.dr p).toNat - 1 < 2 * n := by omega
  have ev := (rW (((n : Int) + s.dr p).toNat - 1) hvb).1
  have fv := (rW (((n : Int) + s.dr p).toNat - 1) hvb).2
  have ta : (s.kk p != (p : Int)) = false := by simp [ha]
  have tk : (s.kk p + 1 == (n : Int)) = false := by simp; omega
  have hk2 : s.kk p < 2 * n := by omega
  have hk3 : (s.kk p).toNat < 2 * n := by omega
  clear hl hst hd2 ha
  go_enter Tryd.func54, Tryd.ntmps54
  go_wp2
  go_quiet (fail)
  all_goals go_wp2
  go_quiet (fail)
  all_goals go_wp2
  go_quiet (fail)
  all_goals go_wp2
  all_goals go_ret
  all_goals
    refine ⟨rfl, ⟨bW, bH, cap, rfl, hcap, hLW, hLH, hWH, ?_, ?_, ?_, ?_, ?_⟩, ?_⟩
    · exact (((hB.drewN _)).other hLH.symm _ _).drewN _
    · exact (((rW.drewN _)).other _ (.inl hWH.symm)).drewN _
    · exact (((rL.drewN _)).other _ (.inr fun j _ => by omega)).drewN _
    · exact (((rD.drewN _)).other _ (.inr fun j _ => by omega)).drewN _
    · exact (((rK.drewN _)).set (i := p) hp (fun j _ e => by omega) _).drewN _
    · exact ((((Only.refl _ _).drewN _)).set (by simp) _ _).drewN _

set_option maxHeartbeats 1000000 in
set_option maxRecDepth 100000 in
theorem line4fail {w : World} {n L p : Nat} {fb : List Nat} {s : St} (h : Rep w n L fb s) (hp : p < n) (hn : n ≤ 4) (h1 : 1 ≤ n) (hd : 1 ≤ s.dr p) (hd2 : s.dr p ≤ n) (hl : s.ln p = 4) (hk0 : 0 ≤ s.kk p) (hk1 : s.kk p < n) (ha : s.kk p ≠ p) (hb : s.dr p ≤ s.wd (s.kk p).toNat) :
    Calls Tryd.prog 54 #[.pointer (some ⟨L, 0, none⟩), .int .i64 p] w (Post n L fb w .nilIface (stepN n s p)) := by
  obtain ⟨bW, bH, cap, rfl, hcap, hLW, hLH, hWH, hB, rW, rL, rD, rK⟩ := h
  have c0 := hB.cell 0
  have c1 := hB.cell 1
  have c2 := hB.cell 2
  simp only [List.getElem?_toArray, List.getElem?_cons_zero, List.getElem?_cons_succ] at c0 c1 c2
  have hst : stepN n s p = { s with ln := upd s.ln p 3, kk := upd s.kk p 0 } := by have hvx : vx n (s.dr p) = ((n : Int) + s.dr p).toNat - 1 := (by unfold vx; omega); simp [stepN, hl, ha, hb]
  rw [hst]
  have e := (rL p hp).1
  have g := (rL p hp).2
  have e0 := (rD (p) hp).1
  have f0 := (rD (p) hp).2
  have e1 := (rK (p) hp).1
  have f1 := (rK (p) hp).2
  have e2 := (rW ((s.kk p).toNat) (by omega)).1
  have f2 := (rW ((s.kk p).toNat) (by omega)).2
  rw [hl] at e
  have hpn : (p : Int) ≤ (n : Int) - 1 := by omega
  have hnI : 1 ≤ (n : Int) := by omega
  have hd4 : s.dr p ≤ 4 := by omega
  have hmn : (n : Int) + s.dr p ≤ 2 * n := by omega
  have hvb : ((n : Int) + s.dr p).toNat - 1 < 2 * n := by omega
  have ev := (rW (((n : Int) + s.dr p).toNat - 1) hvb).1
  have fv := (rW (((n : Int) + s.dr p).toNat - 1) hvb).2
  have ta : (s.kk p != (p : Int)) = true := by simp [ha]
  have tb : decide (s.dr p ≤ s.wd (s.kk p).toNat) = true := by simp; omega
  have hk2 : s.kk p < 2 * n := by omega
  have hk3 : (s.kk p).toNat < 2 * n := by omega
  clear hl hst hd2 ha hb
  go_enter Tryd.func54, Tryd.ntmps54
  go_wp2
  go_quiet (fail)
  all_goals go_wp2
  go_quiet (fail)
  all_goals go_wp2
  all_goals go_ret
  all_goals
    refine ⟨rfl, ⟨bW, bH, cap, rfl, hcap, hLW, hLH, hWH, ?_, ?_, ?_, ?_, ?_⟩, ?_⟩
    · exact (((hB.drewN _)).other hLH.symm _ _).other hLH.symm _ _
    · exact (((rW.drewN _)).other _ (.inl hWH.symm)).other _ (.inl hWH.symm)
    · exact (((rL.drewN _)).set (i := p) hp (fun j _ e => by omega) _).other _ (.inr fun j _ => by omega)
    · exact (((rD.drewN _)).other _ (.inr fun j _ => by omega)).other _ (.inr fun j _ => by omega)
    · exact (((rK.drewN _)).other _ (.inr fun j _ => by omega)).set (i := p) hp (fun j _ e => by omega) _
    · exact ((((Only.refl _ _).drewN _)).set (by simp) _ _).set (by simp) _ _

set_option maxHeartbeats 1000000 in
set_option maxRecDepth 100000 in
theorem line50 {w : World} {n L p : Nat} {fb : List Nat} {s : St} (h : Rep w n L fb s) (hp : p < n) (hn : n ≤ 4) (h1 : 1 ≤ n) (hd : 1 ≤ s.dr p) (hd2 : s.dr p ≤ n) (hl : s.ln p = 5) :
    Calls Tryd.prog 54 #[.pointer (some ⟨L, 0, none⟩), .int .i64 p] w (Post n L fb w .nilIface (stepN n s p)) := by
  obtain ⟨bW, bH, cap, rfl, hcap, hLW, hLH, hWH, hB, rW, rL, rD, rK⟩ := h
  have c0 := hB.cell 0
  have c1 := hB.cell 1
  have c2 := hB.cell 2
  simp only [List.getElem?_toArray, List.getElem?_cons_zero, List.getElem?_cons_succ] at c0 c1 c2
  have hst : stepN n s p = { s with ln := upd s.ln p 6 } := by simp [stepN, hl]
  rw [hst]
  have e := (rL p hp).1
  have g := (rL p hp).2
  have e0 := (rD (p) hp).1
  have f0 := (rD (p) hp).2
  rw [hl] at e
  have hpn : (p : Int) ≤ (n : Int) - 1 := by omega
  have hnI : 1 ≤ (n : Int) := by omega
  have hd4 : s.dr p ≤ 4 := by omega
  have hmn : (n : Int) + s.dr p ≤ 2 * n := by omega
  clear hl hst hd2 
  go_enter Tryd.func54, Tryd.ntmps54
  go_wp2
  go_quiet (fail)
  all_goals go_wp2
  all_goals go_ret
  all_goals
    refine ⟨rfl, ⟨bW, bH, cap, rfl, hcap, hLW, hLH, hWH, ?_, ?_, ?_, ?_, ?_⟩, ?_⟩
    · exact ((hB.drewN _)).other hLH.symm _ _
    · exact ((rW.drewN _)).other _ (.inl hWH.symm)
    · exact ((rL.drewN _)).set (i := p) hp (fun j _ e => by omega) _
    · exact ((rD.drewN _)).other _ (.inr fun j _ => by omega)
    · exact ((rK.drewN _)).other _ (.inr fun j _ => by omega)
    · exact (((Only.refl _ _).drewN _)).set (by simp) _ _

set_option maxHeartbeats 1000000 in
set_option maxRecDepth 100000 in
theorem line60 {w : World} {n L p : Nat} {fb : List Nat} {s : St} (h : Rep w n L fb s) (hp : p < n) (hn : n ≤ 4) (h1 : 1 ≤ n) (hd : 1 ≤ s.dr p) (hd2 : s.dr p ≤ n) (hl : s.ln p = 6) :
    Calls Tryd.prog 54 #[.pointer (some ⟨L, 0, none⟩), .int .i64 p] w (Post n L fb w .nilIface (stepN n s p)) := by
  obtain ⟨bW, bH, cap, rfl, hcap, hLW, hLH, hWH, hB, rW, rL, rD, rK⟩ := h
  have c0 := hB.cell 0
  have c1 := hB.cell 1
  have c2 := hB.cell 2
  simp only [List.getElem?_toArray, List.getElem?_cons_zero, List.getElem?_cons_succ] at c0 c1 c2
  have hst : stepN n s p = { s with wd := upd s.wd p 0, ln := upd s.ln p 1, dr := upd s.dr p 1, kk := upd s.kk p 0 } := by simp [stepN, hl]
  rw [hst]
  have e := (rL p hp).1
  have g := (rL p hp).2
  have e0 := (rD (p) hp).1
  have f0 := (rD (p) hp).2
  have e1 := (rK (p) hp).1
  have f1 := (rK (p) hp).2
  have e2 := (rW (p) (by omega)).1
  have f2 := (rW (p) (by omega)).2
  rw [hl] at e
  have hpn : (p : Int) ≤ (n : Int) - 1 := by omega
  have hnI : 1 ≤ (n : Int) := by omega
  have hd4 : s.dr p ≤ 4 := by omega
  have hmn : (n : Int) + s.dr p ≤ 2 * n := by omega
  clear hl hst hd2 
  go_enter Tryd.func54, Tryd.ntmps54
  go_wp2
  go_quiet (fail)
  all_goals go_wp2
  all_goals go_ret
  all_goals
    refine ⟨rfl, ⟨bW, bH, cap, rfl, hcap, hLW, hLH, hWH, ?_, ?_, ?_, ?_, ?_⟩, ?_⟩
    · exact (((((hB.drewN _)).other hLW.symm _ _).other hLH.symm _ _).other hLH.symm _ _).other hLH.symm _ _
    · exact (((((rW.drewN _)).set (i := p) (by omega) (fun j _ e => e) _).other _ (.inl hWH.symm)).other _ (.inl hWH.symm)).other _ (.inl hWH.symm)
    · exact (((((rL.drewN _)).other _ (.inl hWH)).set (i := p) hp (fun j _ e => by omega) _).other _ (.inr fun j _ => by omega)).other _ (.inr fun j _ => by omega)
    · exact (((((rD.drewN _)).other _ (.inl hWH)).other _ (.inr fun j _ => by omega)).set (i := p) hp (fun j _ e => by omega) _).other _ (.inr fun j _ => by omega)
    · exact (((((rK.drewN _)).other _ (.inl hWH)).other _ (.inr fun j _ => by omega)).other _ (.inr fun j _ => by omega)).set (i := p) hp (fun j _ e => by omega) _
    · exact ((((((Only.refl _ _).drewN _)).set (by simp) _ _).set (by simp) _ _).set (by simp) _ _).set (by simp) _ _

set_option maxHeartbeats 1000000 in
set_option maxRecDepth 100000 in
theorem line51 {w : World} {n L p : Nat} {fb : List Nat} {s : St} (h : Rep w n L fb s) (hp : p < n) (hn : n ≤ 4) (h1 : 1 ≤ n) (hd : 1 ≤ s.dr p) (hd2 : n = 1 ∧ s.dr p = 2) (hl : s.ln p = 5) :
    Calls Tryd.prog 54 #[.pointer (some ⟨L, 0, none⟩), .int .i64 p] w (Post n L fb w .nilIface (stepN n s p)) := by
  obtain ⟨bW, bH, cap, rfl, hcap, hLW, hLH, hWH, hB, rW, rL, rD, rK⟩ := h
  have c0 := hB.cell 0
  have c1 := hB.cell 1
  have c2 := hB.cell 2
  simp only [List.getElem?_toArray, List.getElem?_cons_zero, List.getElem?_cons_succ] at c0 c1 c2
  have hst : stepN n s p = { s with ln := upd s.ln p 6 } := by simp [stepN, hl]
  rw [hst]
  have e := (rL p hp).1
  have g := (rL p hp).2
  have e0 := (rD (p) hp).1
  have f0 := (rD (p) hp).2
  rw [hl] at e
  have hpn : (p : Int) ≤ (n : Int) - 1 := by omega
  have hnI : 1 ≤ (n : Int) := by omega
  have hd4 : s.dr p ≤ 4 := by omega
  have hmn : ¬ ((n : Int) + s.dr p ≤ 2 * n) := by omega
  clear hl hst hd2 
  go_enter Tryd.func54, Tryd.ntmps54
  go_wp2
  go_quiet (fail)
  all_goals go_wp2
  all_goals go_ret
  all_goals
    refine ⟨rfl, ⟨bW, bH, cap, rfl, hcap, hLW, hLH, hWH, ?_, ?_, ?_, ?_, ?_⟩, ?_⟩
    · exact ((hB.drewN _)).other hLH.symm _ _
    · exact ((rW.drewN _)).other _ (.inl hWH.symm)
    · exact ((rL.drewN _)).set (i := p) hp (fun j _ e => by omega) _
    · exact ((rD.drewN _)).other _ (.inr fun j _ => by omega)
    · exact ((rK.drewN _)).other _ (.inr fun j _ => by omega)
    · exact (((Only.refl _ _).drewN _)).set (by simp) _ _

set_option maxHeartbeats 1000000 in
set_option maxRecDepth 100000 in
theorem line61 {w : World} {n L p : Nat} {fb : List Nat} {s : St} (h : Rep w n L fb s) (hp : p < n) (hn : n ≤ 4) (h1 : 1 ≤ n) (hd : 1 ≤ s.dr p) (hd2 : n = 1 ∧ s.dr p = 2) (hl : s.ln p = 6) :
    Calls Tryd.prog 54 #[.pointer (some ⟨L, 0, none⟩), .int .i64 p] w (Post n L fb w .nilIface (stepN n s p)) := by
  obtain ⟨bW, bH, cap, rfl, hcap, hLW, hLH, hWH, hB, rW, rL, rD, rK⟩ := h
  have c0 := hB.cell 0
  have c1 := hB.cell 1
  have c2 := hB.cell 2
  simp only [List.getElem?_toArray, List.getElem?_cons_zero, List.getElem?_cons_succ] at c0 c1 c2
  have hst : stepN n s p = { s with wd := upd s.wd p 0, ln := upd s.ln p 1, dr := upd s.dr p 1, kk := upd s.kk p 0 } := by simp [stepN, hl]
  rw [hst]
  have e := (rL p hp).1
  have g := (rL p hp).2
  have e0 := (rD (p) hp).1
  have f0 := (rD (p) hp).2
  have e1 := (rK (p) hp).1
  have f1 := (rK (p) hp).2
  have e2 := (rW (p) (by omega)).1
  have f2 := (rW (p) (by omega)).2
  rw [hl] at e
  have hpn : (p : Int) ≤ (n : Int) - 1 := by omega
  have hnI : 1 ≤ (n : Int) := by omega
  have hd4 : s.dr p ≤ 4 := by omega
  have hmn : ¬ ((n : Int) + s.dr p ≤ 2 * n) := by omega
  clear hl hst hd2 
  go_enter Tryd.func54, Tryd.ntmps54
  go_wp2
  go_quiet (fail)
  all_goals go_wp2
  all_goals go_ret
  all_goals
    refine ⟨rfl, ⟨bW, bH, cap, rfl, hcap, hLW, hLH, hWH, ?_, ?_, ?_, ?_, ?_⟩, ?_⟩
    · exact (((((hB.drewN _)).other hLW.symm _ _).other hLH.symm _ _).other hLH.symm _ _).other hLH.symm _ _
    · exact (((((rW.drewN _)).set (i := p) (by omega) (fun j _ e => e) _).other _ (.inl hWH.symm)).other _ (.inl hWH.symm)).other _ (.inl hWH.symm)
    · exact (((((rL.drewN _)).other _ (.inl hWH)).set (i := p) hp (fun j _ e => by omega) _).other _ (.inr fun j _ => by omega)).other _ (.inr fun j _ => by omega)
    · exact (((((rD.drewN _)).other _ (.inl hWH)).other _ (.inr fun j _ => by omega)).set (i := p) hp (fun j _ e => by omega) _).other _ (.inr fun j _ => by omega)
    · exact (((((rK.drewN _)).other _ (.inl hWH)).other _ (.inr fun j _ => by omega)).other _ (.inr fun j _ => by omega)).set (i := p) hp (fun j _ e => by omega) _
    · exact ((((((Only.refl _ _).drewN _)).set (by simp) _ _).set (by simp) _ _).set (by simp) _ _).set (by simp) _ _

theorem step_no {w : World} {n L : Nat} {fb : List Nat} {s : St} {p : Int} (h : Rep w n L fb s) (hn : n ≤ 4) (hp : p < 0 ∨ n ≤ p) :
    Calls Tryd.prog 54 #[.pointer (some ⟨L, 0, none⟩), .int .i64 p] w fun e w' => e = .returned (.iface 77 (.int .i64 1)) ∧ w = w' := by
  obtain ⟨bW, bH, cap, rfl, hcap, hLW, hLH, hWH, hB, -⟩ := h
  have c0 := hB.cell 0
  simp only [List.getElem?_toArray, List.getElem?_cons_zero] at c0
  by_cases hq : p < 0
  · clear hp
    go_enter Tryd.func54, Tryd.ntmps54
    go_wp2
    go_ret
    exact ⟨rfl, rfl⟩
  · have h1 : decide (p ≤ (n : Int) - 1) = false := by simp; omega
    have h0 : 0 ≤ p := by omega
    clear hp hq
    go_enter Tryd.func54, Tryd.ntmps54
    go_wp2
    go_ret
    exact ⟨rfl, rfl⟩

theorem at_any {w : World} {n L : Nat} {fb : List Nat} {s : St} (p : Int) (h : Rep w n L fb s) (hn : n ≤ 4) :
    Calls Tryd.prog 56 #[.pointer (some ⟨L, 0, none⟩), .int .i64 p] w fun e w' => e = .returned (.int .i64 (line n s p)) ∧ w = w' := by
  obtain ⟨bW, bH, cap, rfl, hcap, hLW, hLH, hWH, hB, rW, rL, -⟩ := h
  have c0 := hB.cell 0
  have c2 := hB.cell 2
  simp only [List.getElem?_toArray, List.getElem?_cons_zero, List.getElem?_cons_succ] at c0 c2
  by_cases hp : 0 ≤ p ∧ p < n
  · obtain ⟨m, rfl⟩ := Int.eq_ofNat_of_zero_le hp.1
    rw [line_nat s (by omega)]
    have e := (rL m (by omega)).1
    have h0 : (m : Int) ≤ (n : Int) - 1 := by omega
    have h1 : m < n := by omega
    clear hp
    go_enter Tryd.func56, Tryd.ntmps56
    go_wp2
    go_ret
    exact ⟨rfl, rfl⟩
  · have e : line n s p = 0 := by unfold line; rw [if_neg hp]
    rw [e]
    by_cases hq : p < 0
    · clear hp
      go_enter Tryd.func56, Tryd.ntmps56
      go_wp2
      go_ret
      exact ⟨rfl, rfl⟩
    · have h1 : decide (p ≤ (n : Int) - 1) = false := by simp; omega
      have h0 : 0 ≤ p := by omega
      clear hp hq
      go_enter Tryd.func56, Tryd.ntmps56
      go_wp2
      go_ret
      exact ⟨rfl, rfl⟩

theorem at_of {w : World} {n L : Nat} {fb : List Nat} {s : St} {p k : Int} (hb : Rep w n L fb s) (hn : n ≤ 4) (hk : line n s p = k) :
    Calls Tryd.prog 56 #[.pointer (some ⟨L, 0, none⟩), .int .i64 p] w fun e w' => e = .returned (.int .i64 k) ∧ w = w' := by
  subst hk; exact at_any p hb hn

theorem step_any {w : World} {n k L : Nat} {fb : List Nat} {s : St} (p : Int) (hb : Rep w n L fb s) (hs : Reach n k s) (hk : k ≤ 100000) :
    Calls Tryd.prog 54 #[.pointer (some ⟨L, 0, none⟩), .int .i64 p] w (Post n L fb w (told n p) (step n s p)) := by
  by_cases hp : 0 ≤ p ∧ p < n
  · obtain ⟨m, rfl⟩ := Int.eq_ofNat_of_zero_le hp.1
    have hm : m < n := by omega
    have ht : told n (m : Int) = .nilIface := by unfold told; rw [if_pos hp]
    rw [step_nat s hm, ht]
    have hln := hs.fine hm
    have hn := hs.2.1
    have h1 := hs.1
    have hd := hs.2.2.dr m hm
    have hk := hs.2.2.kk m hm
    have hd2 : s.dr m ≤ n ∨ s.dr m = 2 := by omega
    obtain hl | hl | hl | hl | hl | hl : s.ln m = 1 ∨ s.ln m = 2 ∨ s.ln m = 3 ∨ s.ln m = 4 ∨ s.ln m = 5 ∨ s.ln m = 6 := by omega
    · have hd3 : s.dr m ≤ n := by omega
      exact line1 hb hm hn h1 hd.1 hd3 hl
    · have hd3 : s.dr m ≤ n := by omega
      exact line2 hb hm hn h1 hd.1 hd3 hl
    · have hd3 : s.dr m ≤ n := by omega
      by_cases h0 : s.wd (((n : Int) + s.dr m).toNat - 1) = m + 1
      · exact line3go hb hm hn h1 hd.1 hd3 hl h0
      · by_cases hg : s.dr m + 1 ≥ n
        · exact line3pass1 hb hm hn h1 hd.1 hd3 hl h0 hg
        · exact line3pass0 hb hm hn h1 hd.1 hd3 hl h0 (by omega)
    · have hd3 : s.dr m ≤ n := by omega
      by_cases ha : s.kk m = m
      · by_cases hk1 : s.kk m + 1 = n
        · by_cases hg : s.dr m + 1 ≥ n
          · exact line4pass11 hb hm hn h1 hd.1 hd3 hl hk.1 hk1 ha hg
          · exact line4pass01 hb hm hn h1 hd.1 hd3 hl hk.1 hk1 ha (by omega)
        · exact line4next1 hb hm hn h1 hd.1 hd3 hl hk.1 (by omega) ha
      · by_cases hq : s.wd (s.kk m).toNat < s.dr m
        · by_cases hk1 : s.kk m + 1 = n
          · by_cases hg : s.dr m + 1 ≥ n
            · exact line4pass10 hb hm hn h1 hd.1 hd3 hl hk.1 hk1 ha hq hg
            · exact line4pass00 hb hm hn h1 hd.1 hd3 hl hk.1 hk1 ha hq (by omega)
          · exact line4next0 hb hm hn h1 hd.1 hd3 hl hk.1 (by omega) ha hq
        · exact line4fail hb hm hn h1 hd.1 hd3 hl hk.1 (by omega) ha (by omega)
    · by_cases h5 : s.dr m ≤ n
      · exact line50 hb hm hn h1 hd.1 h5 hl
      · exact line51 hb hm hn h1 hd.1 (by omega) hl
    · by_cases h5 : s.dr m ≤ n
      · exact line60 hb hm hn h1 hd.1 h5 hl
      · exact line61 hb hm hn h1 hd.1 (by omega) hl
  · refine (step_no hb hs.2.1 (by omega)).mono ?_
    rintro e w' ⟨rfl, rfl⟩
    exact ⟨by unfold told; rw [if_neg hp], by unfold step; rw [if_neg hp]; exact hb, Only.refl _ _⟩

theorem step_of {w : World} {n k L : Nat} {fb : List Nat} {s s' : St} {p : Int} {r : Value} (hb : Rep w n L fb s) (hs : Reach n k s) (hk : k ≤ 100000) (hr : told n p = r) (he : step n s p = s') :
    Calls Tryd.prog 54 #[.pointer (some ⟨L, 0, none⟩), .int .i64 p] w (Post n L fb w r s') := by
  subst hr; subst he; exact step_any p hb hs hk
theorem told_nil {n : Nat} {p : Nat} (hp : p < n) : told n (p : Int) = .nilIface := by
  unfold told; rw [if_pos (by omega)]
end Go.Proofs.YtgkfgijmccojjaaDoor.Filter
