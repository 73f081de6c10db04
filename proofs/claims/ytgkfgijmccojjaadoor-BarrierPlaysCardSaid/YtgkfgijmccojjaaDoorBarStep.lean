import Derived.Test.YtgkfgijmccojjaaDoorBase
import Derived.Test.YtgkfgijmccojjaaDoorBarPlain
namespace Go.Proofs.YtgkfgijmccojjaaDoor.Bar
open Go.RowKit
set_option linter.unusedVariables false

/-- The barrier lies at block L, in the state s; the list: the blocks that are its own. -/
def Rep (w : World) (n L : Nat) (fb : List Nat) (s : St) : Prop :=
  ∃ bH cap, fb = [L, bH] ∧ n ≤ cap ∧ L ≠ bH ∧ Blk w L #[.int .i64 s.count, .int .i64 s.sense, .slice (some ⟨bH, 0, none⟩) n cap] 84 ∧
    Row w bH n (fun j => j * 3) s.ln ∧ Row w bH n (fun j => j * 3 + 1) s.mine ∧ Row w bH n (fun j => j * 3 + 2) s.phase
def told (n : Nat) (p : Int) : Value := if 0 ≤ p ∧ p < n then .nilIface else .iface 77 (.int .i64 1)
def Post (n L : Nat) (fb : List Nat) (w : World) (r : Value) (s : St) (e : Ending) (w' : World) : Prop :=
  e = .returned r ∧ Rep w' n L fb s ∧ Only fb w w'
def Made (n : Nat) (w : World) (e : Ending) (w' : World) : Prop :=
  ∃ L fb, e = .returned (.tuple #[.pointer (some ⟨L, 0, none⟩), .nilIface]) ∧ Rep w' n L fb (first n) ∧ Below w.heap.size w w' ∧ (∀ k ∈ fb, w.heap.size ≤ k ∧ k < w'.heap.size)

theorem Rep.keep {w w' : World} {n L : Nat} {fb : List Nat} {s : St} (h : Rep w n L fb s) (hk : ∀ k ∈ fb, w'.heap[k]? = w.heap[k]?) : Rep w' n L fb s := by
  obtain ⟨bH, cap, rfl, hcap, hLH, hB, rL, rM, rP⟩ := h
  refine ⟨bH, cap, rfl, hcap, hLH, ?_, rL.keep (hk _ (by simp)), rM.keep (hk _ (by simp)), rP.keep (hk _ (by simp))⟩
  unfold Blk at *
  rw [hk L (by simp)]; exact hB
theorem upd_upd (f : Nat → Int) (p : Nat) (u v : Int) : upd (upd f p u) p v = upd f p v := by
  funext j; unfold upd; split <;> rfl

set_option maxHeartbeats 1000000 in
set_option maxRecDepth 100000 in
theorem line1last {w : World} {n L p k : Nat} {fb : List Nat} {s : St} (h : Rep w n L fb s) (hp : p < n) (hn : n ≤ 4) (hl : s.ln p = 1) (h0 : s.count - 1 = 0) (hb : (0 ≤ s.mine p ∧ s.mine p ≤ 1) ∧ (-1 ≤ s.phase p ∧ s.phase p ≤ k) ∧ (0 ≤ s.count ∧ s.count ≤ n)) (hk : k ≤ 100000) :
    Calls Tryd.prog 30 #[.pointer (some ⟨L, 0, none⟩), .int .i64 p] w (Post n L fb w .nilIface (stepN n s p)) := by
  obtain ⟨bH, cap, rfl, hcap, hLH, hB, rL, rM, rP⟩ := h
  have c0 := hB.cell 0
  have c1 := hB.cell 1
  have c2 := hB.cell 2
  simp only [List.getElem?_toArray, List.getElem?_cons_zero, List.getElem?_cons_succ] at c0 c1 c2
  have d0 := hB.free 0
  have d1 := hB.free 1
  have hst : stepN n s p = { s with mine := upd s.mine p (1 - s.mine p), count := s.count - 1, ln := upd s.ln p 2, cd := upd s.cd p 3 } := by simp only [stepN, hl, h0, if_true]
  rw [hst]
  have e := (rL p hp).1
  have g := (rL p hp).2
  have e0 := (rM p hp).1
  have f0 := (rM p hp).2
  have e1 := (rP p hp).1
  have f1 := (rP p hp).2
  rw [hl] at e
  have hpn : (p : Int) ≤ (n : Int) - 1 := by omega
  have hb0 := hb.1.1
  have hb1 := hb.1.2
  have hb2 := hb.2.1.1
  have hb3 : s.phase p ≤ 100000 := by omega
  have hb4 := hb.2.2.1
  have hb5 : s.count ≤ 4 := by omega
  have h0b : (s.count - 1 == 0) = true := by simp [h0]
  clear hl hst hb h0
  go_enter Tryd.func30, Tryd.ntmps30
  go_wp2
  all_goals go_ret
  all_goals
    refine ⟨rfl, ⟨bH, cap, rfl, hcap, hLH, ?_, ?_, ?_, ?_⟩, ?_⟩
    · refine Blk.eq (((((hB).other hLH.symm _ _).set 0 _).other hLH.symm _ _).other hLH.symm _ _) ?_
      simp
    · exact (((((rL).other _ (.inr fun j _ => by omega)).other _ (.inl hLH)).set (i := p) hp (fun j _ e => by omega) _).set (i := p) hp (fun j _ e => by omega) _).eq (fun j _ => by rw [upd_upd])
    · exact ((((rM).set (i := p) hp (fun j _ e => by omega) _).other _ (.inl hLH)).other _ (.inr fun j _ => by omega)).other _ (.inr fun j _ => by omega)
    · exact ((((rP).other _ (.inr fun j _ => by omega)).other _ (.inl hLH)).other _ (.inr fun j _ => by omega)).other _ (.inr fun j _ => by omega)
    · exact ((((Only.refl _ _).set (by simp) _ _).set (by simp) _ _).set (by simp) _ _).set (by simp) _ _

set_option maxHeartbeats 1000000 in
set_option maxRecDepth 100000 in
theorem line1more {w : World} {n L p k : Nat} {fb : List Nat} {s : St} (h : Rep w n L fb s) (hp : p < n) (hn : n ≤ 4) (hl : s.ln p = 1) (h0 : s.count - 1 ≠ 0) (hb : (0 ≤ s.mine p ∧ s.mine p ≤ 1) ∧ (-1 ≤ s.phase p ∧ s.phase p ≤ k) ∧ (0 ≤ s.count ∧ s.count ≤ n)) (hk : k ≤ 100000) :
    Calls Tryd.prog 30 #[.pointer (some ⟨L, 0, none⟩), .int .i64 p] w (Post n L fb w .nilIface (stepN n s p)) := by
  obtain ⟨bH, cap, rfl, hcap, hLH, hB, rL, rM, rP⟩ := h
  have c0 := hB.cell 0
  have c1 := hB.cell 1
  have c2 := hB.cell 2
  simp only [List.getElem?_toArray, List.getElem?_cons_zero, List.getElem?_cons_succ] at c0 c1 c2
  have d0 := hB.free 0
  have d1 := hB.free 1
  have hst : stepN n s p = { s with mine := upd s.mine p (1 - s.mine p), count := s.count - 1, ln := upd s.ln p 4, cd := upd s.cd p 1 } := by simp only [stepN, hl, h0, if_true, if_false]
  rw [hst]
  have e := (rL p hp).1
  have g := (rL p hp).2
  have e0 := (rM p hp).1
  have f0 := (rM p hp).2
  have e1 := (rP p hp).1
  have f1 := (rP p hp).2
  rw [hl] at e
  have hpn : (p : Int) ≤ (n : Int) - 1 := by omega
  have hb0 := hb.1.1
  have hb1 := hb.1.2
  have hb2 := hb.2.1.1
  have hb3 : s.phase p ≤ 100000 := by omega
  have hb4 := hb.2.2.1
  have hb5 : s.count ≤ 4 := by omega
  have h0b : (s.count - 1 == 0) = false := by simp; omega
  clear hl hst hb h0
  go_enter Tryd.func30, Tryd.ntmps30
  go_wp2
  all_goals go_ret
  all_goals
    refine ⟨rfl, ⟨bH, cap, rfl, hcap, hLH, ?_, ?_, ?_, ?_⟩, ?_⟩
    · refine Blk.eq ((((hB).other hLH.symm _ _).set 0 _).other hLH.symm _ _) ?_
      simp
    · exact (((rL).other _ (.inr fun j _ => by omega)).other _ (.inl hLH)).set (i := p) hp (fun j _ e => by omega) _
    · exact (((rM).set (i := p) hp (fun j _ e => by omega) _).other _ (.inl hLH)).other _ (.inr fun j _ => by omega)
    · exact (((rP).other _ (.inr fun j _ => by omega)).other _ (.inl hLH)).other _ (.inr fun j _ => by omega)
    · exact (((Only.refl _ _).set (by simp) _ _).set (by simp) _ _).set (by simp) _ _

set_option maxHeartbeats 1000000 in
set_option maxRecDepth 100000 in
theorem line2 {w : World} {n L p k : Nat} {fb : List Nat} {s : St} (h : Rep w n L fb s) (hp : p < n) (hn : n ≤ 4) (hl : s.ln p = 2) :
    Calls Tryd.prog 30 #[.pointer (some ⟨L, 0, none⟩), .int .i64 p] w (Post n L fb w .nilIface (stepN n s p)) := by
  obtain ⟨bH, cap, rfl, hcap, hLH, hB, rL, rM, rP⟩ := h
  have c0 := hB.cell 0
  have c1 := hB.cell 1
  have c2 := hB.cell 2
  simp only [List.getElem?_toArray, List.getElem?_cons_zero, List.getElem?_cons_succ] at c0 c1 c2
  have d0 := hB.free 0
  have d1 := hB.free 1
  have hst : stepN n s p = { s with count := n, ln := upd s.ln p 3, cd := upd s.cd p 4 } := by simp [stepN, hl]
  rw [hst]
  have e := (rL p hp).1
  have g := (rL p hp).2
  have e0 := (rM p hp).1
  have f0 := (rM p hp).2
  have e1 := (rP p hp).1
  have f1 := (rP p hp).2
  rw [hl] at e
  have hpn : (p : Int) ≤ (n : Int) - 1 := by omega
  clear hl hst 
  go_enter Tryd.func30, Tryd.ntmps30
  go_wp2
  all_goals go_ret
  all_goals
    refine ⟨rfl, ⟨bH, cap, rfl, hcap, hLH, ?_, ?_, ?_, ?_⟩, ?_⟩
    · refine Blk.eq (((hB).set 0 _).other hLH.symm _ _) ?_
      simp
    · exact ((rL).other _ (.inl hLH)).set (i := p) hp (fun j _ e => by omega) _
    · exact ((rM).other _ (.inl hLH)).other _ (.inr fun j _ => by omega)
    · exact ((rP).other _ (.inl hLH)).other _ (.inr fun j _ => by omega)
    · exact ((Only.refl _ _).set (by simp) _ _).set (by simp) _ _

set_option maxHeartbeats 1000000 in
set_option maxRecDepth 100000 in
theorem line3 {w : World} {n L p k : Nat} {fb : List Nat} {s : St} (h : Rep w n L fb s) (hp : p < n) (hn : n ≤ 4) (hl : s.ln p = 3) (hb : (0 ≤ s.mine p ∧ s.mine p ≤ 1) ∧ (-1 ≤ s.phase p ∧ s.phase p ≤ k) ∧ (0 ≤ s.count ∧ s.count ≤ n)) (hk : k ≤ 100000) :
    Calls Tryd.prog 30 #[.pointer (some ⟨L, 0, none⟩), .int .i64 p] w (Post n L fb w .nilIface (stepN n s p)) := by
  obtain ⟨bH, cap, rfl, hcap, hLH, hB, rL, rM, rP⟩ := h
  have c0 := hB.cell 0
  have c1 := hB.cell 1
  have c2 := hB.cell 2
  simp only [List.getElem?_toArray, List.getElem?_cons_zero, List.getElem?_cons_succ] at c0 c1 c2
  have d0 := hB.free 0
  have d1 := hB.free 1
  have hst : stepN n s p = { s with sense := s.mine p, ln := upd s.ln p 1, phase := upd s.phase p (s.phase p + 1), g := s.g + 1, cd := loosed s.cd p } := by simp [stepN, hl]
  rw [hst]
  have e := (rL p hp).1
  have g := (rL p hp).2
  have e0 := (rM p hp).1
  have f0 := (rM p hp).2
  have e1 := (rP p hp).1
  have f1 := (rP p hp).2
  rw [hl] at e
  have hpn : (p : Int) ≤ (n : Int) - 1 := by omega
  have hb0 := hb.1.1
  have hb1 := hb.1.2
  have hb2 := hb.2.1.1
  have hb3 : s.phase p ≤ 100000 := by omega
  have hb4 := hb.2.2.1
  have hb5 : s.count ≤ 4 := by omega
  clear hl hst hb
  go_enter Tryd.func30, Tryd.ntmps30
  go_wp2
  all_goals go_ret
  all_goals
    refine ⟨rfl, ⟨bH, cap, rfl, hcap, hLH, ?_, ?_, ?_, ?_⟩, ?_⟩
    · refine Blk.eq ((((hB).set 1 _).other hLH.symm _ _).other hLH.symm _ _) ?_
      simp
    · exact (((rL).other _ (.inl hLH)).set (i := p) hp (fun j _ e => by omega) _).other _ (.inr fun j _ => by omega)
    · exact (((rM).other _ (.inl hLH)).other _ (.inr fun j _ => by omega)).other _ (.inr fun j _ => by omega)
    · exact (((rP).other _ (.inl hLH)).other _ (.inr fun j _ => by omega)).set (i := p) hp (fun j _ e => by omega) _
    · exact (((Only.refl _ _).set (by simp) _ _).set (by simp) _ _).set (by simp) _ _

set_option maxHeartbeats 1000000 in
set_option maxRecDepth 100000 in
theorem line4go {w : World} {n L p k : Nat} {fb : List Nat} {s : St} (h : Rep w n L fb s) (hp : p < n) (hn : n ≤ 4) (hl : s.ln p = 4) (h0 : s.sense = s.mine p) (hb : (0 ≤ s.mine p ∧ s.mine p ≤ 1) ∧ (-1 ≤ s.phase p ∧ s.phase p ≤ k) ∧ (0 ≤ s.count ∧ s.count ≤ n)) (hk : k ≤ 100000) :
    Calls Tryd.prog 30 #[.pointer (some ⟨L, 0, none⟩), .int .i64 p] w (Post n L fb w .nilIface (stepN n s p)) := by
  obtain ⟨bH, cap, rfl, hcap, hLH, hB, rL, rM, rP⟩ := h
  have c0 := hB.cell 0
  have c1 := hB.cell 1
  have c2 := hB.cell 2
  simp only [List.getElem?_toArray, List.getElem?_cons_zero, List.getElem?_cons_succ] at c0 c1 c2
  have d0 := hB.free 0
  have d1 := hB.free 1
  have hst : stepN n s p = { s with ln := upd s.ln p 1, phase := upd s.phase p (s.phase p + 1), cd := upd s.cd p 0 } := by simp [stepN, hl, h0]
  rw [hst]
  have e := (rL p hp).1
  have g := (rL p hp).2
  have e0 := (rM p hp).1
  have f0 := (rM p hp).2
  have e1 := (rP p hp).1
  have f1 := (rP p hp).2
  rw [hl] at e
  have hpn : (p : Int) ≤ (n : Int) - 1 := by omega
  have hb0 := hb.1.1
  have hb1 := hb.1.2
  have hb2 := hb.2.1.1
  have hb3 : s.phase p ≤ 100000 := by omega
  have hb4 := hb.2.2.1
  have hb5 : s.count ≤ 4 := by omega
  have h0b : (s.sense == s.mine p) = true := by simp [h0]
  clear hl hst hb h0
  go_enter Tryd.func30, Tryd.ntmps30
  go_wp2
  go_quiet (fail)
  all_goals go_wp2
  all_goals go_ret
  all_goals
    refine ⟨rfl, ⟨bH, cap, rfl, hcap, hLH, ?_, ?_, ?_, ?_⟩, ?_⟩
    · refine Blk.eq (((hB.drew).other hLH.symm _ _).other hLH.symm _ _) ?_
      simp
    · exact (((rL).drew).set (i := p) hp (fun j _ e => by omega) _).other _ (.inr fun j _ => by omega)
    · exact (((rM).drew).other _ (.inr fun j _ => by omega)).other _ (.inr fun j _ => by omega)
    · exact (((rP).drew).other _ (.inr fun j _ => by omega)).set (i := p) hp (fun j _ e => by omega) _
    · exact (((Only.refl _ _).drewN _).set (by simp) _ _).set (by simp) _ _

set_option maxHeartbeats 1000000 in
set_option maxRecDepth 100000 in
theorem line4stay {w : World} {n L p k : Nat} {fb : List Nat} {s : St} (h : Rep w n L fb s) (hp : p < n) (hn : n ≤ 4) (hl : s.ln p = 4) (h0 : s.sense ≠ s.mine p) :
    Calls Tryd.prog 30 #[.pointer (some ⟨L, 0, none⟩), .int .i64 p] w (Post n L fb w .nilIface (stepN n s p)) := by
  obtain ⟨bH, cap, rfl, hcap, hLH, hB, rL, rM, rP⟩ := h
  have c0 := hB.cell 0
  have c1 := hB.cell 1
  have c2 := hB.cell 2
  simp only [List.getElem?_toArray, List.getElem?_cons_zero, List.getElem?_cons_succ] at c0 c1 c2
  have d0 := hB.free 0
  have d1 := hB.free 1
  have hst : stepN n s p = s := by simp [stepN, hl, h0]
  rw [hst]
  have e := (rL p hp).1
  have g := (rL p hp).2
  have e0 := (rM p hp).1
  have f0 := (rM p hp).2
  have e1 := (rP p hp).1
  have f1 := (rP p hp).2
  rw [hl] at e
  have hpn : (p : Int) ≤ (n : Int) - 1 := by omega
  have h0b : (s.sense == s.mine p) = false := by simp [h0]
  clear hl hst h0
  go_enter Tryd.func30, Tryd.ntmps30
  go_wp2
  go_quiet (fail)
  all_goals go_wp2
  all_goals go_ret
  all_goals
    refine ⟨rfl, ⟨bH, cap, rfl, hcap, hLH, ?_, ?_, ?_, ?_⟩, ?_⟩
    · refine Blk.eq (hB.drew) ?_
      simp
    · exact (rL).drew
    · exact (rM).drew
    · exact (rP).drew
    · exact (Only.refl _ _).drewN _

theorem step_no {w : World} {n L : Nat} {fb : List Nat} {s : St} {p : Int} (h : Rep w n L fb s) (hn : n ≤ 4) (hp : p < 0 ∨ n ≤ p) :
    Calls Tryd.prog 30 #[.pointer (some ⟨L, 0, none⟩), .int .i64 p] w fun e w' => e = .returned (.iface 77 (.int .i64 1)) ∧ w = w' := by
  obtain ⟨bH, cap, rfl, hcap, hLH, hB, -⟩ := h
  have c0 := hB.cell 2
  simp only [List.getElem?_toArray, List.getElem?_cons_zero, List.getElem?_cons_succ] at c0
  by_cases hq : p < 0
  · clear hp
    go_enter Tryd.func30, Tryd.ntmps30
    go_wp2
    go_ret
    exact ⟨rfl, rfl⟩
  · have h1 : decide (p ≤ (n : Int) - 1) = false := by simp; omega
    have h0 : 0 ≤ p := by omega
    clear hp hq
    go_enter Tryd.func30, Tryd.ntmps30
    go_wp2
    go_ret
    exact ⟨rfl, rfl⟩

theorem at_any {w : World} {n L : Nat} {fb : List Nat} {s : St} (p : Int) (h : Rep w n L fb s) (hn : n ≤ 4) :
    Calls Tryd.prog 32 #[.pointer (some ⟨L, 0, none⟩), .int .i64 p] w fun e w' => e = .returned (.int .i64 (line n s p)) ∧ w = w' := by
  obtain ⟨bH, cap, rfl, hcap, hLH, hB, rL, -⟩ := h
  have c2 := hB.cell 2
  simp only [List.getElem?_toArray, List.getElem?_cons_zero, List.getElem?_cons_succ] at c2
  by_cases hp : 0 ≤ p ∧ p < n
  · obtain ⟨m, rfl⟩ := Int.eq_ofNat_of_zero_le hp.1
    rw [line_nat s (by omega)]
    have e := (rL m (by omega)).1
    have h0 : (m : Int) ≤ (n : Int) - 1 := by omega
    have h1 : m < n := by omega
    clear hp
    go_enter Tryd.func32, Tryd.ntmps32
    go_wp2
    go_ret
    exact ⟨rfl, rfl⟩
  · have e : line n s p = 0 := by unfold line; rw [if_neg hp]
    rw [e]
    by_cases hq : p < 0
    · clear hp
      go_enter Tryd.func32, Tryd.ntmps32
      go_wp2
      go_ret
      exact ⟨rfl, rfl⟩
    · have h1 : decide (p ≤ (n : Int) - 1) = false := by simp; omega
      have h0 : 0 ≤ p := by omega
      clear hp hq
      go_enter Tryd.func32, Tryd.ntmps32
      go_wp2
      go_ret
      exact ⟨rfl, rfl⟩

theorem at_of {w : World} {n L : Nat} {fb : List Nat} {s : St} {p k : Int} (hb : Rep w n L fb s) (hn : n ≤ 4) (hk : line n s p = k) :
    Calls Tryd.prog 32 #[.pointer (some ⟨L, 0, none⟩), .int .i64 p] w fun e w' => e = .returned (.int .i64 k) ∧ w = w' := by
  subst hk; exact at_any p hb hn

theorem phase_any {w : World} {n L : Nat} {fb : List Nat} {s : St} (p : Int) (h : Rep w n L fb s) (hn : n ≤ 4) :
    Calls Tryd.prog 33 #[.pointer (some ⟨L, 0, none⟩), .int .i64 p] w fun e w' => e = .returned (.int .i64 (often n s p)) ∧ w = w' := by
  obtain ⟨bH, cap, rfl, hcap, hLH, hB, rL, rM, rP⟩ := h
  have c2 := hB.cell 2
  simp only [List.getElem?_toArray, List.getElem?_cons_zero, List.getElem?_cons_succ] at c2
  by_cases hp : 0 ≤ p ∧ p < n
  · obtain ⟨m, rfl⟩ := Int.eq_ofNat_of_zero_le hp.1
    rw [often_nat s (by omega)]
    have e := (rP m (by omega)).1
    have h0 : (m : Int) ≤ (n : Int) - 1 := by omega
    have h1 : m < n := by omega
    clear hp
    go_enter Tryd.func33, Tryd.ntmps33
    go_wp2
    go_ret
    exact ⟨rfl, rfl⟩
  · have e : often n s p = -1 := by unfold often; rw [if_neg hp]
    rw [e]
    by_cases hq : p < 0
    · clear hp
      go_enter Tryd.func33, Tryd.ntmps33
      go_wp2
      go_ret
      exact ⟨rfl, rfl⟩
    · have h1 : decide (p ≤ (n : Int) - 1) = false := by simp; omega
      have h0 : 0 ≤ p := by omega
      clear hp hq
      go_enter Tryd.func33, Tryd.ntmps33
      go_wp2
      go_ret
      exact ⟨rfl, rfl⟩

theorem phase_of {w : World} {n L : Nat} {fb : List Nat} {s : St} {p k : Int} (hb : Rep w n L fb s) (hn : n ≤ 4) (hk : often n s p = k) :
    Calls Tryd.prog 33 #[.pointer (some ⟨L, 0, none⟩), .int .i64 p] w fun e w' => e = .returned (.int .i64 k) ∧ w = w' := by
  subst hk; exact phase_any p hb hn

theorem step_any {w : World} {n k L : Nat} {fb : List Nat} {s : St} (p : Int) (hb : Rep w n L fb s) (hs : Reach n k s) (hk : k ≤ 100000) :
    Calls Tryd.prog 30 #[.pointer (some ⟨L, 0, none⟩), .int .i64 p] w (Post n L fb w (told n p) (step n s p)) := by
  by_cases hp : 0 ≤ p ∧ p < n
  · obtain ⟨m, rfl⟩ := Int.eq_ofNat_of_zero_le hp.1
    have hm : m < n := by omega
    have ht : told n (m : Int) = .nilIface := by unfold told; rw [if_pos hp]
    rw [step_nat s hm, ht]
    have hf := hs.fine hm
    have hn := hs.2.1
    obtain hl | hl | hl | hl : s.ln m = 1 ∨ s.ln m = 2 ∨ s.ln m = 3 ∨ s.ln m = 4 := by omega
    · by_cases h0 : s.count - 1 = 0
      · exact line1last (k := k) hb hm hn hl h0 hf.2 hk
      · exact line1more (k := k) hb hm hn hl h0 hf.2 hk
    · exact line2 (k := k) hb hm hn hl
    · exact line3 (k := k) hb hm hn hl hf.2 hk
    · by_cases h0 : s.sense = s.mine m
      · exact line4go (k := k) hb hm hn hl h0 hf.2 hk
      · exact line4stay (k := k) hb hm hn hl h0
  · refine (step_no hb hs.2.1 (by omega)).mono ?_
    rintro e w' ⟨rfl, rfl⟩
    exact ⟨by unfold told; rw [if_neg hp], by unfold step; rw [if_neg hp]; exact hb, Only.refl _ _⟩

theorem step_of {w : World} {n k L : Nat} {fb : List Nat} {s s' : St} {p : Int} {r : Value} (hb : Rep w n L fb s) (hs : Reach n k s) (hk : k ≤ 100000) (hr : told n p = r) (he : step n s p = s') :
    Calls Tryd.prog 30 #[.pointer (some ⟨L, 0, none⟩), .int .i64 p] w (Post n L fb w r s') := by
  subst hr; subst he; exact step_any p hb hs hk
theorem told_nil {n : Nat} {p : Nat} (hp : p < n) : told n (p : Int) = .nilIface := by
  unfold told; rw [if_pos (by omega)]
end Go.Proofs.YtgkfgijmccojjaaDoor.Bar
