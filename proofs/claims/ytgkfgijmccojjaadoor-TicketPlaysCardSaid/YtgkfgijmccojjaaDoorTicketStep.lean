import Derived.Test.YtgkfgijmccojjaaDoorTicketRep
import Derived.Test.YtgkfgijmccojjaaDoorTicketPlain
namespace Go.Proofs.YtgkfgijmccojjaaDoor.Ticket
open Go.RowKit
set_option linter.unusedVariables false

/-- The lock lies at block L, in the state s; the list: the blocks that are its own. -/
def Rep (w : World) (n L : Nat) (fb : List Nat) (s : St) : Prop :=
  ∃ bH cap, fb = [L, bH] ∧ n ≤ cap ∧ L ≠ bH ∧ Blk w L #[.int .i64 (s.wd 0), .int .i64 (s.wd 1), .slice (some ⟨bH, 0, none⟩) n cap] 101 ∧
    Row w bH n (fun j => j * 2) s.ln ∧ Row w bH n (fun j => j * 2 + 1) s.mine
def told (n : Nat) (p : Int) : Value := if 0 ≤ p ∧ p < n then .nilIface else .iface 77 (.int .i64 1)
def Post (n L : Nat) (fb : List Nat) (w : World) (r : Value) (s : St) (e : Ending) (w' : World) : Prop :=
  e = .returned r ∧ Rep w' n L fb s ∧ Only fb w w'
def Made (n : Nat) (w : World) (e : Ending) (w' : World) : Prop :=
  ∃ L fb, e = .returned (.tuple #[.pointer (some ⟨L, 0, none⟩), .nilIface]) ∧ Rep w' n L fb (first n) ∧ Below w.heap.size w w' ∧ (∀ k ∈ fb, w.heap.size ≤ k ∧ k < w'.heap.size)

theorem Rep.keep {w w' : World} {n L : Nat} {fb : List Nat} {s : St} (h : Rep w n L fb s) (hk : ∀ k ∈ fb, w'.heap[k]? = w.heap[k]?) : Rep w' n L fb s := by
  obtain ⟨bH, cap, rfl, hcap, hLH, hB, rL, rM⟩ := h
  refine ⟨bH, cap, rfl, hcap, hLH, ?_, rL.keep (hk _ (by simp)), rM.keep (hk _ (by simp))⟩
  unfold Blk at *
  rw [hk L (by simp)]; exact hB




set_option maxHeartbeats 1000000 in
set_option maxRecDepth 100000 in
theorem line1 {w : World} {n L p k : Nat} {fb : List Nat} {s : St} (h : Rep w n L fb s) (hp : p < n) (hn : n ≤ 4) (hl : s.ln p = 1) (hb : 0 ≤ s.wd 0 ∧ s.wd 0 ≤ k) (hk : k ≤ 100000) :
    Calls Tryd.prog 42 #[.pointer (some ⟨L, 0, none⟩), .int .i64 p] w (Post n L fb w .nilIface (stepN s p)) := by
  obtain ⟨bH, cap, rfl, hcap, hLH, hB, rL, rM⟩ := h
  have c0 := hB.cell 0
  have c1 := hB.cell 1
  have c2 := hB.cell 2
  simp only [List.getElem?_toArray, List.getElem?_cons_zero, List.getElem?_cons_succ] at c0 c1 c2
  have d0 := hB.free 0
  have d1 := hB.free 1
  have hst : stepN s p = { s with mine := upd s.mine p (s.wd 0), ln := upd s.ln p 2, wd := upd s.wd 0 (s.wd 0 + 1), q := s.q ++ [p] } := by simp [stepN, hl]
  rw [hst]
  have e := (rL p hp).1
  have g := (rL p hp).2
  have e0 := (rM p hp).1
  have f0 := (rM p hp).2
  rw [hl] at e
  have hpn : (p : Int) ≤ (n : Int) - 1 := by omega
  have hb0 := hb.1
  have hb1 : s.wd 0 ≤ 100000 := by omega
  clear hl hst hb
  go_enter Tryd.func42, Tryd.ntmps42
  go_wp2
  go_region
  all_goals go_wp2
  all_goals go_ret
  all_goals
    refine ⟨rfl, ⟨bH, cap, rfl, hcap, hLH, ?_, ?_, ?_⟩, ?_⟩
    · refine Blk.eq (Blk.drew ((((hB.other hLH.symm _ _).other hLH.symm _ _).set 0 _))) ?_
      simp [upd]
    · exact Row.drew ((((rL).set (i := p) hp (fun j _ e => by omega) _).other _ (.inr fun j _ => by omega)).other _ (.inl hLH))
    · exact Row.drew ((((rM).other _ (.inr fun j _ => by omega)).set (i := p) hp (fun j _ e => by omega) _).other _ (.inl hLH))
    · exact Only.drew ((((Only.refl _ _).set (by simp) _ _).set (by simp) _ _).set (by simp) _ _)

set_option maxHeartbeats 1000000 in
set_option maxRecDepth 100000 in
theorem line2in {w : World} {n L p k : Nat} {fb : List Nat} {s : St} (h : Rep w n L fb s) (hp : p < n) (hn : n ≤ 4) (hl : s.ln p = 2) (h0 : s.wd 1 = s.mine p) :
    Calls Tryd.prog 42 #[.pointer (some ⟨L, 0, none⟩), .int .i64 p] w (Post n L fb w .nilIface (stepN s p)) := by
  obtain ⟨bH, cap, rfl, hcap, hLH, hB, rL, rM⟩ := h
  have c0 := hB.cell 0
  have c1 := hB.cell 1
  have c2 := hB.cell 2
  simp only [List.getElem?_toArray, List.getElem?_cons_zero, List.getElem?_cons_succ] at c0 c1 c2
  have d0 := hB.free 0
  have d1 := hB.free 1
  have hst : stepN s p = { s with ln := upd s.ln p 3 } := by simp [stepN, hl, h0]
  rw [hst]
  have e := (rL p hp).1
  have g := (rL p hp).2
  have e0 := (rM p hp).1
  have f0 := (rM p hp).2
  rw [hl] at e
  have hpn : (p : Int) ≤ (n : Int) - 1 := by omega
  have hq : (s.wd 1 == s.mine p) = true := by simp [h0]
  clear hl hst h0
  go_enter Tryd.func42, Tryd.ntmps42
  go_wp2
  go_quiet (fail)
  all_goals go_wp2
  all_goals go_ret
  all_goals
    refine ⟨rfl, ⟨bH, cap, rfl, hcap, hLH, ?_, ?_, ?_⟩, ?_⟩
    · exact (hB.drew.other hLH.symm _ _)
    · exact (rL.drew).set (i := p) hp (fun j _ e => by omega) _
    · exact (rM.drew).other _ (.inr fun j _ => by omega)
    · exact (((Only.refl _ _).drewN _).set (by simp) _ _)

set_option maxHeartbeats 1000000 in
set_option maxRecDepth 100000 in
theorem line2stay {w : World} {n L p k : Nat} {fb : List Nat} {s : St} (h : Rep w n L fb s) (hp : p < n) (hn : n ≤ 4) (hl : s.ln p = 2) (h0 : s.wd 1 ≠ s.mine p) :
    Calls Tryd.prog 42 #[.pointer (some ⟨L, 0, none⟩), .int .i64 p] w (Post n L fb w .nilIface (stepN s p)) := by
  obtain ⟨bH, cap, rfl, hcap, hLH, hB, rL, rM⟩ := h
  have c0 := hB.cell 0
  have c1 := hB.cell 1
  have c2 := hB.cell 2
  simp only [List.getElem?_toArray, List.getElem?_cons_zero, List.getElem?_cons_succ] at c0 c1 c2
  have d0 := hB.free 0
  have d1 := hB.free 1
  have hst : stepN s p = s := by simp [stepN, hl, h0]
  rw [hst]
  have e := (rL p hp).1
  have g := (rL p hp).2
  have e0 := (rM p hp).1
  have f0 := (rM p hp).2
  rw [hl] at e
  have hpn : (p : Int) ≤ (n : Int) - 1 := by omega
  have hq : (s.wd 1 == s.mine p) = false := by simp [h0]
  clear hl hst h0
  go_enter Tryd.func42, Tryd.ntmps42
  go_wp2
  go_quiet (fail)
  all_goals go_wp2
  all_goals go_ret
  all_goals
    refine ⟨rfl, ⟨bH, cap, rfl, hcap, hLH, ?_, ?_, ?_⟩, ?_⟩
    · exact hB.drew
    · exact rL.drew
    · exact rM.drew
    · exact (Only.refl _ _).drewN _

set_option maxHeartbeats 1000000 in
set_option maxRecDepth 100000 in
theorem line3 {w : World} {n L p k : Nat} {fb : List Nat} {s : St} (h : Rep w n L fb s) (hp : p < n) (hn : n ≤ 4) (hl : s.ln p = 3) :
    Calls Tryd.prog 42 #[.pointer (some ⟨L, 0, none⟩), .int .i64 p] w (Post n L fb w .nilIface (stepN s p)) := by
  obtain ⟨bH, cap, rfl, hcap, hLH, hB, rL, rM⟩ := h
  have c0 := hB.cell 0
  have c1 := hB.cell 1
  have c2 := hB.cell 2
  simp only [List.getElem?_toArray, List.getElem?_cons_zero, List.getElem?_cons_succ] at c0 c1 c2
  have d0 := hB.free 0
  have d1 := hB.free 1
  have hst : stepN s p = { s with ln := upd s.ln p 4 } := by simp [stepN, hl]
  rw [hst]
  have e := (rL p hp).1
  have g := (rL p hp).2
  have e0 := (rM p hp).1
  have f0 := (rM p hp).2
  rw [hl] at e
  have hpn : (p : Int) ≤ (n : Int) - 1 := by omega
  clear hl hst 
  go_enter Tryd.func42, Tryd.ntmps42
  go_wp2
  all_goals go_ret
  all_goals
    refine ⟨rfl, ⟨bH, cap, rfl, hcap, hLH, ?_, ?_, ?_⟩, ?_⟩
    · exact (hB.other hLH.symm _ _)
    · exact (rL).set (i := p) hp (fun j _ e => by omega) _
    · exact (rM).other _ (.inr fun j _ => by omega)
    · exact ((Only.refl _ _).set (by simp) _ _)

set_option maxHeartbeats 1000000 in
set_option maxRecDepth 100000 in
theorem line4 {w : World} {n L p k : Nat} {fb : List Nat} {s : St} (h : Rep w n L fb s) (hp : p < n) (hn : n ≤ 4) (hl : s.ln p = 4) (hb : 0 ≤ s.mine p ∧ s.mine p ≤ k) (hk : k ≤ 100000) :
    Calls Tryd.prog 42 #[.pointer (some ⟨L, 0, none⟩), .int .i64 p] w (Post n L fb w .nilIface (stepN s p)) := by
  obtain ⟨bH, cap, rfl, hcap, hLH, hB, rL, rM⟩ := h
  have c0 := hB.cell 0
  have c1 := hB.cell 1
  have c2 := hB.cell 2
  simp only [List.getElem?_toArray, List.getElem?_cons_zero, List.getElem?_cons_succ] at c0 c1 c2
  have d0 := hB.free 0
  have d1 := hB.free 1
  have hst : stepN s p = { s with wd := upd s.wd 1 (s.mine p + 1), mine := upd s.mine p 0, ln := upd s.ln p 1, q := s.q.tail } := by simp [stepN, hl]
  rw [hst]
  have e := (rL p hp).1
  have g := (rL p hp).2
  have e0 := (rM p hp).1
  have f0 := (rM p hp).2
  rw [hl] at e
  have hpn : (p : Int) ≤ (n : Int) - 1 := by omega
  have hb0 := hb.1
  have hb1 : s.mine p ≤ 100000 := by omega
  clear hl hst hb
  go_enter Tryd.func42, Tryd.ntmps42
  go_wp2
  go_region
  all_goals go_wp2
  all_goals go_ret
  all_goals
    refine ⟨rfl, ⟨bH, cap, rfl, hcap, hLH, ?_, ?_, ?_⟩, ?_⟩
    · refine Blk.eq (Blk.drew (((hB.set 1 _).other hLH.symm _ _).other hLH.symm _ _)) ?_
      simp [upd]
    · exact Row.drew (((rL.other _ (.inl hLH)).set (i := p) hp (fun j _ e => by omega) _).other _ (.inr fun j _ => by omega))
    · exact Row.drew (((rM.other _ (.inl hLH)).other _ (.inr fun j _ => by omega)).set (i := p) hp (fun j _ e => by omega) _)
    · exact Only.drew ((((Only.refl _ _).set (by simp) _ _).set (by simp) _ _).set (by simp) _ _)

theorem step_no {w : World} {n L : Nat} {fb : List Nat} {s : St} {p : Int} (h : Rep w n L fb s) (hn : n ≤ 4) (hp : p < 0 ∨ n ≤ p) :
    Calls Tryd.prog 42 #[.pointer (some ⟨L, 0, none⟩), .int .i64 p] w fun e w' => e = .returned (.iface 77 (.int .i64 1)) ∧ w = w' := by
  obtain ⟨bH, cap, rfl, hcap, hLH, hB, -⟩ := h
  have c0 := hB.cell 2
  simp only [List.getElem?_toArray, List.getElem?_cons_zero, List.getElem?_cons_succ] at c0
  by_cases hq : p < 0
  · clear hp
    go_enter Tryd.func42, Tryd.ntmps42
    go_wp2
    go_ret
    exact ⟨rfl, rfl⟩
  · have h1 : decide (p ≤ (n : Int) - 1) = false := by simp; omega
    have h0 : 0 ≤ p := by omega
    clear hp hq
    go_enter Tryd.func42, Tryd.ntmps42
    go_wp2
    go_ret
    exact ⟨rfl, rfl⟩

theorem at_any {w : World} {n L : Nat} {fb : List Nat} {s : St} (p : Int) (h : Rep w n L fb s) (hn : n ≤ 4) :
    Calls Tryd.prog 44 #[.pointer (some ⟨L, 0, none⟩), .int .i64 p] w fun e w' => e = .returned (.int .i64 (line n s p)) ∧ w = w' := by
  obtain ⟨bH, cap, rfl, hcap, hLH, hB, rL, -⟩ := h
  have c2 := hB.cell 2
  simp only [List.getElem?_toArray, List.getElem?_cons_zero, List.getElem?_cons_succ] at c2
  by_cases hp : 0 ≤ p ∧ p < n
  · obtain ⟨m, rfl⟩ := Int.eq_ofNat_of_zero_le hp.1
    rw [line_nat s (by omega)]
    have e := (rL m (by omega)).1
    have h0 : (m : Int) ≤ (n : Int) - 1 := by omega
    have h1 : m < n := by omega
    clear hp
    go_enter Tryd.func44, Tryd.ntmps44
    go_wp2
    go_ret
    exact ⟨rfl, rfl⟩
  · have e : line n s p = 0 := by unfold line; rw [if_neg hp]
    rw [e]
    by_cases hq : p < 0
    · clear hp
      go_enter Tryd.func44, Tryd.ntmps44
      go_wp2
      go_ret
      exact ⟨rfl, rfl⟩
    · have h1 : decide (p ≤ (n : Int) - 1) = false := by simp; omega
      have h0 : 0 ≤ p := by omega
      clear hp hq
      go_enter Tryd.func44, Tryd.ntmps44
      go_wp2
      go_ret
      exact ⟨rfl, rfl⟩

theorem at_of {w : World} {n L : Nat} {fb : List Nat} {s : St} {p k : Int} (hb : Rep w n L fb s) (hn : n ≤ 4) (hk : line n s p = k) :
    Calls Tryd.prog 44 #[.pointer (some ⟨L, 0, none⟩), .int .i64 p] w fun e w' => e = .returned (.int .i64 k) ∧ w = w' := by
  subst hk; exact at_any p hb hn

theorem step_any {w : World} {n k L : Nat} {fb : List Nat} {s : St} (p : Int) (hb : Rep w n L fb s) (hs : Reach n k s) (hk : k ≤ 100000) :
    Calls Tryd.prog 42 #[.pointer (some ⟨L, 0, none⟩), .int .i64 p] w (Post n L fb w (told n p) (step n s p)) := by
  by_cases hp : 0 ≤ p ∧ p < n
  · obtain ⟨m, rfl⟩ := Int.eq_ofNat_of_zero_le hp.1
    have hm : m < n := by omega
    have ht : told n (m : Int) = .nilIface := by unfold told; rw [if_pos hp]
    rw [step_nat s hm, ht]
    have hln := hs.fine hm
    have hbd := hs.bounds
    have hn := hs.2.1
    obtain hl | hl | hl | hl : s.ln m = 1 ∨ s.ln m = 2 ∨ s.ln m = 3 ∨ s.ln m = 4 := by omega
    · exact line1 (k := k) hb hm hn hl (by omega) hk
    · by_cases h0 : s.wd 1 = s.mine m
      · exact line2in (k := k) hb hm hn hl h0
      · exact line2stay (k := k) hb hm hn hl h0
    · exact line3 (k := k) hb hm hn hl
    · have := hs.ticket hm (by omega)
      exact line4 (k := k) hb hm hn hl (by omega) hk
  · refine (step_no hb hs.2.1 (by omega)).mono ?_
    rintro e w' ⟨rfl, rfl⟩
    exact ⟨by unfold told; rw [if_neg hp], by unfold step; rw [if_neg hp]; exact hb, Only.refl _ _⟩

theorem step_of {w : World} {n k L : Nat} {fb : List Nat} {s s' : St} {p : Int} {r : Value} (hb : Rep w n L fb s) (hs : Reach n k s) (hk : k ≤ 100000) (hr : told n p = r) (he : step n s p = s') :
    Calls Tryd.prog 42 #[.pointer (some ⟨L, 0, none⟩), .int .i64 p] w (Post n L fb w r s') := by
  subst hr; subst he; exact step_any p hb hs hk
theorem told_nil {n : Nat} {p : Nat} (hp : p < n) : told n (p : Int) = .nilIface := by
  unfold told; rw [if_pos (by omega)]
end Go.Proofs.YtgkfgijmccojjaaDoor.Ticket
