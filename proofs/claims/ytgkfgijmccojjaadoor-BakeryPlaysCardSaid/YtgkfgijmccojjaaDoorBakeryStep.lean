import Derived.Test.YtgkfgijmccojjaaDoorBase
import Derived.Test.YtgkfgijmccojjaaDoorBakeryPlain
import Derived.Deep.RegionHeld3
import Derived.Deep.RegionWith
import Derived.IntWalk
namespace Go.Proofs.YtgkfgijmccojjaaDoor.Bakery
open Go.RowKit
set_option linter.unusedVariables false

/-- The lock lies at block L, in the state s; the list: the blocks that are its own. -/
def Rep (w : World) (n L : Nat) (fb : List Nat) (s : St) : Prop :=
  ∃ bW bH cap, fb = [L, bW, bH] ∧ n ≤ cap ∧ L ≠ bW ∧ L ≠ bH ∧ bW ≠ bH ∧
    Blk w L #[.int .i64 n, .slice (some ⟨bW, 0, none⟩) (2 * n) (2 * n), .slice (some ⟨bH, 0, none⟩) n cap] 124 ∧
    Row w bW (2 * n) (fun j => j) s.wd ∧ Row w bH n (fun j => j * 3) s.ln ∧ Row w bH n (fun j => j * 3 + 1) s.kk ∧ Row w bH n (fun j => j * 3 + 2) s.ms
def told (n : Nat) (p : Int) : Value := if 0 ≤ p ∧ p < n then .nilIface else .iface 77 (.int .i64 1)
def Post (n L : Nat) (fb : List Nat) (w : World) (r : Value) (s : St) (e : Ending) (w' : World) : Prop :=
  e = .returned r ∧ Rep w' n L fb s ∧ OnlyG fb w w'
def Made (n : Nat) (w : World) (e : Ending) (w' : World) : Prop :=
  ∃ L fb, e = .returned (.tuple #[.pointer (some ⟨L, 0, none⟩), .nilIface]) ∧ Rep w' n L fb (first n) ∧ Below w.heap.size w w' ∧ (∀ k ∈ fb, w.heap.size ≤ k ∧ k < w'.heap.size)

theorem Rep.keep {w w' : World} {n L : Nat} {fb : List Nat} {s : St} (h : Rep w n L fb s) (hk : ∀ k ∈ fb, w'.heap[k]? = w.heap[k]?) : Rep w' n L fb s := by
  obtain ⟨bW, bH, cap, rfl, hcap, hLW, hLH, hWH, hB, rW, rL, rK, rM⟩ := h
  refine ⟨bW, bH, cap, rfl, hcap, hLW, hLH, hWH, ?_, rW.keep (hk _ (by simp)), rL.keep (hk _ (by simp)), rK.keep (hk _ (by simp)), rM.keep (hk _ (by simp))⟩
  unfold Blk at *
  rw [hk L (by simp)]; exact hB

def At (w : World) (bW : Nat) (i : Nat) (e : Ending) (w' : World) : Prop := e = .returned (.pointer (some ⟨bW, i, none⟩)) ∧ ∃ m, w' = w.drewN m
/-- The closure: where the number of a hand lies. -/
theorem number_any {w : World} {N L bW n i : Nat} {c : Nat} (hN : w.cell? ⟨N, 0, none⟩ = some (.pointer (some ⟨L, 0, none⟩))) (c0 : w.cell? ⟨L, 0, none⟩ = some (.int .i64 n)) (c1 : w.cell? ⟨L, 1, none⟩ = some (.slice (some ⟨bW, 0, none⟩) (2 * n) c))
    (hi : i < n) (hn : n ≤ 4) : Calls Tryd.prog 88 #[.int .i64 i, .pointer (some ⟨N, 0, none⟩)] w (At w bW (n + i)) := by
  have h1 : (n : Int) + i < 2 * n := by omega
  have h2 : 0 ≤ (n : Int) + i := by omega
  have h3 : (n : Int) + i ≤ 8 := by omega
  have hw : IntKind.i64.wrap ((n : Int) + i) = (n : Int) + i := IntWalk.i64_in _ (by omega)
  have h4 : n + i < 2 * n := by omega
  have h5 : ((n : Int) + i).toNat = n + i := by omega
  go_enter Tryd.func88, Tryd.ntmps88
  go_wp2
  go_quiet (fail)
  all_goals go_wp2
  go_ret
  exact ⟨rfl, _, rfl⟩
theorem number_of {w : World} {N L bW n i : Nat} {c : Nat} {k : Int} (hk : k = i) (hN : w.cell? ⟨N, 0, none⟩ = some (.pointer (some ⟨L, 0, none⟩))) (c0 : w.cell? ⟨L, 0, none⟩ = some (.int .i64 n)) (c1 : w.cell? ⟨L, 1, none⟩ = some (.slice (some ⟨bW, 0, none⟩) (2 * n) c))
    (hi : i < n) (hn : n ≤ 4) : Calls Tryd.prog 88 #[.int .i64 k, .pointer (some ⟨N, 0, none⟩)] w (At w bW (n + i)) := by
  subst hk; exact number_any hN c0 c1 hi hn
theorem number_q {w : World} {N L bW n i : Nat} {c m : Nat} {k : Int} (hk : k = i) (hN : w.cell? ⟨N, 0, none⟩ = some (.pointer (some ⟨L, 0, none⟩))) (c0 : w.cell? ⟨L, 0, none⟩ = some (.int .i64 n)) (c1 : w.cell? ⟨L, 1, none⟩ = some (.slice (some ⟨bW, 0, none⟩) (2 * n) c))
    (hi : i < n) (hn : n ≤ 4) : Calls Tryd.prog 88 #[.int .i64 k, .pointer (some ⟨N, 0, none⟩)] (w.drewN m) fun e w' => e = .returned (.pointer (some ⟨bW, n + i, none⟩)) ∧ ∃ m, w' = w.drewN m :=
  Calls.quiet_of ((number_of (w := w.drewN m) hk hN c0 c1 hi hn).mono fun _ _ h => h)

set_option maxHeartbeats 2000000 in
set_option maxRecDepth 100000 in
theorem line1 {w : World} {n L p : Nat} {fb : List Nat} {s : St} (h : Rep w n L fb s) (hp : p < n) (hn : n ≤ 4) (h1 : 1 ≤ n) (hl : s.ln p = 1) :
    Calls Tryd.prog 59 #[.pointer (some ⟨L, 0, none⟩), .int .i64 p] w (Post n L fb w .nilIface (stepN n s p)) := by
  obtain ⟨bW, bH, cap, rfl, hcap, hLW, hLH, hWH, hB, rW, rL, rK, rM⟩ := h
  have hst : stepN n s p = { wd := upd s.wd p 1, ln := upd s.ln p 2, kk := upd s.kk p 0, ms := upd s.ms p 0 } := by simp [stepN, hl]
  rw [hst]
  have c0 := hB.cell 0
  have c1 := hB.cell 1
  have c2 := hB.cell 2
  simp only [List.getElem?_toArray, List.getElem?_cons_zero, List.getElem?_cons_succ] at c0 c1 c2
  have e := (rL p hp).1
  have g := (rL p hp).2
  have e0 := (rW (p) (by omega)).1
  have f0 := (rW (p) (by omega)).2
  have e1 := (rK (p) hp).1
  have f1 := (rK (p) hp).2
  have e2 := (rM (p) hp).1
  have f2 := (rM (p) hp).2
  rw [hl] at e
  have hpn : (p : Int) ≤ (n : Int) - 1 := by omega
  have hnI : 1 ≤ (n : Int) := by omega
  clear hst 
  have hbL := hB.lt
  have hbW := World.block_lt_of_cell? (w := w) (a := ⟨bW, 0, none⟩) (rW 0 (by omega)).1
  have hbH := World.block_lt_of_cell? (w := w) (a := ⟨bH, _, none⟩) (rL p hp).1
  have hN : w.heap.size ≤ w.heap.size := Nat.le_refl _
  have hnL : w.heap.size ≠ L := Nat.ne_of_gt hbL
  have hnL' : L ≠ w.heap.size := Nat.ne_of_lt hbL
  have hnW' : bW ≠ w.heap.size := Nat.ne_of_lt hbW
  have hnH' : bH ≠ w.heap.size := Nat.ne_of_lt hbH

  have hnW : w.heap.size ≠ bW := Nat.ne_of_gt hbW
  have hnH : w.heap.size ≠ bH := Nat.ne_of_gt hbH
  have hO : OnlyG [L, bW, bH] w w := OnlyG.refl _ _
  clear hl
  go_enter Tryd.func59, Tryd.ntmps59
  go_wp2
  all_goals go_ret
  all_goals
    refine ⟨rfl, ⟨bW, bH, cap, rfl, hcap, hLW, hLH, hWH, ?_, ?_, ?_, ?_, ?_⟩, ?_⟩
    · exact (((((hB).other hLW.symm _ _).other hLH.symm _ _).other hLH.symm _ _).other hLH.symm _ _).alloc _
    · exact (((((rW).set (i := p) (by omega) (fun j _ e => e) _).other _ (.inl hWH.symm)).other _ (.inl hWH.symm)).other _ (.inl hWH.symm)).alloc (by simpa using hbW) _
    · exact (((((rL).other _ (.inl hWH)).set (i := p) hp (fun j _ e => by omega) _).other _ (.inr fun j _ => by omega)).other _ (.inr fun j _ => by omega)).alloc (by simpa using hbH) _
    · exact (((((rK).other _ (.inl hWH)).other _ (.inr fun j _ => by omega)).set (i := p) hp (fun j _ e => by omega) _).other _ (.inr fun j _ => by omega)).alloc (by simpa using hbH) _
    · exact (((((rM).other _ (.inl hWH)).other _ (.inr fun j _ => by omega)).other _ (.inr fun j _ => by omega)).set (i := p) hp (fun j _ e => by omega) _).alloc (by simpa using hbH) _
    · exact (((((hO).set (by simp) _ _).set (by simp) _ _).set (by simp) _ _).set (by simp) _ _).alloc _

set_option maxHeartbeats 2000000 in
set_option maxRecDepth 100000 in
theorem line4 {w : World} {n L p : Nat} {fb : List Nat} {s : St} (h : Rep w n L fb s) (hp : p < n) (hn : n ≤ 4) (h1 : 1 ≤ n) (hl : s.ln p = 4) :
    Calls Tryd.prog 59 #[.pointer (some ⟨L, 0, none⟩), .int .i64 p] w (Post n L fb w .nilIface (stepN n s p)) := by
  obtain ⟨bW, bH, cap, rfl, hcap, hLW, hLH, hWH, hB, rW, rL, rK, rM⟩ := h
  have hst : stepN n s p = { wd := upd s.wd p 0, ln := upd s.ln p 5, kk := upd s.kk p 0, ms := upd s.ms p 0 } := by simp [stepN, hl]
  rw [hst]
  have c0 := hB.cell 0
  have c1 := hB.cell 1
  have c2 := hB.cell 2
  simp only [List.getElem?_toArray, List.getElem?_cons_zero, List.getElem?_cons_succ] at c0 c1 c2
  have e := (rL p hp).1
  have g := (rL p hp).2
  have e0 := (rW (p) (by omega)).1
  have f0 := (rW (p) (by omega)).2
  have e1 := (rK (p) hp).1
  have f1 := (rK (p) hp).2
  have e2 := (rM (p) hp).1
  have f2 := (rM (p) hp).2
  rw [hl] at e
  have hpn : (p : Int) ≤ (n : Int) - 1 := by omega
  have hnI : 1 ≤ (n : Int) := by omega
  clear hst 
  have hbL := hB.lt
  have hbW := World.block_lt_of_cell? (w := w) (a := ⟨bW, 0, none⟩) (rW 0 (by omega)).1
  have hbH := World.block_lt_of_cell? (w := w) (a := ⟨bH, _, none⟩) (rL p hp).1
  have hN : w.heap.size ≤ w.heap.size := Nat.le_refl _
  have hnL : w.heap.size ≠ L := Nat.ne_of_gt hbL
  have hnL' : L ≠ w.heap.size := Nat.ne_of_lt hbL
  have hnW' : bW ≠ w.heap.size := Nat.ne_of_lt hbW
  have hnH' : bH ≠ w.heap.size := Nat.ne_of_lt hbH

  have hnW : w.heap.size ≠ bW := Nat.ne_of_gt hbW
  have hnH : w.heap.size ≠ bH := Nat.ne_of_gt hbH
  have hO : OnlyG [L, bW, bH] w w := OnlyG.refl _ _
  clear hl
  go_enter Tryd.func59, Tryd.ntmps59
  go_wp2
  all_goals go_ret
  all_goals
    refine ⟨rfl, ⟨bW, bH, cap, rfl, hcap, hLW, hLH, hWH, ?_, ?_, ?_, ?_, ?_⟩, ?_⟩
    · exact (((((hB).other hLW.symm _ _).other hLH.symm _ _).other hLH.symm _ _).other hLH.symm _ _).alloc _
    · exact (((((rW).set (i := p) (by omega) (fun j _ e => e) _).other _ (.inl hWH.symm)).other _ (.inl hWH.symm)).other _ (.inl hWH.symm)).alloc (by simpa using hbW) _
    · exact (((((rL).other _ (.inl hWH)).set (i := p) hp (fun j _ e => by omega) _).other _ (.inr fun j _ => by omega)).other _ (.inr fun j _ => by omega)).alloc (by simpa using hbH) _
    · exact (((((rK).other _ (.inl hWH)).other _ (.inr fun j _ => by omega)).set (i := p) hp (fun j _ e => by omega) _).other _ (.inr fun j _ => by omega)).alloc (by simpa using hbH) _
    · exact (((((rM).other _ (.inl hWH)).other _ (.inr fun j _ => by omega)).other _ (.inr fun j _ => by omega)).set (i := p) hp (fun j _ e => by omega) _).alloc (by simpa using hbH) _
    · exact (((((hO).set (by simp) _ _).set (by simp) _ _).set (by simp) _ _).set (by simp) _ _).alloc _

set_option maxHeartbeats 2000000 in
set_option maxRecDepth 100000 in
theorem line7 {w : World} {n L p : Nat} {fb : List Nat} {s : St} (h : Rep w n L fb s) (hp : p < n) (hn : n ≤ 4) (h1 : 1 ≤ n) (hl : s.ln p = 7) :
    Calls Tryd.prog 59 #[.pointer (some ⟨L, 0, none⟩), .int .i64 p] w (Post n L fb w .nilIface (stepN n s p)) := by
  obtain ⟨bW, bH, cap, rfl, hcap, hLW, hLH, hWH, hB, rW, rL, rK, rM⟩ := h
  have hst : stepN n s p = { s with ln := upd s.ln p 8 } := by simp [stepN, hl]
  rw [hst]
  have c0 := hB.cell 0
  have c1 := hB.cell 1
  have c2 := hB.cell 2
  simp only [List.getElem?_toArray, List.getElem?_cons_zero, List.getElem?_cons_succ] at c0 c1 c2
  have e := (rL p hp).1
  have g := (rL p hp).2
  rw [hl] at e
  have hpn : (p : Int) ≤ (n : Int) - 1 := by omega
  have hnI : 1 ≤ (n : Int) := by omega
  clear hst 
  have hbL := hB.lt
  have hbW := World.block_lt_of_cell? (w := w) (a := ⟨bW, 0, none⟩) (rW 0 (by omega)).1
  have hbH := World.block_lt_of_cell? (w := w) (a := ⟨bH, _, none⟩) (rL p hp).1
  have hN : w.heap.size ≤ w.heap.size := Nat.le_refl _
  have hnL : w.heap.size ≠ L := Nat.ne_of_gt hbL
  have hnL' : L ≠ w.heap.size := Nat.ne_of_lt hbL
  have hnW' : bW ≠ w.heap.size := Nat.ne_of_lt hbW
  have hnH' : bH ≠ w.heap.size := Nat.ne_of_lt hbH

  have hnW : w.heap.size ≠ bW := Nat.ne_of_gt hbW
  have hnH : w.heap.size ≠ bH := Nat.ne_of_gt hbH
  have hO : OnlyG [L, bW, bH] w w := OnlyG.refl _ _
  clear hl
  go_enter Tryd.func59, Tryd.ntmps59
  go_wp2
  all_goals go_ret
  all_goals
    refine ⟨rfl, ⟨bW, bH, cap, rfl, hcap, hLW, hLH, hWH, ?_, ?_, ?_, ?_, ?_⟩, ?_⟩
    · exact ((hB).other hLH.symm _ _).alloc _
    · exact ((rW).other _ (.inl hWH.symm)).alloc (by simpa using hbW) _
    · exact ((rL).set (i := p) hp (fun j _ e => by omega) _).alloc (by simpa using hbH) _
    · exact ((rK).other _ (.inr fun j _ => by omega)).alloc (by simpa using hbH) _
    · exact ((rM).other _ (.inr fun j _ => by omega)).alloc (by simpa using hbH) _
    · exact ((hO).set (by simp) _ _).alloc _

set_option maxHeartbeats 2000000 in
set_option maxRecDepth 100000 in
theorem line50 {w : World} {n L p : Nat} {fb : List Nat} {s : St} (h : Rep w n L fb s) (hp : p < n) (hn : n ≤ 4) (h1 : 1 ≤ n) (hl : s.ln p = 5) (hk0 : 0 ≤ s.kk p) (hk1 : s.kk p < n) (h0 : ¬ s.wd (s.kk p).toNat = 0) :
    Calls Tryd.prog 59 #[.pointer (some ⟨L, 0, none⟩), .int .i64 p] w (Post n L fb w .nilIface (stepN n s p)) := by
  obtain ⟨bW, bH, cap, rfl, hcap, hLW, hLH, hWH, hB, rW, rL, rK, rM⟩ := h
  have hst : stepN n s p = s := by simp [stepN, hl, h0]
  rw [hst]
  have c0 := hB.cell 0
  have c1 := hB.cell 1
  have c2 := hB.cell 2
  simp only [List.getElem?_toArray, List.getElem?_cons_zero, List.getElem?_cons_succ] at c0 c1 c2
  have e := (rL p hp).1
  have g := (rL p hp).2
  have e0 := (rK (p) hp).1
  have f0 := (rK (p) hp).2
  have e1 := (rW ((s.kk p).toNat) (by omega)).1
  have f1 := (rW ((s.kk p).toNat) (by omega)).2
  rw [hl] at e
  have hpn : (p : Int) ≤ (n : Int) - 1 := by omega
  have hnI : 1 ≤ (n : Int) := by omega
  have t0 : (s.wd (s.kk p).toNat == 0) = false := by simp [h0]
  have hk2 : s.kk p < 2 * n := by omega
  have hk3 : (s.kk p).toNat < 2 * n := by omega
  clear hst h0
  have hbL := hB.lt
  have hbW := World.block_lt_of_cell? (w := w) (a := ⟨bW, 0, none⟩) (rW 0 (by omega)).1
  have hbH := World.block_lt_of_cell? (w := w) (a := ⟨bH, _, none⟩) (rL p hp).1
  have hN : w.heap.size ≤ w.heap.size := Nat.le_refl _
  have hnL : w.heap.size ≠ L := Nat.ne_of_gt hbL
  have hnL' : L ≠ w.heap.size := Nat.ne_of_lt hbL
  have hnW' : bW ≠ w.heap.size := Nat.ne_of_lt hbW
  have hnH' : bH ≠ w.heap.size := Nat.ne_of_lt hbH

  have hnW : w.heap.size ≠ bW := Nat.ne_of_gt hbW
  have hnH : w.heap.size ≠ bH := Nat.ne_of_gt hbH
  have hO : OnlyG [L, bW, bH] w w := OnlyG.refl _ _
  clear hl
  go_enter Tryd.func59, Tryd.ntmps59
  go_wp2
  replace hO : OnlyG [L, bW, bH] w (w.alloc (.cells #[.pointer (some ⟨L, 0, none⟩)] 62)) := hO.alloc (.cells #[.pointer (some ⟨L, 0, none⟩)] 62)
  replace hB := hB.alloc (.cells #[.pointer (some ⟨L, 0, none⟩)] 62)
  have xW : Row (w.alloc (.cells #[.pointer (some ⟨L, 0, none⟩)] 62)) bW (2 * n) (fun j => j) s.wd := rW.alloc hbW (.cells #[.pointer (some ⟨L, 0, none⟩)] 62)
  have xL : Row (w.alloc (.cells #[.pointer (some ⟨L, 0, none⟩)] 62)) bH (n) (fun j => j * 3) s.ln := rL.alloc hbH (.cells #[.pointer (some ⟨L, 0, none⟩)] 62)
  have xK : Row (w.alloc (.cells #[.pointer (some ⟨L, 0, none⟩)] 62)) bH (n) (fun j => j * 3 + 1) s.kk := rK.alloc hbH (.cells #[.pointer (some ⟨L, 0, none⟩)] 62)
  have xM : Row (w.alloc (.cells #[.pointer (some ⟨L, 0, none⟩)] 62)) bH (n) (fun j => j * 3 + 2) s.ms := rM.alloc hbH (.cells #[.pointer (some ⟨L, 0, none⟩)] 62)
  have cN : (w.alloc (.cells #[.pointer (some ⟨L, 0, none⟩)] 62)).cell? ⟨w.heap.size, 0, none⟩ = some (.pointer (some ⟨L, 0, none⟩)) := (World.cell?_alloc_at _ _ _ _ rfl).trans rfl
  clear c0 c1 c2 e g e0 f0 e1 f1 rW rL rK rM hbW hbH hnL' hnW' hnH'
  generalize w.alloc (.cells #[.pointer (some ⟨L, 0, none⟩)] 62) = wx at *
  generalize hNN : w.heap.size = N at *
  have rW := xW
  clear xW
  have rL := xL
  clear xL
  have rK := xK
  clear xK
  have rM := xM
  clear xM
  have c0 := hB.cell 0
  have c1 := hB.cell 1
  simp only [List.getElem?_toArray, List.getElem?_cons_zero, List.getElem?_cons_succ] at c0 c1
  have e := (rL p hp).1
  have g := (rL p hp).2
  have e0 := (rK (p) hp).1
  have f0 := (rK (p) hp).2
  have e1 := (rW ((s.kk p).toNat) (by omega)).1
  have f1 := (rW ((s.kk p).toNat) (by omega)).2
  go_quiet (fail)
  all_goals go_wp2
  all_goals go_ret
  all_goals
    refine ⟨rfl, ⟨bW, bH, cap, rfl, hcap, hLW, hLH, hWH, ?_, ?_, ?_, ?_, ?_⟩, ?_⟩
    · exact Blk.drewN (hB) _
    · exact (rW).drewN _
    · exact (rL).drewN _
    · exact (rK).drewN _
    · exact (rM).drewN _
    · exact OnlyG.drewN (hO) _

set_option maxHeartbeats 2000000 in
set_option maxRecDepth 100000 in
theorem line51 {w : World} {n L p : Nat} {fb : List Nat} {s : St} (h : Rep w n L fb s) (hp : p < n) (hn : n ≤ 4) (h1 : 1 ≤ n) (hl : s.ln p = 5) (hk0 : 0 ≤ s.kk p) (hk1 : s.kk p < n) (h0 : s.wd (s.kk p).toNat = 0) :
    Calls Tryd.prog 59 #[.pointer (some ⟨L, 0, none⟩), .int .i64 p] w (Post n L fb w .nilIface (stepN n s p)) := by
  obtain ⟨bW, bH, cap, rfl, hcap, hLW, hLH, hWH, hB, rW, rL, rK, rM⟩ := h
  have hst : stepN n s p = { s with ln := upd s.ln p 6 } := by simp [stepN, hl, h0]
  rw [hst]
  have c0 := hB.cell 0
  have c1 := hB.cell 1
  have c2 := hB.cell 2
  simp only [List.getElem?_toArray, List.getElem?_cons_zero, List.getElem?_cons_succ] at c0 c1 c2
  have e := (rL p hp).1
  have g := (rL p hp).2
  have e0 := (rK (p) hp).1
  have f0 := (rK (p) hp).2
  have e1 := (rW ((s.kk p).toNat) (by omega)).1
  have f1 := (rW ((s.kk p).toNat) (by omega)).2
  rw [hl] at e
  have hpn : (p : Int) ≤ (n : Int) - 1 := by omega
  have hnI : 1 ≤ (n : Int) := by omega
  have t0 : (s.wd (s.kk p).toNat == 0) = true := by simp [h0]
  have hk2 : s.kk p < 2 * n := by omega
  have hk3 : (s.kk p).toNat < 2 * n := by omega
  clear hst h0
  have hbL := hB.lt
  have hbW := World.block_lt_of_cell? (w := w) (a := ⟨bW, 0, none⟩) (rW 0 (by omega)).1
  have hbH := World.block_lt_of_cell? (w := w) (a := ⟨bH, _, none⟩) (rL p hp).1
  have hN : w.heap.size ≤ w.heap.size := Nat.le_refl _
  have hnL : w.heap.size ≠ L := Nat.ne_of_gt hbL
  have hnL' : L ≠ w.heap.size := Nat.ne_of_lt hbL
  have hnW' : bW ≠ w.heap.size := Nat.ne_of_lt hbW
  have hnH' : bH ≠ w.heap.size := Nat.ne_of_lt hbH

  have hnW : w.heap.size ≠ bW := Nat.ne_of_gt hbW
  have hnH : w.heap.size ≠ bH := Nat.ne_of_gt hbH
  have hO : OnlyG [L, bW, bH] w w := OnlyG.refl _ _
  clear hl
  go_enter Tryd.func59, Tryd.ntmps59
  go_wp2
  replace hO : OnlyG [L, bW, bH] w (w.alloc (.cells #[.pointer (some ⟨L, 0, none⟩)] 62)) := hO.alloc (.cells #[.pointer (some ⟨L, 0, none⟩)] 62)
  replace hB := hB.alloc (.cells #[.pointer (some ⟨L, 0, none⟩)] 62)
  have xW : Row (w.alloc (.cells #[.pointer (some ⟨L, 0, none⟩)] 62)) bW (2 * n) (fun j => j) s.wd := rW.alloc hbW (.cells #[.pointer (some ⟨L, 0, none⟩)] 62)
  have xL : Row (w.alloc (.cells #[.pointer (some ⟨L, 0, none⟩)] 62)) bH (n) (fun j => j * 3) s.ln := rL.alloc hbH (.cells #[.pointer (some ⟨L, 0, none⟩)] 62)
  have xK : Row (w.alloc (.cells #[.pointer (some ⟨L, 0, none⟩)] 62)) bH (n) (fun j => j * 3 + 1) s.kk := rK.alloc hbH (.cells #[.pointer (some ⟨L, 0, none⟩)] 62)
  have xM : Row (w.alloc (.cells #[.pointer (some ⟨L, 0, none⟩)] 62)) bH (n) (fun j => j * 3 + 2) s.ms := rM.alloc hbH (.cells #[.pointer (some ⟨L, 0, none⟩)] 62)
  have cN : (w.alloc (.cells #[.pointer (some ⟨L, 0, none⟩)] 62)).cell? ⟨w.heap.size, 0, none⟩ = some (.pointer (some ⟨L, 0, none⟩)) := (World.cell?_alloc_at _ _ _ _ rfl).trans rfl
  clear c0 c1 c2 e g e0 f0 e1 f1 rW rL rK rM hbW hbH hnL' hnW' hnH'
  generalize w.alloc (.cells #[.pointer (some ⟨L, 0, none⟩)] 62) = wx at *
  generalize hNN : w.heap.size = N at *
  have rW := xW
  clear xW
  have rL := xL
  clear xL
  have rK := xK
  clear xK
  have rM := xM
  clear xM
  have c0 := hB.cell 0
  have c1 := hB.cell 1
  simp only [List.getElem?_toArray, List.getElem?_cons_zero, List.getElem?_cons_succ] at c0 c1
  have e := (rL p hp).1
  have g := (rL p hp).2
  have e0 := (rK (p) hp).1
  have f0 := (rK (p) hp).2
  have e1 := (rW ((s.kk p).toNat) (by omega)).1
  have f1 := (rW ((s.kk p).toNat) (by omega)).2
  go_quiet (fail)
  all_goals go_wp2
  all_goals go_ret
  all_goals
    refine ⟨rfl, ⟨bW, bH, cap, rfl, hcap, hLW, hLH, hWH, ?_, ?_, ?_, ?_, ?_⟩, ?_⟩
    · exact (Blk.drewN (hB) _).other hLH.symm _ _
    · exact ((rW).drewN _).other _ (.inl hWH.symm)
    · exact ((rL).drewN _).set (i := p) hp (fun j _ e => by omega) _
    · exact ((rK).drewN _).other _ (.inr fun j _ => by omega)
    · exact ((rM).drewN _).other _ (.inr fun j _ => by omega)
    · exact (OnlyG.drewN (hO) _).set (by simp) _ _

set_option maxHeartbeats 2000000 in
set_option maxRecDepth 100000 in
theorem line3 {w : World} {n L p : Nat} {fb : List Nat} {s : St} (h : Rep w n L fb s) (hp : p < n) (hn : n ≤ 4) (h1 : 1 ≤ n) (hl : s.ln p = 3) (hm0 : 0 ≤ s.ms p) (hm1 : s.ms p ≤ 100000) :
    Calls Tryd.prog 59 #[.pointer (some ⟨L, 0, none⟩), .int .i64 p] w (Post n L fb w .nilIface (stepN n s p)) := by
  obtain ⟨bW, bH, cap, rfl, hcap, hLW, hLH, hWH, hB, rW, rL, rK, rM⟩ := h
  have hst : stepN n s p = { s with wd := upd s.wd (n + p) (s.ms p + 1), ln := upd s.ln p 4 } := by simp [stepN, hl]
  rw [hst]
  have c0 := hB.cell 0
  have c1 := hB.cell 1
  have c2 := hB.cell 2
  simp only [List.getElem?_toArray, List.getElem?_cons_zero, List.getElem?_cons_succ] at c0 c1 c2
  have e := (rL p hp).1
  have g := (rL p hp).2
  have e0 := (rM (p) hp).1
  have f0 := (rM (p) hp).2
  have e1 := (rW (n + p) (by omega)).1
  have f1 := (rW (n + p) (by omega)).2
  rw [hl] at e
  have hpn : (p : Int) ≤ (n : Int) - 1 := by omega
  have hnI : 1 ≤ (n : Int) := by omega
  clear hst 
  have hbL := hB.lt
  have hbW := World.block_lt_of_cell? (w := w) (a := ⟨bW, 0, none⟩) (rW 0 (by omega)).1
  have hbH := World.block_lt_of_cell? (w := w) (a := ⟨bH, _, none⟩) (rL p hp).1
  have hN : w.heap.size ≤ w.heap.size := Nat.le_refl _
  have hnL : w.heap.size ≠ L := Nat.ne_of_gt hbL
  have hnL' : L ≠ w.heap.size := Nat.ne_of_lt hbL
  have hnW' : bW ≠ w.heap.size := Nat.ne_of_lt hbW
  have hnH' : bH ≠ w.heap.size := Nat.ne_of_lt hbH

  have hnW : w.heap.size ≠ bW := Nat.ne_of_gt hbW
  have hnH : w.heap.size ≠ bH := Nat.ne_of_gt hbH
  have hO : OnlyG [L, bW, bH] w w := OnlyG.refl _ _
  clear hl
  go_enter Tryd.func59, Tryd.ntmps59
  go_wp2
  replace hO : OnlyG [L, bW, bH] w (w.alloc (.cells #[.pointer (some ⟨L, 0, none⟩)] 62)) := hO.alloc (.cells #[.pointer (some ⟨L, 0, none⟩)] 62)
  replace hB := hB.alloc (.cells #[.pointer (some ⟨L, 0, none⟩)] 62)
  have xW : Row (w.alloc (.cells #[.pointer (some ⟨L, 0, none⟩)] 62)) bW (2 * n) (fun j => j) s.wd := rW.alloc hbW (.cells #[.pointer (some ⟨L, 0, none⟩)] 62)
  have xL : Row (w.alloc (.cells #[.pointer (some ⟨L, 0, none⟩)] 62)) bH (n) (fun j => j * 3) s.ln := rL.alloc hbH (.cells #[.pointer (some ⟨L, 0, none⟩)] 62)
  have xK : Row (w.alloc (.cells #[.pointer (some ⟨L, 0, none⟩)] 62)) bH (n) (fun j => j * 3 + 1) s.kk := rK.alloc hbH (.cells #[.pointer (some ⟨L, 0, none⟩)] 62)
  have xM : Row (w.alloc (.cells #[.pointer (some ⟨L, 0, none⟩)] 62)) bH (n) (fun j => j * 3 + 2) s.ms := rM.alloc hbH (.cells #[.pointer (some ⟨L, 0, none⟩)] 62)
  have cN : (w.alloc (.cells #[.pointer (some ⟨L, 0, none⟩)] 62)).cell? ⟨w.heap.size, 0, none⟩ = some (.pointer (some ⟨L, 0, none⟩)) := (World.cell?_alloc_at _ _ _ _ rfl).trans rfl
  clear c0 c1 c2 e g e0 f0 e1 f1 rW rL rK rM hbW hbH hnL' hnW' hnH'
  generalize w.alloc (.cells #[.pointer (some ⟨L, 0, none⟩)] 62) = wx at *
  generalize hNN : w.heap.size = N at *
  have rW := xW
  clear xW
  have rL := xL
  clear xL
  have rK := xK
  clear xK
  have rM := xM
  clear xM
  have c0 := hB.cell 0
  have c1 := hB.cell 1
  simp only [List.getElem?_toArray, List.getElem?_cons_zero, List.getElem?_cons_succ] at c0 c1
  have e := (rL p hp).1
  have g := (rL p hp).2
  have e0 := (rM (p) hp).1
  have f0 := (rM (p) hp).2
  have e1 := (rW (n + p) (by omega)).1
  have f1 := (rW (n + p) (by omega)).2
  have hw1 : IntKind.i64.wrap (s.ms p + 1) = s.ms p + 1 := IntWalk.i64_in _ (by omega)
  go_region_held3 (fun w' => w'.cell? ⟨bH, p * 3 + 2, none⟩ = some (.int .i64 (s.ms p))) (go_keep) ((go_at_call 88; refine (number_of (N := N) (L := L) (bW := bW) (n := n) (i := p) (k := (p : Int)) (c := 2 * n) ?_ ?_ ?_ ?_ ?_ hn).mono ?_; (omega); (go_simp); (go_simp); (go_simp); (omega); rintro e w' ⟨rfl, m, rfl⟩))
  all_goals go_wp2
  all_goals go_ret
  all_goals
    refine ⟨rfl, ⟨bW, bH, cap, rfl, hcap, hLW, hLH, hWH, ?_, ?_, ?_, ?_, ?_⟩, ?_⟩
    · exact ((Blk.drewN (hB) _).other hLW.symm _ _).other hLH.symm _ _
    · exact (((rW).drewN _).set (i := n + p) (by omega) (fun j _ e => e) _).other _ (.inl hWH.symm)
    · exact (((rL).drewN _).other _ (.inl hWH)).set (i := p) hp (fun j _ e => by omega) _
    · exact (((rK).drewN _).other _ (.inl hWH)).other _ (.inr fun j _ => by omega)
    · exact (((rM).drewN _).other _ (.inl hWH)).other _ (.inr fun j _ => by omega)
    · exact ((OnlyG.drewN (hO) _).set (by simp) _ _).set (by simp) _ _

set_option maxHeartbeats 2000000 in
set_option maxRecDepth 100000 in
theorem line200 {w : World} {n L p : Nat} {fb : List Nat} {s : St} (h : Rep w n L fb s) (hp : p < n) (hn : n ≤ 4) (h1 : 1 ≤ n) (hl : s.ln p = 2) (hk0 : 0 ≤ s.kk p) (hk1 : s.kk p + 1 < n) (hx : ¬ s.ms p < s.wd (n + (s.kk p).toNat)) :
    Calls Tryd.prog 59 #[.pointer (some ⟨L, 0, none⟩), .int .i64 p] w (Post n L fb w .nilIface (stepN n s p)) := by
  obtain ⟨bW, bH, cap, rfl, hcap, hLW, hLH, hWH, hB, rW, rL, rK, rM⟩ := h
  have hst : stepN n s p = { wd := s.wd, ln := s.ln, kk := upd s.kk p (s.kk p + 1), ms := upd s.ms p (s.ms p) } := by simp [stepN, hl, show max (s.ms p) (s.wd (n + (s.kk p).toNat)) = s.ms p by omega, show ¬ s.kk p + 1 = (n : Int) by omega]
  rw [hst]
  have c0 := hB.cell 0
  have c1 := hB.cell 1
  have c2 := hB.cell 2
  simp only [List.getElem?_toArray, List.getElem?_cons_zero, List.getElem?_cons_succ] at c0 c1 c2
  have e := (rL p hp).1
  have g := (rL p hp).2
  have e0 := (rK (p) hp).1
  have f0 := (rK (p) hp).2
  have e1 := (rM (p) hp).1
  have f1 := (rM (p) hp).2
  have e2 := (rW (n + (s.kk p).toNat) (by omega)).1
  have f2 := (rW (n + (s.kk p).toNat) (by omega)).2
  rw [hl] at e
  have hpn : (p : Int) ≤ (n : Int) - 1 := by omega
  have hnI : 1 ≤ (n : Int) := by omega
  have tk : (s.kk p + 1 == (n : Int)) = false := by simp; omega
  have hk2 : s.kk p < n := by omega
  have hk3 : (s.kk p).toNat < n := by omega
  clear hst 
  have hbL := hB.lt
  have hbW := World.block_lt_of_cell? (w := w) (a := ⟨bW, 0, none⟩) (rW 0 (by omega)).1
  have hbH := World.block_lt_of_cell? (w := w) (a := ⟨bH, _, none⟩) (rL p hp).1
  have hN : w.heap.size ≤ w.heap.size := Nat.le_refl _
  have hnL : w.heap.size ≠ L := Nat.ne_of_gt hbL
  have hnL' : L ≠ w.heap.size := Nat.ne_of_lt hbL
  have hnW' : bW ≠ w.heap.size := Nat.ne_of_lt hbW
  have hnH' : bH ≠ w.heap.size := Nat.ne_of_lt hbH

  have hnW : w.heap.size ≠ bW := Nat.ne_of_gt hbW
  have hnH : w.heap.size ≠ bH := Nat.ne_of_gt hbH
  have hO : OnlyG [L, bW, bH] w w := OnlyG.refl _ _
  clear hl
  go_enter Tryd.func59, Tryd.ntmps59
  go_wp2
  replace hO : OnlyG [L, bW, bH] w (w.alloc (.cells #[.pointer (some ⟨L, 0, none⟩)] 62)) := hO.alloc (.cells #[.pointer (some ⟨L, 0, none⟩)] 62)
  replace hB := hB.alloc (.cells #[.pointer (some ⟨L, 0, none⟩)] 62)
  have xW : Row (w.alloc (.cells #[.pointer (some ⟨L, 0, none⟩)] 62)) bW (2 * n) (fun j => j) s.wd := rW.alloc hbW (.cells #[.pointer (some ⟨L, 0, none⟩)] 62)
  have xL : Row (w.alloc (.cells #[.pointer (some ⟨L, 0, none⟩)] 62)) bH (n) (fun j => j * 3) s.ln := rL.alloc hbH (.cells #[.pointer (some ⟨L, 0, none⟩)] 62)
  have xK : Row (w.alloc (.cells #[.pointer (some ⟨L, 0, none⟩)] 62)) bH (n) (fun j => j * 3 + 1) s.kk := rK.alloc hbH (.cells #[.pointer (some ⟨L, 0, none⟩)] 62)
  have xM : Row (w.alloc (.cells #[.pointer (some ⟨L, 0, none⟩)] 62)) bH (n) (fun j => j * 3 + 2) s.ms := rM.alloc hbH (.cells #[.pointer (some ⟨L, 0, none⟩)] 62)
  have cN : (w.alloc (.cells #[.pointer (some ⟨L, 0, none⟩)] 62)).cell? ⟨w.heap.size, 0, none⟩ = some (.pointer (some ⟨L, 0, none⟩)) := (World.cell?_alloc_at _ _ _ _ rfl).trans rfl
  clear c0 c1 c2 e g e0 f0 e1 f1 e2 f2 rW rL rK rM hbW hbH hnL' hnW' hnH'
  generalize w.alloc (.cells #[.pointer (some ⟨L, 0, none⟩)] 62) = wx at *
  generalize hNN : w.heap.size = N at *
  have rW := xW
  clear xW
  have rL := xL
  clear xL
  have rK := xK
  clear xK
  have rM := xM
  clear xM
  have c0 := hB.cell 0
  have c1 := hB.cell 1
  simp only [List.getElem?_toArray, List.getElem?_cons_zero, List.getElem?_cons_succ] at c0 c1
  have e := (rL p hp).1
  have g := (rL p hp).2
  have e0 := (rK (p) hp).1
  have f0 := (rK (p) hp).2
  have e1 := (rM (p) hp).1
  have f1 := (rM (p) hp).2
  have e2 := (rW (n + (s.kk p).toNat) (by omega)).1
  have f2 := (rW (n + (s.kk p).toNat) (by omega)).2
  go_region_with ((go_at_call 88; refine (number_of (N := N) (L := L) (bW := bW) (n := n) (i := (s.kk p).toNat) (k := s.kk p) (c := 2 * n) ?_ ?_ ?_ ?_ ?_ hn).mono ?_; (omega); (go_simp); (go_simp); (go_simp); (omega); rintro e w' ⟨rfl, m, rfl⟩))
  all_goals go_wp2
  all_goals go_quiet (fail)
  all_goals go_wp2
  all_goals go_ret
  all_goals
    refine ⟨rfl, ⟨bW, bH, cap, rfl, hcap, hLW, hLH, hWH, ?_, ?_, ?_, ?_, ?_⟩, ?_⟩
    · exact Blk.drewN (((Blk.drewN (hB) _).other hLH.symm _ _).other hLH.symm _ _) _
    · exact ((((rW).drewN _).other _ (.inl hWH.symm)).other _ (.inl hWH.symm)).drewN _
    · exact ((((rL).drewN _).other _ (.inr fun j _ => by omega)).other _ (.inr fun j _ => by omega)).drewN _
    · exact ((((rK).drewN _).other _ (.inr fun j _ => by omega)).set (i := p) hp (fun j _ e => by omega) _).drewN _
    · exact ((((rM).drewN _).set (i := p) hp (fun j _ e => by omega) _).other _ (.inr fun j _ => by omega)).drewN _
    · exact OnlyG.drewN (((OnlyG.drewN (hO) _).set (by simp) _ _).set (by simp) _ _) _

set_option maxHeartbeats 2000000 in
set_option maxRecDepth 100000 in
theorem line201 {w : World} {n L p : Nat} {fb : List Nat} {s : St} (h : Rep w n L fb s) (hp : p < n) (hn : n ≤ 4) (h1 : 1 ≤ n) (hl : s.ln p = 2) (hk0 : 0 ≤ s.kk p) (hk1 : s.kk p + 1 = n) (hx : ¬ s.ms p < s.wd (n + (s.kk p).toNat)) :
    Calls Tryd.prog 59 #[.pointer (some ⟨L, 0, none⟩), .int .i64 p] w (Post n L fb w .nilIface (stepN n s p)) := by
  obtain ⟨bW, bH, cap, rfl, hcap, hLW, hLH, hWH, hB, rW, rL, rK, rM⟩ := h
  have hst : stepN n s p = { wd := s.wd, ln := upd s.ln p 3, kk := upd s.kk p (s.kk p + 1), ms := upd s.ms p (s.ms p) } := by simp [stepN, hl, show max (s.ms p) (s.wd (n + (s.kk p).toNat)) = s.ms p by omega, hk1]
  rw [hst]
  have c0 := hB.cell 0
  have c1 := hB.cell 1
  have c2 := hB.cell 2
  simp only [List.getElem?_toArray, List.getElem?_cons_zero, List.getElem?_cons_succ] at c0 c1 c2
  have e := (rL p hp).1
  have g := (rL p hp).2
  have e0 := (rK (p) hp).1
  have f0 := (rK (p) hp).2
  have e1 := (rM (p) hp).1
  have f1 := (rM (p) hp).2
  have e2 := (rW (n + (s.kk p).toNat) (by omega)).1
  have f2 := (rW (n + (s.kk p).toNat) (by omega)).2
  rw [hl] at e
  have hpn : (p : Int) ≤ (n : Int) - 1 := by omega
  have hnI : 1 ≤ (n : Int) := by omega
  have tk : (s.kk p + 1 == (n : Int)) = true := by simp; omega
  have hk2 : s.kk p < n := by omega
  have hk3 : (s.kk p).toNat < n := by omega
  clear hst hk1
  have hbL := hB.lt
  have hbW := World.block_lt_of_cell? (w := w) (a := ⟨bW, 0, none⟩) (rW 0 (by omega)).1
  have hbH := World.block_lt_of_cell? (w := w) (a := ⟨bH, _, none⟩) (rL p hp).1
  have hN : w.heap.size ≤ w.heap.size := Nat.le_refl _
  have hnL : w.heap.size ≠ L := Nat.ne_of_gt hbL
  have hnL' : L ≠ w.heap.size := Nat.ne_of_lt hbL
  have hnW' : bW ≠ w.heap.size := Nat.ne_of_lt hbW
  have hnH' : bH ≠ w.heap.size := Nat.ne_of_lt hbH

  have hnW : w.heap.size ≠ bW := Nat.ne_of_gt hbW
  have hnH : w.heap.size ≠ bH := Nat.ne_of_gt hbH
  have hO : OnlyG [L, bW, bH] w w := OnlyG.refl _ _
  clear hl
  go_enter Tryd.func59, Tryd.ntmps59
  go_wp2
  replace hO : OnlyG [L, bW, bH] w (w.alloc (.cells #[.pointer (some ⟨L, 0, none⟩)] 62)) := hO.alloc (.cells #[.pointer (some ⟨L, 0, none⟩)] 62)
  replace hB := hB.alloc (.cells #[.pointer (some ⟨L, 0, none⟩)] 62)
  have xW : Row (w.alloc (.cells #[.pointer (some ⟨L, 0, none⟩)] 62)) bW (2 * n) (fun j => j) s.wd := rW.alloc hbW (.cells #[.pointer (some ⟨L, 0, none⟩)] 62)
  have xL : Row (w.alloc (.cells #[.pointer (some ⟨L, 0, none⟩)] 62)) bH (n) (fun j => j * 3) s.ln := rL.alloc hbH (.cells #[.pointer (some ⟨L, 0, none⟩)] 62)
  have xK : Row (w.alloc (.cells #[.pointer (some ⟨L, 0, none⟩)] 62)) bH (n) (fun j => j * 3 + 1) s.kk := rK.alloc hbH (.cells #[.pointer (some ⟨L, 0, none⟩)] 62)
  have xM : Row (w.alloc (.cells #[.pointer (some ⟨L, 0, none⟩)] 62)) bH (n) (fun j => j * 3 + 2) s.ms := rM.alloc hbH (.cells #[.pointer (some ⟨L, 0, none⟩)] 62)
  have cN : (w.alloc (.cells #[.pointer (some ⟨L, 0, none⟩)] 62)).cell? ⟨w.heap.size, 0, none⟩ = some (.pointer (some ⟨L, 0, none⟩)) := (World.cell?_alloc_at _ _ _ _ rfl).trans rfl
  clear c0 c1 c2 e g e0 f0 e1 f1 e2 f2 rW rL rK rM hbW hbH hnL' hnW' hnH'
  generalize w.alloc (.cells #[.pointer (some ⟨L, 0, none⟩)] 62) = wx at *
  generalize hNN : w.heap.size = N at *
  have rW := xW
  clear xW
  have rL := xL
  clear xL
  have rK := xK
  clear xK
  have rM := xM
  clear xM
  have c0 := hB.cell 0
  have c1 := hB.cell 1
  simp only [List.getElem?_toArray, List.getElem?_cons_zero, List.getElem?_cons_succ] at c0 c1
  have e := (rL p hp).1
  have g := (rL p hp).2
  have e0 := (rK (p) hp).1
  have f0 := (rK (p) hp).2
  have e1 := (rM (p) hp).1
  have f1 := (rM (p) hp).2
  have e2 := (rW (n + (s.kk p).toNat) (by omega)).1
  have f2 := (rW (n + (s.kk p).toNat) (by omega)).2
  go_region_with ((go_at_call 88; refine (number_of (N := N) (L := L) (bW := bW) (n := n) (i := (s.kk p).toNat) (k := s.kk p) (c := 2 * n) ?_ ?_ ?_ ?_ ?_ hn).mono ?_; (omega); (go_simp); (go_simp); (go_simp); (omega); rintro e w' ⟨rfl, m, rfl⟩))
  all_goals go_wp2
  all_goals go_quiet (fail)
  all_goals go_wp2
  all_goals go_ret
  all_goals
    refine ⟨rfl, ⟨bW, bH, cap, rfl, hcap, hLW, hLH, hWH, ?_, ?_, ?_, ?_, ?_⟩, ?_⟩
    · exact (Blk.drewN (((Blk.drewN (hB) _).other hLH.symm _ _).other hLH.symm _ _) _).other hLH.symm _ _
    · exact (((((rW).drewN _).other _ (.inl hWH.symm)).other _ (.inl hWH.symm)).drewN _).other _ (.inl hWH.symm)
    · exact (((((rL).drewN _).other _ (.inr fun j _ => by omega)).other _ (.inr fun j _ => by omega)).drewN _).set (i := p) hp (fun j _ e => by omega) _
    · exact (((((rK).drewN _).other _ (.inr fun j _ => by omega)).set (i := p) hp (fun j _ e => by omega) _).drewN _).other _ (.inr fun j _ => by omega)
    · exact (((((rM).drewN _).set (i := p) hp (fun j _ e => by omega) _).other _ (.inr fun j _ => by omega)).drewN _).other _ (.inr fun j _ => by omega)
    · exact (OnlyG.drewN (((OnlyG.drewN (hO) _).set (by simp) _ _).set (by simp) _ _) _).set (by simp) _ _

set_option maxHeartbeats 2000000 in
set_option maxRecDepth 100000 in
theorem line210 {w : World} {n L p : Nat} {fb : List Nat} {s : St} (h : Rep w n L fb s) (hp : p < n) (hn : n ≤ 4) (h1 : 1 ≤ n) (hl : s.ln p = 2) (hk0 : 0 ≤ s.kk p) (hk1 : s.kk p + 1 < n) (hx : s.ms p < s.wd (n + (s.kk p).toNat)) :
    Calls Tryd.prog 59 #[.pointer (some ⟨L, 0, none⟩), .int .i64 p] w (Post n L fb w .nilIface (stepN n s p)) := by
  obtain ⟨bW, bH, cap, rfl, hcap, hLW, hLH, hWH, hB, rW, rL, rK, rM⟩ := h
  have hst : stepN n s p = { wd := s.wd, ln := s.ln, kk := upd s.kk p (s.kk p + 1), ms := upd s.ms p (s.wd (n + (s.kk p).toNat)) } := by simp [stepN, hl, show max (s.ms p) (s.wd (n + (s.kk p).toNat)) = s.wd (n + (s.kk p).toNat) by omega, show ¬ s.kk p + 1 = (n : Int) by omega]
  rw [hst]
  have c0 := hB.cell 0
  have c1 := hB.cell 1
  have c2 := hB.cell 2
  simp only [List.getElem?_toArray, List.getElem?_cons_zero, List.getElem?_cons_succ] at c0 c1 c2
  have e := (rL p hp).1
  have g := (rL p hp).2
  have e0 := (rK (p) hp).1
  have f0 := (rK (p) hp).2
  have e1 := (rM (p) hp).1
  have f1 := (rM (p) hp).2
  have e2 := (rW (n + (s.kk p).toNat) (by omega)).1
  have f2 := (rW (n + (s.kk p).toNat) (by omega)).2
  rw [hl] at e
  have hpn : (p : Int) ≤ (n : Int) - 1 := by omega
  have hnI : 1 ≤ (n : Int) := by omega
  have tk : (s.kk p + 1 == (n : Int)) = false := by simp; omega
  have hk2 : s.kk p < n := by omega
  have hk3 : (s.kk p).toNat < n := by omega
  clear hst 
  have hbL := hB.lt
  have hbW := World.block_lt_of_cell? (w := w) (a := ⟨bW, 0, none⟩) (rW 0 (by omega)).1
  have hbH := World.block_lt_of_cell? (w := w) (a := ⟨bH, _, none⟩) (rL p hp).1
  have hN : w.heap.size ≤ w.heap.size := Nat.le_refl _
  have hnL : w.heap.size ≠ L := Nat.ne_of_gt hbL
  have hnL' : L ≠ w.heap.size := Nat.ne_of_lt hbL
  have hnW' : bW ≠ w.heap.size := Nat.ne_of_lt hbW
  have hnH' : bH ≠ w.heap.size := Nat.ne_of_lt hbH

  have hnW : w.heap.size ≠ bW := Nat.ne_of_gt hbW
  have hnH : w.heap.size ≠ bH := Nat.ne_of_gt hbH
  have hO : OnlyG [L, bW, bH] w w := OnlyG.refl _ _
  clear hl
  go_enter Tryd.func59, Tryd.ntmps59
  go_wp2
  replace hO : OnlyG [L, bW, bH] w (w.alloc (.cells #[.pointer (some ⟨L, 0, none⟩)] 62)) := hO.alloc (.cells #[.pointer (some ⟨L, 0, none⟩)] 62)
  replace hB := hB.alloc (.cells #[.pointer (some ⟨L, 0, none⟩)] 62)
  have xW : Row (w.alloc (.cells #[.pointer (some ⟨L, 0, none⟩)] 62)) bW (2 * n) (fun j => j) s.wd := rW.alloc hbW (.cells #[.pointer (some ⟨L, 0, none⟩)] 62)
  have xL : Row (w.alloc (.cells #[.pointer (some ⟨L, 0, none⟩)] 62)) bH (n) (fun j => j * 3) s.ln := rL.alloc hbH (.cells #[.pointer (some ⟨L, 0, none⟩)] 62)
  have xK : Row (w.alloc (.cells #[.pointer (some ⟨L, 0, none⟩)] 62)) bH (n) (fun j => j * 3 + 1) s.kk := rK.alloc hbH (.cells #[.pointer (some ⟨L, 0, none⟩)] 62)
  have xM : Row (w.alloc (.cells #[.pointer (some ⟨L, 0, none⟩)] 62)) bH (n) (fun j => j * 3 + 2) s.ms := rM.alloc hbH (.cells #[.pointer (some ⟨L, 0, none⟩)] 62)
  have cN : (w.alloc (.cells #[.pointer (some ⟨L, 0, none⟩)] 62)).cell? ⟨w.heap.size, 0, none⟩ = some (.pointer (some ⟨L, 0, none⟩)) := (World.cell?_alloc_at _ _ _ _ rfl).trans rfl
  clear c0 c1 c2 e g e0 f0 e1 f1 e2 f2 rW rL rK rM hbW hbH hnL' hnW' hnH'
  generalize w.alloc (.cells #[.pointer (some ⟨L, 0, none⟩)] 62) = wx at *
  generalize hNN : w.heap.size = N at *
  have rW := xW
  clear xW
  have rL := xL
  clear xL
  have rK := xK
  clear xK
  have rM := xM
  clear xM
  have c0 := hB.cell 0
  have c1 := hB.cell 1
  simp only [List.getElem?_toArray, List.getElem?_cons_zero, List.getElem?_cons_succ] at c0 c1
  have e := (rL p hp).1
  have g := (rL p hp).2
  have e0 := (rK (p) hp).1
  have f0 := (rK (p) hp).2
  have e1 := (rM (p) hp).1
  have f1 := (rM (p) hp).2
  have e2 := (rW (n + (s.kk p).toNat) (by omega)).1
  have f2 := (rW (n + (s.kk p).toNat) (by omega)).2
  go_region_with ((go_at_call 88; refine (number_of (N := N) (L := L) (bW := bW) (n := n) (i := (s.kk p).toNat) (k := s.kk p) (c := 2 * n) ?_ ?_ ?_ ?_ ?_ hn).mono ?_; (omega); (go_simp); (go_simp); (go_simp); (omega); rintro e w' ⟨rfl, m, rfl⟩))
  all_goals go_wp2
  all_goals go_quiet (fail)
  all_goals go_wp2
  all_goals go_ret
  all_goals
    refine ⟨rfl, ⟨bW, bH, cap, rfl, hcap, hLW, hLH, hWH, ?_, ?_, ?_, ?_, ?_⟩, ?_⟩
    · exact Blk.drewN (((Blk.drewN (hB) _).other hLH.symm _ _).other hLH.symm _ _) _
    · exact ((((rW).drewN _).other _ (.inl hWH.symm)).other _ (.inl hWH.symm)).drewN _
    · exact ((((rL).drewN _).other _ (.inr fun j _ => by omega)).other _ (.inr fun j _ => by omega)).drewN _
    · exact ((((rK).drewN _).other _ (.inr fun j _ => by omega)).set (i := p) hp (fun j _ e => by omega) _).drewN _
    · exact ((((rM).drewN _).set (i := p) hp (fun j _ e => by omega) _).other _ (.inr fun j _ => by omega)).drewN _
    · exact OnlyG.drewN (((OnlyG.drewN (hO) _).set (by simp) _ _).set (by simp) _ _) _

set_option maxHeartbeats 2000000 in
set_option maxRecDepth 100000 in
theorem line211 {w : World} {n L p : Nat} {fb : List Nat} {s : St} (h : Rep w n L fb s) (hp : p < n) (hn : n ≤ 4) (h1 : 1 ≤ n) (hl : s.ln p = 2) (hk0 : 0 ≤ s.kk p) (hk1 : s.kk p + 1 = n) (hx : s.ms p < s.wd (n + (s.kk p).toNat)) :
    Calls Tryd.prog 59 #[.pointer (some ⟨L, 0, none⟩), .int .i64 p] w (Post n L fb w .nilIface (stepN n s p)) := by
  obtain ⟨bW, bH, cap, rfl, hcap, hLW, hLH, hWH, hB, rW, rL, rK, rM⟩ := h
  have hst : stepN n s p = { wd := s.wd, ln := upd s.ln p 3, kk := upd s.kk p (s.kk p + 1), ms := upd s.ms p (s.wd (n + (s.kk p).toNat)) } := by simp [stepN, hl, show max (s.ms p) (s.wd (n + (s.kk p).toNat)) = s.wd (n + (s.kk p).toNat) by omega, hk1]
  rw [hst]
  have c0 := hB.cell 0
  have c1 := hB.cell 1
  have c2 := hB.cell 2
  simp only [List.getElem?_toArray, List.getElem?_cons_zero, List.getElem?_cons_succ] at c0 c1 c2
  have e := (rL p hp).1
  have g := (rL p hp).2
  have e0 := (rK (p) hp).1
  have f0 := (rK (p) hp).2
  have e1 := (rM (p) hp).1
  have f1 := (rM (p) hp).2
  have e2 := (rW (n + (s.kk p).toNat) (by omega)).1
  have f2 := (rW (n + (s.kk p).toNat) (by omega)).2
  rw [hl] at e
  have hpn : (p : Int) ≤ (n : Int) - 1 := by omega
  have hnI : 1 ≤ (n : Int) := by omega
  have tk : (s.kk p + 1 == (n : Int)) = true := by simp; omega
  have hk2 : s.kk p < n := by omega
  have hk3 : (s.kk p).toNat < n := by omega
  clear hst hk1
  have hbL := hB.lt
  have hbW := World.block_lt_of_cell? (w := w) (a := ⟨bW, 0, none⟩) (rW 0 (by omega)).1
  have hbH := World.block_lt_of_cell? (w := w) (a := ⟨bH, _, none⟩) (rL p hp).1
  have hN : w.heap.size ≤ w.heap.size := Nat.le_refl _
  have hnL : w.heap.size ≠ L := Nat.ne_of_gt hbL
  have hnL' : L ≠ w.heap.size := Nat.ne_of_lt hbL
  have hnW' : bW ≠ w.heap.size := Nat.ne_of_lt hbW
  have hnH' : bH ≠ w.heap.size := Nat.ne_of_lt hbH

  have hnW : w.heap.size ≠ bW := Nat.ne_of_gt hbW
  have hnH : w.heap.size ≠ bH := Nat.ne_of_gt hbH
  have hO : OnlyG [L, bW, bH] w w := OnlyG.refl _ _
  clear hl
  go_enter Tryd.func59, Tryd.ntmps59
  go_wp2
  replace hO : OnlyG [L, bW, bH] w (w.alloc (.cells #[.pointer (some ⟨L, 0, none⟩)] 62)) := hO.alloc (.cells #[.pointer (some ⟨L, 0, none⟩)] 62)
  replace hB := hB.alloc (.cells #[.pointer (some ⟨L, 0, none⟩)] 62)
  have xW : Row (w.alloc (.cells #[.pointer (some ⟨L, 0, none⟩)] 62)) bW (2 * n) (fun j => j) s.wd := rW.alloc hbW (.cells #[.pointer (some ⟨L, 0, none⟩)] 62)
  have xL : Row (w.alloc (.cells #[.pointer (some ⟨L, 0, none⟩)] 62)) bH (n) (fun j => j * 3) s.ln := rL.alloc hbH (.cells #[.pointer (some ⟨L, 0, none⟩)] 62)
  have xK : Row (w.alloc (.cells #[.pointer (some ⟨L, 0, none⟩)] 62)) bH (n) (fun j => j * 3 + 1) s.kk := rK.alloc hbH (.cells #[.pointer (some ⟨L, 0, none⟩)] 62)
  have xM : Row (w.alloc (.cells #[.pointer (some ⟨L, 0, none⟩)] 62)) bH (n) (fun j => j * 3 + 2) s.ms := rM.alloc hbH (.cells #[.pointer (some ⟨L, 0, none⟩)] 62)
  have cN : (w.alloc (.cells #[.pointer (some ⟨L, 0, none⟩)] 62)).cell? ⟨w.heap.size, 0, none⟩ = some (.pointer (some ⟨L, 0, none⟩)) := (World.cell?_alloc_at _ _ _ _ rfl).trans rfl
  clear c0 c1 c2 e g e0 f0 e1 f1 e2 f2 rW rL rK rM hbW hbH hnL' hnW' hnH'
  generalize w.alloc (.cells #[.pointer (some ⟨L, 0, none⟩)] 62) = wx at *
  generalize hNN : w.heap.size = N at *
  have rW := xW
  clear xW
  have rL := xL
  clear xL
  have rK := xK
  clear xK
  have rM := xM
  clear xM
  have c0 := hB.cell 0
  have c1 := hB.cell 1
  simp only [List.getElem?_toArray, List.getElem?_cons_zero, List.getElem?_cons_succ] at c0 c1
  have e := (rL p hp).1
  have g := (rL p hp).2
  have e0 := (rK (p) hp).1
  have f0 := (rK (p) hp).2
  have e1 := (rM (p) hp).1
  have f1 := (rM (p) hp).2
  have e2 := (rW (n + (s.kk p).toNat) (by omega)).1
  have f2 := (rW (n + (s.kk p).toNat) (by omega)).2
  go_region_with ((go_at_call 88; refine (number_of (N := N) (L := L) (bW := bW) (n := n) (i := (s.kk p).toNat) (k := s.kk p) (c := 2 * n) ?_ ?_ ?_ ?_ ?_ hn).mono ?_; (omega); (go_simp); (go_simp); (go_simp); (omega); rintro e w' ⟨rfl, m, rfl⟩))
  all_goals go_wp2
  all_goals go_quiet (fail)
  all_goals go_wp2
  all_goals go_ret
  all_goals
    refine ⟨rfl, ⟨bW, bH, cap, rfl, hcap, hLW, hLH, hWH, ?_, ?_, ?_, ?_, ?_⟩, ?_⟩
    · exact (Blk.drewN (((Blk.drewN (hB) _).other hLH.symm _ _).other hLH.symm _ _) _).other hLH.symm _ _
    · exact (((((rW).drewN _).other _ (.inl hWH.symm)).other _ (.inl hWH.symm)).drewN _).other _ (.inl hWH.symm)
    · exact (((((rL).drewN _).other _ (.inr fun j _ => by omega)).other _ (.inr fun j _ => by omega)).drewN _).set (i := p) hp (fun j _ e => by omega) _
    · exact (((((rK).drewN _).other _ (.inr fun j _ => by omega)).set (i := p) hp (fun j _ e => by omega) _).drewN _).other _ (.inr fun j _ => by omega)
    · exact (((((rM).drewN _).set (i := p) hp (fun j _ e => by omega) _).other _ (.inr fun j _ => by omega)).drewN _).other _ (.inr fun j _ => by omega)
    · exact (OnlyG.drewN (((OnlyG.drewN (hO) _).set (by simp) _ _).set (by simp) _ _) _).set (by simp) _ _

set_option maxHeartbeats 2000000 in
set_option maxRecDepth 100000 in
theorem line6a0 {w : World} {n L p : Nat} {fb : List Nat} {s : St} (h : Rep w n L fb s) (hp : p < n) (hn : n ≤ 4) (h1 : 1 ≤ n) (hl : s.ln p = 6) (hk0 : 0 ≤ s.kk p) (hk1 : s.kk p + 1 < n) (hx : s.wd (n + (s.kk p).toNat) = 0) :
    Calls Tryd.prog 59 #[.pointer (some ⟨L, 0, none⟩), .int .i64 p] w (Post n L fb w .nilIface (stepN n s p)) := by
  obtain ⟨bW, bH, cap, rfl, hcap, hLW, hLH, hWH, hB, rW, rL, rK, rM⟩ := h
  have hst : stepN n s p = { s with ln := upd s.ln p 5, kk := upd s.kk p (s.kk p + 1) } := by unfold stepN; rw [if_neg (by omega), if_neg (by omega), if_neg (by omega), if_neg (by omega), if_neg (by omega), if_pos hl, if_pos (show (s.wd (n + (s.kk p).toNat) = 0 ∨ s.wd (n + p) < s.wd (n + (s.kk p).toNat) ∨ (s.wd (n + (s.kk p).toNat) = s.wd (n + p) ∧ (p : Int) ≤ s.kk p)) by omega), if_neg (show ¬ s.kk p + 1 = (n : Int) by omega)]
  rw [hst]
  have c0 := hB.cell 0
  have c1 := hB.cell 1
  have c2 := hB.cell 2
  simp only [List.getElem?_toArray, List.getElem?_cons_zero, List.getElem?_cons_succ] at c0 c1 c2
  have e := (rL p hp).1
  have g := (rL p hp).2
  have e0 := (rK (p) hp).1
  have f0 := (rK (p) hp).2
  have e1 := (rW (n + p) (by omega)).1
  have f1 := (rW (n + p) (by omega)).2
  have e2 := (rW (n + (s.kk p).toNat) (by omega)).1
  have f2 := (rW (n + (s.kk p).toNat) (by omega)).2
  rw [hl] at e
  have hpn : (p : Int) ≤ (n : Int) - 1 := by omega
  have hnI : 1 ≤ (n : Int) := by omega
  have t1 : (s.wd (n + (s.kk p).toNat) == 0) = true := by first | (simp; done) | (simp; omega) | omega
  have hk2 : s.kk p < n := by omega
  have hk3 : (s.kk p).toNat < n := by omega
  have tk : (s.kk p + 1 == (n : Int)) = false := by simp; omega
  clear hst hx
  have hbL := hB.lt
  have hbW := World.block_lt_of_cell? (w := w) (a := ⟨bW, 0, none⟩) (rW 0 (by omega)).1
  have hbH := World.block_lt_of_cell? (w := w) (a := ⟨bH, _, none⟩) (rL p hp).1
  have hN : w.heap.size ≤ w.heap.size := Nat.le_refl _
  have hnL : w.heap.size ≠ L := Nat.ne_of_gt hbL
  have hnL' : L ≠ w.heap.size := Nat.ne_of_lt hbL
  have hnW' : bW ≠ w.heap.size := Nat.ne_of_lt hbW
  have hnH' : bH ≠ w.heap.size := Nat.ne_of_lt hbH

  have hnW : w.heap.size ≠ bW := Nat.ne_of_gt hbW
  have hnH : w.heap.size ≠ bH := Nat.ne_of_gt hbH
  have hO : OnlyG [L, bW, bH] w w := OnlyG.refl _ _
  clear hl
  go_enter Tryd.func59, Tryd.ntmps59
  go_wp2
  replace hO : OnlyG [L, bW, bH] w (w.alloc (.cells #[.pointer (some ⟨L, 0, none⟩)] 62)) := hO.alloc (.cells #[.pointer (some ⟨L, 0, none⟩)] 62)
  replace hB := hB.alloc (.cells #[.pointer (some ⟨L, 0, none⟩)] 62)
  have xW : Row (w.alloc (.cells #[.pointer (some ⟨L, 0, none⟩)] 62)) bW (2 * n) (fun j => j) s.wd := rW.alloc hbW (.cells #[.pointer (some ⟨L, 0, none⟩)] 62)
  have xL : Row (w.alloc (.cells #[.pointer (some ⟨L, 0, none⟩)] 62)) bH (n) (fun j => j * 3) s.ln := rL.alloc hbH (.cells #[.pointer (some ⟨L, 0, none⟩)] 62)
  have xK : Row (w.alloc (.cells #[.pointer (some ⟨L, 0, none⟩)] 62)) bH (n) (fun j => j * 3 + 1) s.kk := rK.alloc hbH (.cells #[.pointer (some ⟨L, 0, none⟩)] 62)
  have xM : Row (w.alloc (.cells #[.pointer (some ⟨L, 0, none⟩)] 62)) bH (n) (fun j => j * 3 + 2) s.ms := rM.alloc hbH (.cells #[.pointer (some ⟨L, 0, none⟩)] 62)
  have cN : (w.alloc (.cells #[.pointer (some ⟨L, 0, none⟩)] 62)).cell? ⟨w.heap.size, 0, none⟩ = some (.pointer (some ⟨L, 0, none⟩)) := (World.cell?_alloc_at _ _ _ _ rfl).trans rfl
  clear c0 c1 c2 e g e0 f0 e1 f1 e2 f2 rW rL rK rM hbW hbH hnL' hnW' hnH'
  generalize w.alloc (.cells #[.pointer (some ⟨L, 0, none⟩)] 62) = wx at *
  generalize hNN : w.heap.size = N at *
  have rW := xW
  clear xW
  have rL := xL
  clear xL
  have rK := xK
  clear xK
  have rM := xM
  clear xM
  have c0 := hB.cell 0
  have c1 := hB.cell 1
  simp only [List.getElem?_toArray, List.getElem?_cons_zero, List.getElem?_cons_succ] at c0 c1
  have e := (rL p hp).1
  have g := (rL p hp).2
  have e0 := (rK (p) hp).1
  have f0 := (rK (p) hp).2
  have e1 := (rW (n + p) (by omega)).1
  have f1 := (rW (n + p) (by omega)).2
  have e2 := (rW (n + (s.kk p).toNat) (by omega)).1
  have f2 := (rW (n + (s.kk p).toNat) (by omega)).2
  go_quiet ((go_at_call 88; first | ((with_reducible refine number_q (i := (s.kk p).toNat) (k := s.kk p) ?_ cN c0 c1 ?_ hn) <;> omega) | ((with_reducible refine number_q (i := p) (k := (p : Int)) ?_ cN c0 c1 ?_ hn) <;> omega)))
  all_goals go_wp2
  all_goals go_quiet (fail)
  all_goals go_wp2
  all_goals go_ret
  all_goals
    refine ⟨rfl, ⟨bW, bH, cap, rfl, hcap, hLW, hLH, hWH, ?_, ?_, ?_, ?_, ?_⟩, ?_⟩
    · exact Blk.drewN (((Blk.drewN (hB) _).other hLH.symm _ _).other hLH.symm _ _) _
    · exact ((((rW).drewN _).other _ (.inl hWH.symm)).other _ (.inl hWH.symm)).drewN _
    · exact ((((rL).drewN _).set (i := p) hp (fun j _ e => by omega) _).other _ (.inr fun j _ => by omega)).drewN _
    · exact ((((rK).drewN _).other _ (.inr fun j _ => by omega)).set (i := p) hp (fun j _ e => by omega) _).drewN _
    · exact ((((rM).drewN _).other _ (.inr fun j _ => by omega)).other _ (.inr fun j _ => by omega)).drewN _
    · exact OnlyG.drewN (((OnlyG.drewN (hO) _).set (by simp) _ _).set (by simp) _ _) _

set_option maxHeartbeats 2000000 in
set_option maxRecDepth 100000 in
theorem line6a1 {w : World} {n L p : Nat} {fb : List Nat} {s : St} (h : Rep w n L fb s) (hp : p < n) (hn : n ≤ 4) (h1 : 1 ≤ n) (hl : s.ln p = 6) (hk0 : 0 ≤ s.kk p) (hk1 : s.kk p + 1 = n) (hx : s.wd (n + (s.kk p).toNat) = 0) :
    Calls Tryd.prog 59 #[.pointer (some ⟨L, 0, none⟩), .int .i64 p] w (Post n L fb w .nilIface (stepN n s p)) := by
  obtain ⟨bW, bH, cap, rfl, hcap, hLW, hLH, hWH, hB, rW, rL, rK, rM⟩ := h
  have hst : stepN n s p = { s with ln := upd s.ln p 7, kk := upd s.kk p (s.kk p + 1) } := by unfold stepN; rw [if_neg (by omega), if_neg (by omega), if_neg (by omega), if_neg (by omega), if_neg (by omega), if_pos hl, if_pos (show (s.wd (n + (s.kk p).toNat) = 0 ∨ s.wd (n + p) < s.wd (n + (s.kk p).toNat) ∨ (s.wd (n + (s.kk p).toNat) = s.wd (n + p) ∧ (p : Int) ≤ s.kk p)) by omega), if_pos hk1]
  rw [hst]
  have c0 := hB.cell 0
  have c1 := hB.cell 1
  have c2 := hB.cell 2
  simp only [List.getElem?_toArray, List.getElem?_cons_zero, List.getElem?_cons_succ] at c0 c1 c2
  have e := (rL p hp).1
  have g := (rL p hp).2
  have e0 := (rK (p) hp).1
  have f0 := (rK (p) hp).2
  have e1 := (rW (n + p) (by omega)).1
  have f1 := (rW (n + p) (by omega)).2
  have e2 := (rW (n + (s.kk p).toNat) (by omega)).1
  have f2 := (rW (n + (s.kk p).toNat) (by omega)).2
  rw [hl] at e
  have hpn : (p : Int) ≤ (n : Int) - 1 := by omega
  have hnI : 1 ≤ (n : Int) := by omega
  have t1 : (s.wd (n + (s.kk p).toNat) == 0) = true := by first | (simp; done) | (simp; omega) | omega
  have hk2 : s.kk p < n := by omega
  have hk3 : (s.kk p).toNat < n := by omega
  have tk : (s.kk p + 1 == (n : Int)) = true := by simp; omega
  clear hst hx hk1
  have hbL := hB.lt
  have hbW := World.block_lt_of_cell? (w := w) (a := ⟨bW, 0, none⟩) (rW 0 (by omega)).1
  have hbH := World.block_lt_of_cell? (w := w) (a := ⟨bH, _, none⟩) (rL p hp).1
  have hN : w.heap.size ≤ w.heap.size := Nat.le_refl _
  have hnL : w.heap.size ≠ L := Nat.ne_of_gt hbL
  have hnL' : L ≠ w.heap.size := Nat.ne_of_lt hbL
  have hnW' : bW ≠ w.heap.size := Nat.ne_of_lt hbW
  have hnH' : bH ≠ w.heap.size := Nat.ne_of_lt hbH

  have hnW : w.heap.size ≠ bW := Nat.ne_of_gt hbW
  have hnH : w.heap.size ≠ bH := Nat.ne_of_gt hbH
  have hO : OnlyG [L, bW, bH] w w := OnlyG.refl _ _
  clear hl
  go_enter Tryd.func59, Tryd.ntmps59
  go_wp2
  replace hO : OnlyG [L, bW, bH] w (w.alloc (.cells #[.pointer (some ⟨L, 0, none⟩)] 62)) := hO.alloc (.cells #[.pointer (some ⟨L, 0, none⟩)] 62)
  replace hB := hB.alloc (.cells #[.pointer (some ⟨L, 0, none⟩)] 62)
  have xW : Row (w.alloc (.cells #[.pointer (some ⟨L, 0, none⟩)] 62)) bW (2 * n) (fun j => j) s.wd := rW.alloc hbW (.cells #[.pointer (some ⟨L, 0, none⟩)] 62)
  have xL : Row (w.alloc (.cells #[.pointer (some ⟨L, 0, none⟩)] 62)) bH (n) (fun j => j * 3) s.ln := rL.alloc hbH (.cells #[.pointer (some ⟨L, 0, none⟩)] 62)
  have xK : Row (w.alloc (.cells #[.pointer (some ⟨L, 0, none⟩)] 62)) bH (n) (fun j => j * 3 + 1) s.kk := rK.alloc hbH (.cells #[.pointer (some ⟨L, 0, none⟩)] 62)
  have xM : Row (w.alloc (.cells #[.pointer (some ⟨L, 0, none⟩)] 62)) bH (n) (fun j => j * 3 + 2) s.ms := rM.alloc hbH (.cells #[.pointer (some ⟨L, 0, none⟩)] 62)
  have cN : (w.alloc (.cells #[.pointer (some ⟨L, 0, none⟩)] 62)).cell? ⟨w.heap.size, 0, none⟩ = some (.pointer (some ⟨L, 0, none⟩)) := (World.cell?_alloc_at _ _ _ _ rfl).trans rfl
  clear c0 c1 c2 e g e0 f0 e1 f1 e2 f2 rW rL rK rM hbW hbH hnL' hnW' hnH'
  generalize w.alloc (.cells #[.pointer (some ⟨L, 0, none⟩)] 62) = wx at *
  generalize hNN : w.heap.size = N at *
  have rW := xW
  clear xW
  have rL := xL
  clear xL
  have rK := xK
  clear xK
  have rM := xM
  clear xM
  have c0 := hB.cell 0
  have c1 := hB.cell 1
  simp only [List.getElem?_toArray, List.getElem?_cons_zero, List.getElem?_cons_succ] at c0 c1
  have e := (rL p hp).1
  have g := (rL p hp).2
  have e0 := (rK (p) hp).1
  have f0 := (rK (p) hp).2
  have e1 := (rW (n + p) (by omega)).1
  have f1 := (rW (n + p) (by omega)).2
  have e2 := (rW (n + (s.kk p).toNat) (by omega)).1
  have f2 := (rW (n + (s.kk p).toNat) (by omega)).2
  go_quiet ((go_at_call 88; first | ((with_reducible refine number_q (i := (s.kk p).toNat) (k := s.kk p) ?_ cN c0 c1 ?_ hn) <;> omega) | ((with_reducible refine number_q (i := p) (k := (p : Int)) ?_ cN c0 c1 ?_ hn) <;> omega)))
  all_goals go_wp2
  all_goals go_quiet (fail)
  all_goals go_wp2
  all_goals go_ret
  all_goals
    refine ⟨rfl, ⟨bW, bH, cap, rfl, hcap, hLW, hLH, hWH, ?_, ?_, ?_, ?_, ?_⟩, ?_⟩
    · exact (Blk.drewN (((Blk.drewN (hB) _).other hLH.symm _ _).other hLH.symm _ _) _).other hLH.symm _ _
    · exact (((((rW).drewN _).other _ (.inl hWH.symm)).other _ (.inl hWH.symm)).drewN _).other _ (.inl hWH.symm)
    · refine Row.re ((((((rL).drewN _).set (i := p) hp (fun j _ e => by omega) _).other _ (.inr fun j _ => by omega)).drewN _).set (i := p) hp (fun j _ e => by omega) _) ?_
      simp only [upd_upd]
    · exact (((((rK).drewN _).other _ (.inr fun j _ => by omega)).set (i := p) hp (fun j _ e => by omega) _).drewN _).other _ (.inr fun j _ => by omega)
    · exact (((((rM).drewN _).other _ (.inr fun j _ => by omega)).other _ (.inr fun j _ => by omega)).drewN _).other _ (.inr fun j _ => by omega)
    · exact (OnlyG.drewN (((OnlyG.drewN (hO) _).set (by simp) _ _).set (by simp) _ _) _).set (by simp) _ _

set_option maxHeartbeats 2000000 in
set_option maxRecDepth 100000 in
theorem line6b0 {w : World} {n L p : Nat} {fb : List Nat} {s : St} (h : Rep w n L fb s) (hp : p < n) (hn : n ≤ 4) (h1 : 1 ≤ n) (hl : s.ln p = 6) (hk0 : 0 ≤ s.kk p) (hk1 : s.kk p + 1 < n) (hx : s.wd (n + (s.kk p).toNat) ≠ 0 ∧ s.wd (n + p) < s.wd (n + (s.kk p).toNat)) :
    Calls Tryd.prog 59 #[.pointer (some ⟨L, 0, none⟩), .int .i64 p] w (Post n L fb w .nilIface (stepN n s p)) := by
  obtain ⟨bW, bH, cap, rfl, hcap, hLW, hLH, hWH, hB, rW, rL, rK, rM⟩ := h
  have hst : stepN n s p = { s with ln := upd s.ln p 5, kk := upd s.kk p (s.kk p + 1) } := by unfold stepN; rw [if_neg (by omega), if_neg (by omega), if_neg (by omega), if_neg (by omega), if_neg (by omega), if_pos hl, if_pos (show (s.wd (n + (s.kk p).toNat) = 0 ∨ s.wd (n + p) < s.wd (n + (s.kk p).toNat) ∨ (s.wd (n + (s.kk p).toNat) = s.wd (n + p) ∧ (p : Int) ≤ s.kk p)) by omega), if_neg (show ¬ s.kk p + 1 = (n : Int) by omega)]
  rw [hst]
  have c0 := hB.cell 0
  have c1 := hB.cell 1
  have c2 := hB.cell 2
  simp only [List.getElem?_toArray, List.getElem?_cons_zero, List.getElem?_cons_succ] at c0 c1 c2
  have e := (rL p hp).1
  have g := (rL p hp).2
  have e0 := (rK (p) hp).1
  have f0 := (rK (p) hp).2
  have e1 := (rW (n + p) (by omega)).1
  have f1 := (rW (n + p) (by omega)).2
  have e2 := (rW (n + (s.kk p).toNat) (by omega)).1
  have f2 := (rW (n + (s.kk p).toNat) (by omega)).2
  rw [hl] at e
  have hpn : (p : Int) ≤ (n : Int) - 1 := by omega
  have hnI : 1 ≤ (n : Int) := by omega
  have t1 : (s.wd (n + (s.kk p).toNat) == 0) = false := by first | (simp; done) | (simp; omega) | omega
  have t2 : decide (s.wd (n + p) < s.wd (n + (s.kk p).toNat)) = true := by first | (simp; done) | (simp; omega) | omega
  have hk2 : s.kk p < n := by omega
  have hk3 : (s.kk p).toNat < n := by omega
  have tk : (s.kk p + 1 == (n : Int)) = false := by simp; omega
  clear hst hx
  have hbL := hB.lt
  have hbW := World.block_lt_of_cell? (w := w) (a := ⟨bW, 0, none⟩) (rW 0 (by omega)).1
  have hbH := World.block_lt_of_cell? (w := w) (a := ⟨bH, _, none⟩) (rL p hp).1
  have hN : w.heap.size ≤ w.heap.size := Nat.le_refl _
  have hnL : w.heap.size ≠ L := Nat.ne_of_gt hbL
  have hnL' : L ≠ w.heap.size := Nat.ne_of_lt hbL
  have hnW' : bW ≠ w.heap.size := Nat.ne_of_lt hbW
  have hnH' : bH ≠ w.heap.size := Nat.ne_of_lt hbH

  have hnW : w.heap.size ≠ bW := Nat.ne_of_gt hbW
  have hnH : w.heap.size ≠ bH := Nat.ne_of_gt hbH
  have hO : OnlyG [L, bW, bH] w w := OnlyG.refl _ _
  clear hl
  go_enter Tryd.func59, Tryd.ntmps59
  go_wp2
  replace hO : OnlyG [L, bW, bH] w (w.alloc (.cells #[.pointer (some ⟨L, 0, none⟩)] 62)) := hO.alloc (.cells #[.pointer (some ⟨L, 0, none⟩)] 62)
  replace hB := hB.alloc (.cells #[.pointer (some ⟨L, 0, none⟩)] 62)
  have xW : Row (w.alloc (.cells #[.pointer (some ⟨L, 0, none⟩)] 62)) bW (2 * n) (fun j => j) s.wd := rW.alloc hbW (.cells #[.pointer (some ⟨L, 0, none⟩)] 62)
  have xL : Row (w.alloc (.cells #[.pointer (some ⟨L, 0, none⟩)] 62)) bH (n) (fun j => j * 3) s.ln := rL.alloc hbH (.cells #[.pointer (some ⟨L, 0, none⟩)] 62)
  have xK : Row (w.alloc (.cells #[.pointer (some ⟨L, 0, none⟩)] 62)) bH (n) (fun j => j * 3 + 1) s.kk := rK.alloc hbH (.cells #[.pointer (some ⟨L, 0, none⟩)] 62)
  have xM : Row (w.alloc (.cells #[.pointer (some ⟨L, 0, none⟩)] 62)) bH (n) (fun j => j * 3 + 2) s.ms := rM.alloc hbH (.cells #[.pointer (some ⟨L, 0, none⟩)] 62)
  have cN : (w.alloc (.cells #[.pointer (some ⟨L, 0, none⟩)] 62)).cell? ⟨w.heap.size, 0, none⟩ = some (.pointer (some ⟨L, 0, none⟩)) := (World.cell?_alloc_at _ _ _ _ rfl).trans rfl
  clear c0 c1 c2 e g e0 f0 e1 f1 e2 f2 rW rL rK rM hbW hbH hnL' hnW' hnH'
  generalize w.alloc (.cells #[.pointer (some ⟨L, 0, none⟩)] 62) = wx at *
  generalize hNN : w.heap.size = N at *
  have rW := xW
  clear xW
  have rL := xL
  clear xL
  have rK := xK
  clear xK
  have rM := xM
  clear xM
  have c0 := hB.cell 0
  have c1 := hB.cell 1
  simp only [List.getElem?_toArray, List.getElem?_cons_zero, List.getElem?_cons_succ] at c0 c1
  have e := (rL p hp).1
  have g := (rL p hp).2
  have e0 := (rK (p) hp).1
  have f0 := (rK (p) hp).2
  have e1 := (rW (n + p) (by omega)).1
  have f1 := (rW (n + p) (by omega)).2
  have e2 := (rW (n + (s.kk p).toNat) (by omega)).1
  have f2 := (rW (n + (s.kk p).toNat) (by omega)).2
  go_quiet ((go_at_call 88; first | ((with_reducible refine number_q (i := (s.kk p).toNat) (k := s.kk p) ?_ cN c0 c1 ?_ hn) <;> omega) | ((with_reducible refine number_q (i := p) (k := (p : Int)) ?_ cN c0 c1 ?_ hn) <;> omega)))
  all_goals go_wp2
  all_goals go_quiet (fail)
  all_goals go_wp2
  all_goals go_ret
  all_goals
    refine ⟨rfl, ⟨bW, bH, cap, rfl, hcap, hLW, hLH, hWH, ?_, ?_, ?_, ?_, ?_⟩, ?_⟩
    · exact Blk.drewN (((Blk.drewN (hB) _).other hLH.symm _ _).other hLH.symm _ _) _
    · exact ((((rW).drewN _).other _ (.inl hWH.symm)).other _ (.inl hWH.symm)).drewN _
    · exact ((((rL).drewN _).set (i := p) hp (fun j _ e => by omega) _).other _ (.inr fun j _ => by omega)).drewN _
    · exact ((((rK).drewN _).other _ (.inr fun j _ => by omega)).set (i := p) hp (fun j _ e => by omega) _).drewN _
    · exact ((((rM).drewN _).other _ (.inr fun j _ => by omega)).other _ (.inr fun j _ => by omega)).drewN _
    · exact OnlyG.drewN (((OnlyG.drewN (hO) _).set (by simp) _ _).set (by simp) _ _) _

set_option maxHeartbeats 2000000 in
set_option maxRecDepth 100000 in
theorem line6b1 {w : World} {n L p : Nat} {fb : List Nat} {s : St} (h : Rep w n L fb s) (hp : p < n) (hn : n ≤ 4) (h1 : 1 ≤ n) (hl : s.ln p = 6) (hk0 : 0 ≤ s.kk p) (hk1 : s.kk p + 1 = n) (hx : s.wd (n + (s.kk p).toNat) ≠ 0 ∧ s.wd (n + p) < s.wd (n + (s.kk p).toNat)) :
    Calls Tryd.prog 59 #[.pointer (some ⟨L, 0, none⟩), .int .i64 p] w (Post n L fb w .nilIface (stepN n s p)) := by
  obtain ⟨bW, bH, cap, rfl, hcap, hLW, hLH, hWH, hB, rW, rL, rK, rM⟩ := h
  have hst : stepN n s p = { s with ln := upd s.ln p 7, kk := upd s.kk p (s.kk p + 1) } := by unfold stepN; rw [if_neg (by omega), if_neg (by omega), if_neg (by omega), if_neg (by omega), if_neg (by omega), if_pos hl, if_pos (show (s.wd (n + (s.kk p).toNat) = 0 ∨ s.wd (n + p) < s.wd (n + (s.kk p).toNat) ∨ (s.wd (n + (s.kk p).toNat) = s.wd (n + p) ∧ (p : Int) ≤ s.kk p)) by omega), if_pos hk1]
  rw [hst]
  have c0 := hB.cell 0
  have c1 := hB.cell 1
  have c2 := hB.cell 2
  simp only [List.getElem?_toArray, List.getElem?_cons_zero, List.getElem?_cons_succ] at c0 c1 c2
  have e := (rL p hp).1
  have g := (rL p hp).2
  have e0 := (rK (p) hp).1
  have f0 := (rK (p) hp).2
  have e1 := (rW (n + p) (by omega)).1
  have f1 := (rW (n + p) (by omega)).2
  have e2 := (rW (n + (s.kk p).toNat) (by omega)).1
  have f2 := (rW (n + (s.kk p).toNat) (by omega)).2
  rw [hl] at e
  have hpn : (p : Int) ≤ (n : Int) - 1 := by omega
  have hnI : 1 ≤ (n : Int) := by omega
  have t1 : (s.wd (n + (s.kk p).toNat) == 0) = false := by first | (simp; done) | (simp; omega) | omega
  have t2 : decide (s.wd (n + p) < s.wd (n + (s.kk p).toNat)) = true := by first | (simp; done) | (simp; omega) | omega
  have hk2 : s.kk p < n := by omega
  have hk3 : (s.kk p).toNat < n := by omega
  have tk : (s.kk p + 1 == (n : Int)) = true := by simp; omega
  clear hst hx hk1
  have hbL := hB.lt
  have hbW := World.block_lt_of_cell? (w := w) (a := ⟨bW, 0, none⟩) (rW 0 (by omega)).1
  have hbH := World.block_lt_of_cell? (w := w) (a := ⟨bH, _, none⟩) (rL p hp).1
  have hN : w.heap.size ≤ w.heap.size := Nat.le_refl _
  have hnL : w.heap.size ≠ L := Nat.ne_of_gt hbL
  have hnL' : L ≠ w.heap.size := Nat.ne_of_lt hbL
  have hnW' : bW ≠ w.heap.size := Nat.ne_of_lt hbW
  have hnH' : bH ≠ w.heap.size := Nat.ne_of_lt hbH

  have hnW : w.heap.size ≠ bW := Nat.ne_of_gt hbW
  have hnH : w.heap.size ≠ bH := Nat.ne_of_gt hbH
  have hO : OnlyG [L, bW, bH] w w := OnlyG.refl _ _
  clear hl
  go_enter Tryd.func59, Tryd.ntmps59
  go_wp2
  replace hO : OnlyG [L, bW, bH] w (w.alloc (.cells #[.pointer (some ⟨L, 0, none⟩)] 62)) := hO.alloc (.cells #[.pointer (some ⟨L, 0, none⟩)] 62)
  replace hB := hB.alloc (.cells #[.pointer (some ⟨L, 0, none⟩)] 62)
  have xW : Row (w.alloc (.cells #[.pointer (some ⟨L, 0, none⟩)] 62)) bW (2 * n) (fun j => j) s.wd := rW.alloc hbW (.cells #[.pointer (some ⟨L, 0, none⟩)] 62)
  have xL : Row (w.alloc (.cells #[.pointer (some ⟨L, 0, none⟩)] 62)) bH (n) (fun j => j * 3) s.ln := rL.alloc hbH (.cells #[.pointer (some ⟨L, 0, none⟩)] 62)
  have xK : Row (w.alloc (.cells #[.pointer (some ⟨L, 0, none⟩)] 62)) bH (n) (fun j => j * 3 + 1) s.kk := rK.alloc hbH (.cells #[.pointer (some ⟨L, 0, none⟩)] 62)
  have xM : Row (w.alloc (.cells #[.pointer (some ⟨L, 0, none⟩)] 62)) bH (n) (fun j => j * 3 + 2) s.ms := rM.alloc hbH (.cells #[.pointer (some ⟨L, 0, none⟩)] 62)
  have cN : (w.alloc (.cells #[.pointer (some ⟨L, 0, none⟩)] 62)).cell? ⟨w.heap.size, 0, none⟩ = some (.pointer (some ⟨L, 0, none⟩)) := (World.cell?_alloc_at _ _ _ _ rfl).trans rfl
  clear c0 c1 c2 e g e0 f0 e1 f1 e2 f2 rW rL rK rM hbW hbH hnL' hnW' hnH'
  generalize w.alloc (.cells #[.pointer (some ⟨L, 0, none⟩)] 62) = wx at *
  generalize hNN : w.heap.size = N at *
  have rW := xW
  clear xW
  have rL := xL
  clear xL
  have rK := xK
  clear xK
  have rM := xM
  clear xM
  have c0 := hB.cell 0
  have c1 := hB.cell 1
  simp only [List.getElem?_toArray, List.getElem?_cons_zero, List.getElem?_cons_succ] at c0 c1
  have e := (rL p hp).1
  have g := (rL p hp).2
  have e0 := (rK (p) hp).1
  have f0 := (rK (p) hp).2
  have e1 := (rW (n + p) (by omega)).1
  have f1 := (rW (n + p) (by omega)).2
  have e2 := (rW (n + (s.kk p).toNat) (by omega)).1
  have f2 := (rW (n + (s.kk p).toNat) (by omega)).2
  go_quiet ((go_at_call 88; first | ((with_reducible refine number_q (i := (s.kk p).toNat) (k := s.kk p) ?_ cN c0 c1 ?_ hn) <;> omega) | ((with_reducible refine number_q (i := p) (k := (p : Int)) ?_ cN c0 c1 ?_ hn) <;> omega)))
  all_goals go_wp2
  all_goals go_quiet (fail)
  all_goals go_wp2
  all_goals go_ret
  all_goals
    refine ⟨rfl, ⟨bW, bH, cap, rfl, hcap, hLW, hLH, hWH, ?_, ?_, ?_, ?_, ?_⟩, ?_⟩
    · exact (Blk.drewN (((Blk.drewN (hB) _).other hLH.symm _ _).other hLH.symm _ _) _).other hLH.symm _ _
    · exact (((((rW).drewN _).other _ (.inl hWH.symm)).other _ (.inl hWH.symm)).drewN _).other _ (.inl hWH.symm)
    · refine Row.re ((((((rL).drewN _).set (i := p) hp (fun j _ e => by omega) _).other _ (.inr fun j _ => by omega)).drewN _).set (i := p) hp (fun j _ e => by omega) _) ?_
      simp only [upd_upd]
    · exact (((((rK).drewN _).other _ (.inr fun j _ => by omega)).set (i := p) hp (fun j _ e => by omega) _).drewN _).other _ (.inr fun j _ => by omega)
    · exact (((((rM).drewN _).other _ (.inr fun j _ => by omega)).other _ (.inr fun j _ => by omega)).drewN _).other _ (.inr fun j _ => by omega)
    · exact (OnlyG.drewN (((OnlyG.drewN (hO) _).set (by simp) _ _).set (by simp) _ _) _).set (by simp) _ _

set_option maxHeartbeats 2000000 in
set_option maxRecDepth 100000 in
theorem line6c0 {w : World} {n L p : Nat} {fb : List Nat} {s : St} (h : Rep w n L fb s) (hp : p < n) (hn : n ≤ 4) (h1 : 1 ≤ n) (hl : s.ln p = 6) (hk0 : 0 ≤ s.kk p) (hk1 : s.kk p + 1 < n) (hx : s.wd (n + (s.kk p).toNat) ≠ 0 ∧ s.wd (n + (s.kk p).toNat) = s.wd (n + p) ∧ (p : Int) ≤ s.kk p) :
    Calls Tryd.prog 59 #[.pointer (some ⟨L, 0, none⟩), .int .i64 p] w (Post n L fb w .nilIface (stepN n s p)) := by
  obtain ⟨bW, bH, cap, rfl, hcap, hLW, hLH, hWH, hB, rW, rL, rK, rM⟩ := h
  have hst : stepN n s p = { s with ln := upd s.ln p 5, kk := upd s.kk p (s.kk p + 1) } := by unfold stepN; rw [if_neg (by omega), if_neg (by omega), if_neg (by omega), if_neg (by omega), if_neg (by omega), if_pos hl, if_pos (show (s.wd (n + (s.kk p).toNat) = 0 ∨ s.wd (n + p) < s.wd (n + (s.kk p).toNat) ∨ (s.wd (n + (s.kk p).toNat) = s.wd (n + p) ∧ (p : Int) ≤ s.kk p)) by omega), if_neg (show ¬ s.kk p + 1 = (n : Int) by omega)]
  rw [hst]
  have c0 := hB.cell 0
  have c1 := hB.cell 1
  have c2 := hB.cell 2
  simp only [List.getElem?_toArray, List.getElem?_cons_zero, List.getElem?_cons_succ] at c0 c1 c2
  have e := (rL p hp).1
  have g := (rL p hp).2
  have e0 := (rK (p) hp).1
  have f0 := (rK (p) hp).2
  have e1 := (rW (n + p) (by omega)).1
  have f1 := (rW (n + p) (by omega)).2
  have e2 := (rW (n + (s.kk p).toNat) (by omega)).1
  have f2 := (rW (n + (s.kk p).toNat) (by omega)).2
  rw [hl] at e
  have hpn : (p : Int) ≤ (n : Int) - 1 := by omega
  have hnI : 1 ≤ (n : Int) := by omega
  have t1 : (s.wd (n + (s.kk p).toNat) == 0) = false := by first | (simp; done) | (simp; omega) | omega
  have t2 : decide (s.wd (n + p) < s.wd (n + (s.kk p).toNat)) = false := by first | (simp; done) | (simp; omega) | omega
  have t3 : (s.wd (n + (s.kk p).toNat) == s.wd (n + p)) = true := by first | (simp; done) | (simp; omega) | omega
  have t4 : decide ((p : Int) ≤ s.kk p) = true := by first | (simp; done) | (simp; omega) | omega
  have hk2 : s.kk p < n := by omega
  have hk3 : (s.kk p).toNat < n := by omega
  have tk : (s.kk p + 1 == (n : Int)) = false := by simp; omega
  clear hst hx
  have hbL := hB.lt
  have hbW := World.block_lt_of_cell? (w := w) (a := ⟨bW, 0, none⟩) (rW 0 (by omega)).1
  have hbH := World.block_lt_of_cell? (w := w) (a := ⟨bH, _, none⟩) (rL p hp).1
  have hN : w.heap.size ≤ w.heap.size := Nat.le_refl _
  have hnL : w.heap.size ≠ L := Nat.ne_of_gt hbL
  have hnL' : L ≠ w.heap.size := Nat.ne_of_lt hbL
  have hnW' : bW ≠ w.heap.size := Nat.ne_of_lt hbW
  have hnH' : bH ≠ w.heap.size := Nat.ne_of_lt hbH

  have hnW : w.heap.size ≠ bW := Nat.ne_of_gt hbW
  have hnH : w.heap.size ≠ bH := Nat.ne_of_gt hbH
  have hO : OnlyG [L, bW, bH] w w := OnlyG.refl _ _
  clear hl
  go_enter Tryd.func59, Tryd.ntmps59
  go_wp2
  replace hO : OnlyG [L, bW, bH] w (w.alloc (.cells #[.pointer (some ⟨L, 0, none⟩)] 62)) := hO.alloc (.cells #[.pointer (some ⟨L, 0, none⟩)] 62)
  replace hB := hB.alloc (.cells #[.pointer (some ⟨L, 0, none⟩)] 62)
  have xW : Row (w.alloc (.cells #[.pointer (some ⟨L, 0, none⟩)] 62)) bW (2 * n) (fun j => j) s.wd := rW.alloc hbW (.cells #[.pointer (some ⟨L, 0, none⟩)] 62)
  have xL : Row (w.alloc (.cells #[.pointer (some ⟨L, 0, none⟩)] 62)) bH (n) (fun j => j * 3) s.ln := rL.alloc hbH (.cells #[.pointer (some ⟨L, 0, none⟩)] 62)
  have xK : Row (w.alloc (.cells #[.pointer (some ⟨L, 0, none⟩)] 62)) bH (n) (fun j => j * 3 + 1) s.kk := rK.alloc hbH (.cells #[.pointer (some ⟨L, 0, none⟩)] 62)
  have xM : Row (w.alloc (.cells #[.pointer (some ⟨L, 0, none⟩)] 62)) bH (n) (fun j => j * 3 + 2) s.ms := rM.alloc hbH (.cells #[.pointer (some ⟨L, 0, none⟩)] 62)
  have cN : (w.alloc (.cells #[.pointer (some ⟨L, 0, none⟩)] 62)).cell? ⟨w.heap.size, 0, none⟩ = some (.pointer (some ⟨L, 0, none⟩)) := (World.cell?_alloc_at _ _ _ _ rfl).trans rfl
  clear c0 c1 c2 e g e0 f0 e1 f1 e2 f2 rW rL rK rM hbW hbH hnL' hnW' hnH'
  generalize w.alloc (.cells #[.pointer (some ⟨L, 0, none⟩)] 62) = wx at *
  generalize hNN : w.heap.size = N at *
  have rW := xW
  clear xW
  have rL := xL
  clear xL
  have rK := xK
  clear xK
  have rM := xM
  clear xM
  have c0 := hB.cell 0
  have c1 := hB.cell 1
  simp only [List.getElem?_toArray, List.getElem?_cons_zero, List.getElem?_cons_succ] at c0 c1
  have e := (rL p hp).1
  have g := (rL p hp).2
  have e0 := (rK (p) hp).1
  have f0 := (rK (p) hp).2
  have e1 := (rW (n + p) (by omega)).1
  have f1 := (rW (n + p) (by omega)).2
  have e2 := (rW (n + (s.kk p).toNat) (by omega)).1
  have f2 := (rW (n + (s.kk p).toNat) (by omega)).2
  go_quiet ((go_at_call 88; first | ((with_reducible refine number_q (i := (s.kk p).toNat) (k := s.kk p) ?_ cN c0 c1 ?_ hn) <;> omega) | ((with_reducible refine number_q (i := p) (k := (p : Int)) ?_ cN c0 c1 ?_ hn) <;> omega)))
  all_goals go_wp2
  all_goals go_quiet (fail)
  all_goals go_wp2
  all_goals go_ret
  all_goals
    refine ⟨rfl, ⟨bW, bH, cap, rfl, hcap, hLW, hLH, hWH, ?_, ?_, ?_, ?_, ?_⟩, ?_⟩
    · exact Blk.drewN (((Blk.drewN (hB) _).other hLH.symm _ _).other hLH.symm _ _) _
    · exact ((((rW).drewN _).other _ (.inl hWH.symm)).other _ (.inl hWH.symm)).drewN _
    · exact ((((rL).drewN _).set (i := p) hp (fun j _ e => by omega) _).other _ (.inr fun j _ => by omega)).drewN _
    · exact ((((rK).drewN _).other _ (.inr fun j _ => by omega)).set (i := p) hp (fun j _ e => by omega) _).drewN _
    · exact ((((rM).drewN _).other _ (.inr fun j _ => by omega)).other _ (.inr fun j _ => by omega)).drewN _
    · exact OnlyG.drewN (((OnlyG.drewN (hO) _).set (by simp) _ _).set (by simp) _ _) _

set_option maxHeartbeats 2000000 in
set_option maxRecDepth 100000 in
theorem line6c1 {w : World} {n L p : Nat} {fb : List Nat} {s : St} (h : Rep w n L fb s) (hp : p < n) (hn : n ≤ 4) (h1 : 1 ≤ n) (hl : s.ln p = 6) (hk0 : 0 ≤ s.kk p) (hk1 : s.kk p + 1 = n) (hx : s.wd (n + (s.kk p).toNat) ≠ 0 ∧ s.wd (n + (s.kk p).toNat) = s.wd (n + p) ∧ (p : Int) ≤ s.kk p) :
    Calls Tryd.prog 59 #[.pointer (some ⟨L, 0, none⟩), .int .i64 p] w (Post n L fb w .nilIface (stepN n s p)) := by
  obtain ⟨bW, bH, cap, rfl, hcap, hLW, hLH, hWH, hB, rW, rL, rK, rM⟩ := h
  have hst : stepN n s p = { s with ln := upd s.ln p 7, kk := upd s.kk p (s.kk p + 1) } := by unfold stepN; rw [if_neg (by omega), if_neg (by omega), if_neg (by omega), if_neg (by omega), if_neg (by omega), if_pos hl, if_pos (show (s.wd (n + (s.kk p).toNat) = 0 ∨ s.wd (n + p) < s.wd (n + (s.kk p).toNat) ∨ (s.wd (n + (s.kk p).toNat) = s.wd (n + p) ∧ (p : Int) ≤ s.kk p)) by omega), if_pos hk1]
  rw [hst]
  have c0 := hB.cell 0
  have c1 := hB.cell 1
  have c2 := hB.cell 2
  simp only [List.getElem?_toArray, List.getElem?_cons_zero, List.getElem?_cons_succ] at c0 c1 c2
  have e := (rL p hp).1
  have g := (rL p hp).2
  have e0 := (rK (p) hp).1
  have f0 := (rK (p) hp).2
  have e1 := (rW (n + p) (by omega)).1
  have f1 := (rW (n + p) (by omega)).2
  have e2 := (rW (n + (s.kk p).toNat) (by omega)).1
  have f2 := (rW (n + (s.kk p).toNat) (by omega)).2
  rw [hl] at e
  have hpn : (p : Int) ≤ (n : Int) - 1 := by omega
  have hnI : 1 ≤ (n : Int) := by omega
  have t1 : (s.wd (n + (s.kk p).toNat) == 0) = false := by first | (simp; done) | (simp; omega) | omega
  have t2 : decide (s.wd (n + p) < s.wd (n + (s.kk p).toNat)) = false := by first | (simp; done) | (simp; omega) | omega
  have t3 : (s.wd (n + (s.kk p).toNat) == s.wd (n + p)) = true := by first | (simp; done) | (simp; omega) | omega
  have t4 : decide ((p : Int) ≤ s.kk p) = true := by first | (simp; done) | (simp; omega) | omega
  have hk2 : s.kk p < n := by omega
  have hk3 : (s.kk p).toNat < n := by omega
  have tk : (s.kk p + 1 == (n : Int)) = true := by simp; omega
  clear hst hx hk1
  have hbL := hB.lt
  have hbW := World.block_lt_of_cell? (w := w) (a := ⟨bW, 0, none⟩) (rW 0 (by omega)).1
  have hbH := World.block_lt_of_cell? (w := w) (a := ⟨bH, _, none⟩) (rL p hp).1
  have hN : w.heap.size ≤ w.heap.size := Nat.le_refl _
  have hnL : w.heap.size ≠ L := Nat.ne_of_gt hbL
  have hnL' : L ≠ w.heap.size := Nat.ne_of_lt hbL
  have hnW' : bW ≠ w.heap.size := Nat.ne_of_lt hbW
  have hnH' : bH ≠ w.heap.size := Nat.ne_of_lt hbH

  have hnW : w.heap.size ≠ bW := Nat.ne_of_gt hbW
  have hnH : w.heap.size ≠ bH := Nat.ne_of_gt hbH
  have hO : OnlyG [L, bW, bH] w w := OnlyG.refl _ _
  clear hl
  go_enter Tryd.func59, Tryd.ntmps59
  go_wp2
  replace hO : OnlyG [L, bW, bH] w (w.alloc (.cells #[.pointer (some ⟨L, 0, none⟩)] 62)) := hO.alloc (.cells #[.pointer (some ⟨L, 0, none⟩)] 62)
  replace hB := hB.alloc (.cells #[.pointer (some ⟨L, 0, none⟩)] 62)
  have xW : Row (w.alloc (.cells #[.pointer (some ⟨L, 0, none⟩)] 62)) bW (2 * n) (fun j => j) s.wd := rW.alloc hbW (.cells #[.pointer (some ⟨L, 0, none⟩)] 62)
  have xL : Row (w.alloc (.cells #[.pointer (some ⟨L, 0, none⟩)] 62)) bH (n) (fun j => j * 3) s.ln := rL.alloc hbH (.cells #[.pointer (some ⟨L, 0, none⟩)] 62)
  have xK : Row (w.alloc (.cells #[.pointer (some ⟨L, 0, none⟩)] 62)) bH (n) (fun j => j * 3 + 1) s.kk := rK.alloc hbH (.cells #[.pointer (some ⟨L, 0, none⟩)] 62)
  have xM : Row (w.alloc (.cells #[.pointer (some ⟨L, 0, none⟩)] 62)) bH (n) (fun j => j * 3 + 2) s.ms := rM.alloc hbH (.cells #[.pointer (some ⟨L, 0, none⟩)] 62)
  have cN : (w.alloc (.cells #[.pointer (some ⟨L, 0, none⟩)] 62)).cell? ⟨w.heap.size, 0, none⟩ = some (.pointer (some ⟨L, 0, none⟩)) := (World.cell?_alloc_at _ _ _ _ rfl).trans rfl
  clear c0 c1 c2 e g e0 f0 e1 f1 e2 f2 rW rL rK rM hbW hbH hnL' hnW' hnH'
  generalize w.alloc (.cells #[.pointer (some ⟨L, 0, none⟩)] 62) = wx at *
  generalize hNN : w.heap.size = N at *
  have rW := xW
  clear xW
  have rL := xL
  clear xL
  have rK := xK
  clear xK
  have rM := xM
  clear xM
  have c0 := hB.cell 0
  have c1 := hB.cell 1
  simp only [List.getElem?_toArray, List.getElem?_cons_zero, List.getElem?_cons_succ] at c0 c1
  have e := (rL p hp).1
  have g := (rL p hp).2
  have e0 := (rK (p) hp).1
  have f0 := (rK (p) hp).2
  have e1 := (rW (n + p) (by omega)).1
  have f1 := (rW (n + p) (by omega)).2
  have e2 := (rW (n + (s.kk p).toNat) (by omega)).1
  have f2 := (rW (n + (s.kk p).toNat) (by omega)).2
  go_quiet ((go_at_call 88; first | ((with_reducible refine number_q (i := (s.kk p).toNat) (k := s.kk p) ?_ cN c0 c1 ?_ hn) <;> omega) | ((with_reducible refine number_q (i := p) (k := (p : Int)) ?_ cN c0 c1 ?_ hn) <;> omega)))
  all_goals go_wp2
  all_goals go_quiet (fail)
  all_goals go_wp2
  all_goals go_ret
  all_goals
    refine ⟨rfl, ⟨bW, bH, cap, rfl, hcap, hLW, hLH, hWH, ?_, ?_, ?_, ?_, ?_⟩, ?_⟩
    · exact (Blk.drewN (((Blk.drewN (hB) _).other hLH.symm _ _).other hLH.symm _ _) _).other hLH.symm _ _
    · exact (((((rW).drewN _).other _ (.inl hWH.symm)).other _ (.inl hWH.symm)).drewN _).other _ (.inl hWH.symm)
    · refine Row.re ((((((rL).drewN _).set (i := p) hp (fun j _ e => by omega) _).other _ (.inr fun j _ => by omega)).drewN _).set (i := p) hp (fun j _ e => by omega) _) ?_
      simp only [upd_upd]
    · exact (((((rK).drewN _).other _ (.inr fun j _ => by omega)).set (i := p) hp (fun j _ e => by omega) _).drewN _).other _ (.inr fun j _ => by omega)
    · exact (((((rM).drewN _).other _ (.inr fun j _ => by omega)).other _ (.inr fun j _ => by omega)).drewN _).other _ (.inr fun j _ => by omega)
    · exact (OnlyG.drewN (((OnlyG.drewN (hO) _).set (by simp) _ _).set (by simp) _ _) _).set (by simp) _ _

set_option maxHeartbeats 2000000 in
set_option maxRecDepth 100000 in
theorem line6d2 {w : World} {n L p : Nat} {fb : List Nat} {s : St} (h : Rep w n L fb s) (hp : p < n) (hn : n ≤ 4) (h1 : 1 ≤ n) (hl : s.ln p = 6) (hk0 : 0 ≤ s.kk p) (hk1 : s.kk p < n) (hx : s.wd (n + (s.kk p).toNat) ≠ 0 ∧ s.wd (n + (s.kk p).toNat) < s.wd (n + p)) :
    Calls Tryd.prog 59 #[.pointer (some ⟨L, 0, none⟩), .int .i64 p] w (Post n L fb w .nilIface (stepN n s p)) := by
  obtain ⟨bW, bH, cap, rfl, hcap, hLW, hLH, hWH, hB, rW, rL, rK, rM⟩ := h
  have hst : stepN n s p = s := by unfold stepN; rw [if_neg (by omega), if_neg (by omega), if_neg (by omega), if_neg (by omega), if_neg (by omega), if_pos hl, if_neg (show ¬ (s.wd (n + (s.kk p).toNat) = 0 ∨ s.wd (n + p) < s.wd (n + (s.kk p).toNat) ∨ (s.wd (n + (s.kk p).toNat) = s.wd (n + p) ∧ (p : Int) ≤ s.kk p)) by omega)]
  rw [hst]
  have c0 := hB.cell 0
  have c1 := hB.cell 1
  have c2 := hB.cell 2
  simp only [List.getElem?_toArray, List.getElem?_cons_zero, List.getElem?_cons_succ] at c0 c1 c2
  have e := (rL p hp).1
  have g := (rL p hp).2
  have e0 := (rK (p) hp).1
  have f0 := (rK (p) hp).2
  have e1 := (rW (n + p) (by omega)).1
  have f1 := (rW (n + p) (by omega)).2
  have e2 := (rW (n + (s.kk p).toNat) (by omega)).1
  have f2 := (rW (n + (s.kk p).toNat) (by omega)).2
  rw [hl] at e
  have hpn : (p : Int) ≤ (n : Int) - 1 := by omega
  have hnI : 1 ≤ (n : Int) := by omega
  have t1 : (s.wd (n + (s.kk p).toNat) == 0) = false := by first | (simp; done) | (simp; omega) | omega
  have t2 : decide (s.wd (n + p) < s.wd (n + (s.kk p).toNat)) = false := by first | (simp; done) | (simp; omega) | omega
  have t3 : (s.wd (n + (s.kk p).toNat) == s.wd (n + p)) = false := by first | (simp; done) | (simp; omega) | omega
  have hk2 : s.kk p < n := by omega
  have hk3 : (s.kk p).toNat < n := by omega
  clear hst hx
  have hbL := hB.lt
  have hbW := World.block_lt_of_cell? (w := w) (a := ⟨bW, 0, none⟩) (rW 0 (by omega)).1
  have hbH := World.block_lt_of_cell? (w := w) (a := ⟨bH, _, none⟩) (rL p hp).1
  have hN : w.heap.size ≤ w.heap.size := Nat.le_refl _
  have hnL : w.heap.size ≠ L := Nat.ne_of_gt hbL
  have hnL' : L ≠ w.heap.size := Nat.ne_of_lt hbL
  have hnW' : bW ≠ w.heap.size := Nat.ne_of_lt hbW
  have hnH' : bH ≠ w.heap.size := Nat.ne_of_lt hbH

  have hnW : w.heap.size ≠ bW := Nat.ne_of_gt hbW
  have hnH : w.heap.size ≠ bH := Nat.ne_of_gt hbH
  have hO : OnlyG [L, bW, bH] w w := OnlyG.refl _ _
  clear hl
  go_enter Tryd.func59, Tryd.ntmps59
  go_wp2
  replace hO : OnlyG [L, bW, bH] w (w.alloc (.cells #[.pointer (some ⟨L, 0, none⟩)] 62)) := hO.alloc (.cells #[.pointer (some ⟨L, 0, none⟩)] 62)
  replace hB := hB.alloc (.cells #[.pointer (some ⟨L, 0, none⟩)] 62)
  have xW : Row (w.alloc (.cells #[.pointer (some ⟨L, 0, none⟩)] 62)) bW (2 * n) (fun j => j) s.wd := rW.alloc hbW (.cells #[.pointer (some ⟨L, 0, none⟩)] 62)
  have xL : Row (w.alloc (.cells #[.pointer (some ⟨L, 0, none⟩)] 62)) bH (n) (fun j => j * 3) s.ln := rL.alloc hbH (.cells #[.pointer (some ⟨L, 0, none⟩)] 62)
  have xK : Row (w.alloc (.cells #[.pointer (some ⟨L, 0, none⟩)] 62)) bH (n) (fun j => j * 3 + 1) s.kk := rK.alloc hbH (.cells #[.pointer (some ⟨L, 0, none⟩)] 62)
  have xM : Row (w.alloc (.cells #[.pointer (some ⟨L, 0, none⟩)] 62)) bH (n) (fun j => j * 3 + 2) s.ms := rM.alloc hbH (.cells #[.pointer (some ⟨L, 0, none⟩)] 62)
  have cN : (w.alloc (.cells #[.pointer (some ⟨L, 0, none⟩)] 62)).cell? ⟨w.heap.size, 0, none⟩ = some (.pointer (some ⟨L, 0, none⟩)) := (World.cell?_alloc_at _ _ _ _ rfl).trans rfl
  clear c0 c1 c2 e g e0 f0 e1 f1 e2 f2 rW rL rK rM hbW hbH hnL' hnW' hnH'
  generalize w.alloc (.cells #[.pointer (some ⟨L, 0, none⟩)] 62) = wx at *
  generalize hNN : w.heap.size = N at *
  have rW := xW
  clear xW
  have rL := xL
  clear xL
  have rK := xK
  clear xK
  have rM := xM
  clear xM
  have c0 := hB.cell 0
  have c1 := hB.cell 1
  simp only [List.getElem?_toArray, List.getElem?_cons_zero, List.getElem?_cons_succ] at c0 c1
  have e := (rL p hp).1
  have g := (rL p hp).2
  have e0 := (rK (p) hp).1
  have f0 := (rK (p) hp).2
  have e1 := (rW (n + p) (by omega)).1
  have f1 := (rW (n + p) (by omega)).2
  have e2 := (rW (n + (s.kk p).toNat) (by omega)).1
  have f2 := (rW (n + (s.kk p).toNat) (by omega)).2
  go_quiet ((go_at_call 88; first | ((with_reducible refine number_q (i := (s.kk p).toNat) (k := s.kk p) ?_ cN c0 c1 ?_ hn) <;> omega) | ((with_reducible refine number_q (i := p) (k := (p : Int)) ?_ cN c0 c1 ?_ hn) <;> omega)))
  all_goals go_wp2
  all_goals go_ret
  all_goals
    refine ⟨rfl, ⟨bW, bH, cap, rfl, hcap, hLW, hLH, hWH, ?_, ?_, ?_, ?_, ?_⟩, ?_⟩
    · exact Blk.drewN (hB) _
    · exact (rW).drewN _
    · exact (rL).drewN _
    · exact (rK).drewN _
    · exact (rM).drewN _
    · exact OnlyG.drewN (hO) _

set_option maxHeartbeats 2000000 in
set_option maxRecDepth 100000 in
theorem line6e2 {w : World} {n L p : Nat} {fb : List Nat} {s : St} (h : Rep w n L fb s) (hp : p < n) (hn : n ≤ 4) (h1 : 1 ≤ n) (hl : s.ln p = 6) (hk0 : 0 ≤ s.kk p) (hk1 : s.kk p < n) (hx : s.wd (n + (s.kk p).toNat) ≠ 0 ∧ s.wd (n + (s.kk p).toNat) = s.wd (n + p) ∧ s.kk p < (p : Int)) :
    Calls Tryd.prog 59 #[.pointer (some ⟨L, 0, none⟩), .int .i64 p] w (Post n L fb w .nilIface (stepN n s p)) := by
  obtain ⟨bW, bH, cap, rfl, hcap, hLW, hLH, hWH, hB, rW, rL, rK, rM⟩ := h
  have hst : stepN n s p = s := by unfold stepN; rw [if_neg (by omega), if_neg (by omega), if_neg (by omega), if_neg (by omega), if_neg (by omega), if_pos hl, if_neg (show ¬ (s.wd (n + (s.kk p).toNat) = 0 ∨ s.wd (n + p) < s.wd (n + (s.kk p).toNat) ∨ (s.wd (n + (s.kk p).toNat) = s.wd (n + p) ∧ (p : Int) ≤ s.kk p)) by omega)]
  rw [hst]
  have c0 := hB.cell 0
  have c1 := hB.cell 1
  have c2 := hB.cell 2
  simp only [List.getElem?_toArray, List.getElem?_cons_zero, List.getElem?_cons_succ] at c0 c1 c2
  have e := (rL p hp).1
  have g := (rL p hp).2
  have e0 := (rK (p) hp).1
  have f0 := (rK (p) hp).2
  have e1 := (rW (n + p) (by omega)).1
  have f1 := (rW (n + p) (by omega)).2
  have e2 := (rW (n + (s.kk p).toNat) (by omega)).1
  have f2 := (rW (n + (s.kk p).toNat) (by omega)).2
  rw [hl] at e
  have hpn : (p : Int) ≤ (n : Int) - 1 := by omega
  have hnI : 1 ≤ (n : Int) := by omega
  have t1 : (s.wd (n + (s.kk p).toNat) == 0) = false := by first | (simp; done) | (simp; omega) | omega
  have t2 : decide (s.wd (n + p) < s.wd (n + (s.kk p).toNat)) = false := by first | (simp; done) | (simp; omega) | omega
  have t3 : (s.wd (n + (s.kk p).toNat) == s.wd (n + p)) = true := by first | (simp; done) | (simp; omega) | omega
  have t4 : decide ((p : Int) ≤ s.kk p) = false := by first | (simp; done) | (simp; omega) | omega
  have hk2 : s.kk p < n := by omega
  have hk3 : (s.kk p).toNat < n := by omega
  clear hst hx
  have hbL := hB.lt
  have hbW := World.block_lt_of_cell? (w := w) (a := ⟨bW, 0, none⟩) (rW 0 (by omega)).1
  have hbH := World.block_lt_of_cell? (w := w) (a := ⟨bH, _, none⟩) (rL p hp).1
  have hN : w.heap.size ≤ w.heap.size := Nat.le_refl _
  have hnL : w.heap.size ≠ L := Nat.ne_of_gt hbL
  have hnL' : L ≠ w.heap.size := Nat.ne_of_lt hbL
  have hnW' : bW ≠ w.heap.size := Nat.ne_of_lt hbW
  have hnH' : bH ≠ w.heap.size := Nat.ne_of_lt hbH

  have hnW : w.heap.size ≠ bW := Nat.ne_of_gt hbW
  have hnH : w.heap.size ≠ bH := Nat.ne_of_gt hbH
  have hO : OnlyG [L, bW, bH] w w := OnlyG.refl _ _
  clear hl
  go_enter Tryd.func59, Tryd.ntmps59
  go_wp2
  replace hO : OnlyG [L, bW, bH] w (w.alloc (.cells #[.pointer (some ⟨L, 0, none⟩)] 62)) := hO.alloc (.cells #[.pointer (some ⟨L, 0, none⟩)] 62)
  replace hB := hB.alloc (.cells #[.pointer (some ⟨L, 0, none⟩)] 62)
  have xW : Row (w.alloc (.cells #[.pointer (some ⟨L, 0, none⟩)] 62)) bW (2 * n) (fun j => j) s.wd := rW.alloc hbW (.cells #[.pointer (some ⟨L, 0, none⟩)] 62)
  have xL : Row (w.alloc (.cells #[.pointer (some ⟨L, 0, none⟩)] 62)) bH (n) (fun j => j * 3) s.ln := rL.alloc hbH (.cells #[.pointer (some ⟨L, 0, none⟩)] 62)
  have xK : Row (w.alloc (.cells #[.pointer (some ⟨L, 0, none⟩)] 62)) bH (n) (fun j => j * 3 + 1) s.kk := rK.alloc hbH (.cells #[.pointer (some ⟨L, 0, none⟩)] 62)
  have xM : Row (w.alloc (.cells #[.pointer (some ⟨L, 0, none⟩)] 62)) bH (n) (fun j => j * 3 + 2) s.ms := rM.alloc hbH (.cells #[.pointer (some ⟨L, 0, none⟩)] 62)
  have cN : (w.alloc (.cells #[.pointer (some ⟨L, 0, none⟩)] 62)).cell? ⟨w.heap.size, 0, none⟩ = some (.pointer (some ⟨L, 0, none⟩)) := (World.cell?_alloc_at _ _ _ _ rfl).trans rfl
  clear c0 c1 c2 e g e0 f0 e1 f1 e2 f2 rW rL rK rM hbW hbH hnL' hnW' hnH'
  generalize w.alloc (.cells #[.pointer (some ⟨L, 0, none⟩)] 62) = wx at *
  generalize hNN : w.heap.size = N at *
  have rW := xW
  clear xW
  have rL := xL
  clear xL
  have rK := xK
  clear xK
  have rM := xM
  clear xM
  have c0 := hB.cell 0
  have c1 := hB.cell 1
  simp only [List.getElem?_toArray, List.getElem?_cons_zero, List.getElem?_cons_succ] at c0 c1
  have e := (rL p hp).1
  have g := (rL p hp).2
  have e0 := (rK (p) hp).1
  have f0 := (rK (p) hp).2
  have e1 := (rW (n + p) (by omega)).1
  have f1 := (rW (n + p) (by omega)).2
  have e2 := (rW (n + (s.kk p).toNat) (by omega)).1
  have f2 := (rW (n + (s.kk p).toNat) (by omega)).2
  go_quiet ((go_at_call 88; first | ((with_reducible refine number_q (i := (s.kk p).toNat) (k := s.kk p) ?_ cN c0 c1 ?_ hn) <;> omega) | ((with_reducible refine number_q (i := p) (k := (p : Int)) ?_ cN c0 c1 ?_ hn) <;> omega)))
  all_goals go_wp2
  all_goals go_ret
  all_goals
    refine ⟨rfl, ⟨bW, bH, cap, rfl, hcap, hLW, hLH, hWH, ?_, ?_, ?_, ?_, ?_⟩, ?_⟩
    · exact Blk.drewN (hB) _
    · exact (rW).drewN _
    · exact (rL).drewN _
    · exact (rK).drewN _
    · exact (rM).drewN _
    · exact OnlyG.drewN (hO) _

set_option maxHeartbeats 2000000 in
set_option maxRecDepth 100000 in
theorem line8 {w : World} {n L p : Nat} {fb : List Nat} {s : St} (h : Rep w n L fb s) (hp : p < n) (hn : n ≤ 4) (h1 : 1 ≤ n) (hl : s.ln p = 8) :
    Calls Tryd.prog 59 #[.pointer (some ⟨L, 0, none⟩), .int .i64 p] w (Post n L fb w .nilIface (stepN n s p)) := by
  obtain ⟨bW, bH, cap, rfl, hcap, hLW, hLH, hWH, hB, rW, rL, rK, rM⟩ := h
  have hst : stepN n s p = { wd := upd s.wd (n + p) 0, ln := upd s.ln p 1, kk := upd s.kk p 0, ms := upd s.ms p 0 } := by simp [stepN, hl]
  rw [hst]
  have c0 := hB.cell 0
  have c1 := hB.cell 1
  have c2 := hB.cell 2
  simp only [List.getElem?_toArray, List.getElem?_cons_zero, List.getElem?_cons_succ] at c0 c1 c2
  have e := (rL p hp).1
  have g := (rL p hp).2
  have e0 := (rM (p) hp).1
  have f0 := (rM (p) hp).2
  have e1 := (rK (p) hp).1
  have f1 := (rK (p) hp).2
  have e2 := (rW (n + p) (by omega)).1
  have f2 := (rW (n + p) (by omega)).2
  rw [hl] at e
  have hpn : (p : Int) ≤ (n : Int) - 1 := by omega
  have hnI : 1 ≤ (n : Int) := by omega
  clear hst 
  have hbL := hB.lt
  have hbW := World.block_lt_of_cell? (w := w) (a := ⟨bW, 0, none⟩) (rW 0 (by omega)).1
  have hbH := World.block_lt_of_cell? (w := w) (a := ⟨bH, _, none⟩) (rL p hp).1
  have hN : w.heap.size ≤ w.heap.size := Nat.le_refl _
  have hnL : w.heap.size ≠ L := Nat.ne_of_gt hbL
  have hnL' : L ≠ w.heap.size := Nat.ne_of_lt hbL
  have hnW' : bW ≠ w.heap.size := Nat.ne_of_lt hbW
  have hnH' : bH ≠ w.heap.size := Nat.ne_of_lt hbH

  have hnW : w.heap.size ≠ bW := Nat.ne_of_gt hbW
  have hnH : w.heap.size ≠ bH := Nat.ne_of_gt hbH
  have hO : OnlyG [L, bW, bH] w w := OnlyG.refl _ _
  clear hl
  go_enter Tryd.func59, Tryd.ntmps59
  go_wp2_with (first | (go_at_call 88; refine (number_of (N := w.heap.size) (L := L) (bW := bW) (n := n) (i := p) (k := (p : Int)) (c := 2 * n) ?_ ?_ ?_ ?_ ?_ hn).mono ?_; (omega); (go_simp); (go_simp); (go_simp); (omega); rintro e w' ⟨rfl, m, rfl⟩) | go_in)
  all_goals go_ret
  all_goals
    refine ⟨rfl, ⟨bW, bH, cap, rfl, hcap, hLW, hLH, hWH, ?_, ?_, ?_, ?_, ?_⟩, ?_⟩
    · exact ((((Blk.drewN ((hB).alloc _) _).other hLW.symm _ _).other hLH.symm _ _).other hLH.symm _ _).other hLH.symm _ _
    · exact ((((((rW).alloc (by simpa using hbW) _).drewN _).set (i := n + p) (by omega) (fun j _ e => e) _).other _ (.inl hWH.symm)).other _ (.inl hWH.symm)).other _ (.inl hWH.symm)
    · exact ((((((rL).alloc (by simpa using hbH) _).drewN _).other _ (.inl hWH)).set (i := p) hp (fun j _ e => by omega) _).other _ (.inr fun j _ => by omega)).other _ (.inr fun j _ => by omega)
    · exact ((((((rK).alloc (by simpa using hbH) _).drewN _).other _ (.inl hWH)).other _ (.inr fun j _ => by omega)).set (i := p) hp (fun j _ e => by omega) _).other _ (.inr fun j _ => by omega)
    · exact ((((((rM).alloc (by simpa using hbH) _).drewN _).other _ (.inl hWH)).other _ (.inr fun j _ => by omega)).other _ (.inr fun j _ => by omega)).set (i := p) hp (fun j _ e => by omega) _
    · exact ((((OnlyG.drewN ((hO).alloc _) _).set (by simp) _ _).set (by simp) _ _).set (by simp) _ _).set (by simp) _ _

end Go.Proofs.YtgkfgijmccojjaaDoor.Bakery
