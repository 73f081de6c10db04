import Derived.Test.YtgkfgijmccojjaaDoorBase
import Derived.Test.YtgkfgijmccojjaaDoorPairPlain
namespace Go.Proofs.YtgkfgijmccojjaaDoor.Pair
open Go.RowKit
set_option linter.unusedVariables false

def St.cells (s : St) : Array Value := #[.int .i64 s.f0, .int .i64 s.f1, .int .i64 s.t, .int .i64 s.a0, .int .i64 s.a1]
/-- The lock lies at block L, in the state s; the list: the blocks that are its own. -/
def Rep (w : World) (_ : Nat) (L : Nat) (fb : List Nat) (s : St) : Prop := fb = [L] ∧ Blk w L s.cells 74
def told (_ : Nat) (p : Int) : Value := if p = 0 ∨ p = 1 then .nilIface else .iface 77 (.int .i64 1)
def Post (n L : Nat) (fb : List Nat) (w : World) (r : Value) (s : St) (e : Ending) (w' : World) : Prop :=
  e = .returned r ∧ Rep w' n L fb s ∧ Only fb w w'
def Made (n : Nat) (w : World) (e : Ending) (w' : World) : Prop :=
  ∃ L fb, e = .returned (.pointer (some ⟨L, 0, none⟩)) ∧ Rep w' n L fb (first n) ∧ Below w.heap.size w w' ∧ (∀ k ∈ fb, w.heap.size ≤ k ∧ k < w'.heap.size)

theorem Rep.keep {w w' : World} {n L : Nat} {fb : List Nat} {s : St} (h : Rep w n L fb s) (hk : ∀ k ∈ fb, w'.heap[k]? = w.heap[k]?) : Rep w' n L fb s := by
  obtain ⟨rfl, hb⟩ := h
  refine ⟨rfl, ?_⟩
  unfold Blk at *
  rw [hk L (by simp)]; exact hb

set_option maxHeartbeats 1000000 in
theorem step0_any (L : Nat) (s : St) (w : World) (hb : Blk w L s.cells 74) (ha : 1 ≤ s.a0) (ha' : s.a0 ≤ 6) :
    Calls Tryd.prog 19 #[.pointer (some ⟨L, 0, none⟩), .int .i64 0] w (Post 2 L [L] w .nilIface (step0 s)) := by
  obtain ⟨f0, f1, t, a0, a1⟩ := s
  simp only at ha ha'
  have h0 := hb.cell 0
  have h1 := hb.cell 1
  have h2 := hb.cell 2
  have h3 := hb.cell 3
  have h4 := hb.cell 4
  simp only [St.cells, List.getElem?_toArray, List.getElem?_cons_zero, List.getElem?_cons_succ] at h0 h1 h2 h3 h4
  have g0 := hb.free 0
  have g2 := hb.free 2
  have g3 := hb.free 3
  obtain rfl | rfl | rfl | rfl | rfl | rfl : a0 = 1 ∨ a0 = 2 ∨ a0 = 3 ∨ a0 = 4 ∨ a0 = 5 ∨ a0 = 6 := by omega
  all_goals go_enter Tryd.func19, Tryd.ntmps19
  all_goals go_wp2
  all_goals go_ret
  all_goals refine ⟨rfl, ⟨rfl, ?_⟩, by repeat (first | exact Only.refl _ _ | refine Only.set ?_ (by simp) _ _)⟩
  all_goals
    refine Blk.eq (by repeat (first | exact hb | apply Blk.set)) ?_
    simp_all [St.cells, step0]

set_option maxHeartbeats 1000000 in
theorem step1_any (L : Nat) (s : St) (w : World) (hb : Blk w L s.cells 74) (ha : 1 ≤ s.a1) (ha' : s.a1 ≤ 6) :
    Calls Tryd.prog 19 #[.pointer (some ⟨L, 0, none⟩), .int .i64 1] w (Post 2 L [L] w .nilIface (step1 s)) := by
  obtain ⟨f0, f1, t, a0, a1⟩ := s
  simp only at ha ha'
  have h0 := hb.cell 0
  have h1 := hb.cell 1
  have h2 := hb.cell 2
  have h3 := hb.cell 3
  have h4 := hb.cell 4
  simp only [St.cells, List.getElem?_toArray, List.getElem?_cons_zero, List.getElem?_cons_succ] at h0 h1 h2 h3 h4
  have g1 := hb.free 1
  have g2 := hb.free 2
  have g4 := hb.free 4
  obtain rfl | rfl | rfl | rfl | rfl | rfl : a1 = 1 ∨ a1 = 2 ∨ a1 = 3 ∨ a1 = 4 ∨ a1 = 5 ∨ a1 = 6 := by omega
  all_goals go_enter Tryd.func19, Tryd.ntmps19
  all_goals go_wp2
  all_goals go_ret
  all_goals refine ⟨rfl, ⟨rfl, ?_⟩, by repeat (first | exact Only.refl _ _ | refine Only.set ?_ (by simp) _ _)⟩
  all_goals
    refine Blk.eq (by repeat (first | exact hb | apply Blk.set)) ?_
    simp_all [St.cells, step1]

theorem step_no (L : Nat) (p : Int) (w : World) (hp : p < 0 ∨ 1 < p) :
    Calls Tryd.prog 19 #[.pointer (some ⟨L, 0, none⟩), .int .i64 p] w fun e w' => e = .returned (.iface 77 (.int .i64 1)) ∧ w = w' := by
  rcases hp with hp | hp
  · go_enter Tryd.func19, Tryd.ntmps19
    go_wp2
    go_ret
    exact ⟨rfl, rfl⟩
  · have : decide (p ≤ 1) = false := by simp; omega
    have : 0 ≤ p := by omega
    clear hp
    go_enter Tryd.func19, Tryd.ntmps19
    go_wp2
    go_ret
    exact ⟨rfl, rfl⟩

theorem step_any {w : World} {n k L : Nat} {fb : List Nat} {s : St} (p : Int) (hb : Rep w n L fb s) (hs : Reach n k s) (_ : k ≤ 100000) :
    Calls Tryd.prog 19 #[.pointer (some ⟨L, 0, none⟩), .int .i64 p] w (Post n L fb w (told n p) (step n s p)) := by
  obtain ⟨x0, x1, y0, y1⟩ := hs.fine
  obtain rfl := hs.1
  obtain ⟨rfl, hb⟩ := hb
  by_cases h0 : p = 0
  · subst h0; exact step0_any L s w hb x0 x1
  by_cases h1 : p = 1
  · subst h1; exact step1_any L s w hb y0 y1
  refine (step_no L p w (by omega)).mono ?_
  rintro e w' ⟨rfl, rfl⟩
  exact ⟨by simp [told, h0, h1], ⟨rfl, by simpa [step, h0, h1] using hb⟩, Only.refl _ _⟩

theorem at_any {w : World} {n L : Nat} {fb : List Nat} {s : St} (p : Int) (hb : Rep w n L fb s) :
    Calls Tryd.prog 22 #[.pointer (some ⟨L, 0, none⟩), .int .i64 p] w fun e w' => e = .returned (.int .i64 (line n s p)) ∧ w = w' := by
  obtain ⟨-, hb⟩ := hb
  have h3 := hb.cell 3
  have h4 := hb.cell 4
  simp only [St.cells, List.getElem?_toArray, List.getElem?_cons_zero, List.getElem?_cons_succ] at h3 h4
  clear hb
  by_cases h0 : p = 0
  · subst h0
    go_enter Tryd.func22, Tryd.ntmps22
    go_wp2
    go_ret
    exact ⟨rfl, rfl⟩
  by_cases h1 : p = 1
  · subst h1
    go_enter Tryd.func22, Tryd.ntmps22
    go_wp2
    go_ret
    exact ⟨rfl, rfl⟩
  have e : line n s p = 0 := by simp [line, h0, h1]
  rw [e]
  by_cases hp : p < 0
  · go_enter Tryd.func22, Tryd.ntmps22
    go_wp2
    go_ret
    exact ⟨rfl, rfl⟩
  · have : decide (p ≤ 1) = false := by simp; omega
    have : 0 ≤ p := by omega
    clear h0 h1 hp
    go_enter Tryd.func22, Tryd.ntmps22
    go_wp2
    go_ret
    exact ⟨rfl, rfl⟩

theorem new_any (n : Nat) (w : World) : Calls Tryd.prog 13 #[] w (Made n w) := by
  go_enter Tryd.func13, Tryd.ntmps13
  go_wp2
  go_ret
  exact ⟨w.heap.size, [w.heap.size], rfl, ⟨rfl, Blk.new _ _ _⟩, (Below.refl _ _).alloc (Nat.le_refl _) _, by simp⟩

theorem step_of {w : World} {n k L : Nat} {fb : List Nat} {s s' : St} {p : Int} {r : Value} (hb : Rep w n L fb s) (hs : Reach n k s) (hk : k ≤ 100000) (hr : told n p = r) (he : step n s p = s') :
    Calls Tryd.prog 19 #[.pointer (some ⟨L, 0, none⟩), .int .i64 p] w (Post n L fb w r s') := by
  subst hr; subst he; exact step_any p hb hs hk
theorem at_of {w : World} {n L : Nat} {fb : List Nat} {s : St} {p k : Int} (hb : Rep w n L fb s) (hk : line n s p = k) :
    Calls Tryd.prog 22 #[.pointer (some ⟨L, 0, none⟩), .int .i64 p] w fun e w' => e = .returned (.int .i64 k) ∧ w = w' := by
  subst hk; exact at_any p hb
theorem told_nil {n : Nat} {p : Nat} (hn : n = 2) (hp : p < n) : told n (p : Int) = .nilIface := by
  obtain rfl | rfl : p = 0 ∨ p = 1 := by omega
  · rfl
  · rfl
end Go.Proofs.YtgkfgijmccojjaaDoor.Pair
