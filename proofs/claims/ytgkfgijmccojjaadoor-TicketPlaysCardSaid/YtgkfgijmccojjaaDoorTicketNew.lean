import Derived.Test.YtgkfgijmccojjaaDoorTicketStep
import Derived.Test.YtgkfgijmccojjaaDoorHands
namespace Go.Proofs.YtgkfgijmccojjaaDoor.Ticket
open Go.RowKit
set_option linter.unusedVariables false

theorem filled_row {w : World} {g n : Nat} {cur : Array Value} {T : TypeId} (hb : Blk w g cur T) (hf : Filled el n cur) :
    Row w g n (fun j => j * 2) (fun _ => 1) ∧ Row w g n (fun j => j * 2 + 1) (fun _ => 0) := by
  have hl : el.length = 2 := rfl
  refine ⟨fun j hj => ⟨?_, hb.free _⟩, fun j hj => ⟨?_, hb.free _⟩⟩
  · rw [hb.cell, hf (j * 2) (by rw [hl]; omega), hl, show j * 2 % 2 = 0 from by omega]; rfl
  · rw [hb.cell, hf (j * 2 + 1) (by rw [hl]; omega), hl, show (j * 2 + 1) % 2 = 1 from by omega]; rfl

set_option maxHeartbeats 1000000 in
set_option maxRecDepth 100000 in
theorem new_any (n : Nat) (h1 : 1 ≤ n) (h4 : n ≤ 4) (w : World) : Calls Tryd.prog 40 #[.int .i64 n] w (Made n w) := by
  have hn1 : 1 ≤ (n : Int) := by omega
  have hn4 : (n : Int) ≤ 4 := by omega
  go_enter Tryd.func40, Tryd.ntmps40
  go_wp2_with fail
  refine (hands_ok hn1 hn4).mono ?_
  rintro e w' ⟨rfl, rfl⟩
  go_wp2_with fail
  refine (repeat_any n h1 h4 _ _ (Blk.new w el.toArray 99)).mono ?_
  rintro e w1 ⟨g, cur, rfl, hg, hb, hf, hbel⟩
  have hg0 : w.heap.size + 1 ≤ g := by simpa using hg
  have hbel1 : Below w.heap.size w w1 := ((Below.refl _ _).alloc (Nat.le_refl _) _).trans (hbel.mono (by simp))
  have hlt := hb.lt
  clear hbel hg
  go_wp2_with fail
  go_ret2
  have hs1 := hbel1.size
  obtain ⟨r1, r2⟩ := filled_row (hb.alloc (.cells #[.int .i64 0, .int .i64 0, .slice (some ⟨g, 0, none⟩) n n] 101)) hf
  refine ⟨w1.heap.size, [w1.heap.size, g], rfl, ⟨g, n, rfl, Nat.le_refl _, by omega, Blk.new _ _ _, r1, r2⟩, hbel1.alloc hs1 _, ?_⟩
  intro x hx
  simp at hx
  simp
  omega

theorem new_no (n : Int) (h : n < 1 ∨ 4 < n) (w : World) : Calls Tryd.prog 40 #[.int .i64 n] w fun e w' => e = .returned (.tuple #[.pointer none, .iface 77 (.int .i64 1)]) ∧ w = w' := by
  by_cases h1 : n < 1
  · clear h
    go_enter Tryd.func40, Tryd.ntmps40
    go_wp2
    go_ret2
    exact ⟨rfl, rfl⟩
  · have h1' : 1 ≤ n := by omega
    have h4 : decide (n ≤ 4) = false := by simp; omega
    clear h h1
    go_enter Tryd.func40, Tryd.ntmps40
    go_wp2
    go_ret2
    exact ⟨rfl, rfl⟩
end Go.Proofs.YtgkfgijmccojjaaDoor.Ticket
