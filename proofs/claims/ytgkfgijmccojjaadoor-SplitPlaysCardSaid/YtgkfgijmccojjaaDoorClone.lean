import Derived.Test.YtgkfgijmccojjaaDoorInts
namespace Go.Proofs.YtgkfgijmccojjaaDoor
open Go.RowKit
set_option linter.unusedVariables false

def rowCells (f : Nat → Int) (n : Nat) : List Value := (List.range n).map fun j => .int .i64 (f j)
/-- New memory that holds a row of n numbers. -/
def Cloned (n : Nat) (f : Nat → Int) (w : World) (e : Ending) (w' : World) : Prop :=
  ∃ g cap, e = .returned (.slice (some ⟨g, 0, none⟩) n cap) ∧ w.heap.size ≤ g ∧ g < w'.heap.size ∧ Row w' g n (fun j => j) f ∧ Below w.heap.size w w'

theorem own_row {w : World} {base : Nat} {e : TypeId} {v : Value} {n : Nat} {f : Nat → Int} (h : w.ownsRow base e 1 v n (rowCells f n)) (hn : n ≠ 0) :
    ∃ g cap, v = .slice (some ⟨g, 0, none⟩) n cap ∧ base ≤ g ∧ g < w.heap.size ∧ Row w g n (fun j => j) f := by
  obtain ⟨g, cap, cur, hv, hg, hb, hc, hs, ht⟩ := own_slice h hn
  refine ⟨g, cap, hv, hg, hb.lt, fun j hj => ⟨?_, hb.free _⟩⟩
  have h1 : (cur.toList.take (n * 1))[j]? = some (.int .i64 (f j)) := by rw [ht]; simp [rowCells, hj]
  rw [List.getElem?_take_of_lt (by omega)] at h1
  rw [hb.cell]; simpa using h1

set_option maxHeartbeats 1000000 in
set_option maxRecDepth 100000 in
theorem clone_any {w : World} {b n cap : Nat} {f : Nat → Int} (h1 : 1 ≤ n) (h2 : n ≤ 1000) (hR : Row w b n (fun j => j) f) :
    Calls Tryd.prog 77 #[.slice (some ⟨b, 0, none⟩) n cap] w (Cloned n f w) := by
  have hq := Lib.run_eql_slice_nil (P := Tryd.prog)
  have hb : b < w.heap.size := World.block_lt_of_cell? (w := w) (a := ⟨b, 0, none⟩) (hR 0 (by omega)).1
  obtain ⟨i0, hi, hz0, hz1, hz2⟩ := info_parts infoInt
  go_enter Tryd.func77, Tryd.ntmps77
  have hown : (w.alloc (.cells #[] 3)).ownsRow w.heap.size 3 1 (.slice (some ⟨w.heap.size, 0, none⟩) 0 0) 0 [] :=
    ⟨rfl, .inr ⟨_, 0, #[], rfl, Nat.le_refl _, Blk.new _ _ _, Nat.le_refl _, Nat.zero_le _, rfl, rfl⟩⟩
  go_wp2_with (at_builtin; refine wpList_append_own _ rfl _ _ 22 rfl w.heap.size 3 i0 (.int .i64 0) 1 8 Tryd.underlying22 hi hz0 hz1 hz2 rfl (by decide) _ 0 [] rfl hown ⟨b, 0, none⟩ n cap (rowCells f n) rfl ?c0 ?c1 ?c2 ?c3 ?c4 ?c5 ?_)
  case c0 => simp [rowCells]
  case c1 =>
    intro j u hu
    have hj : j < n := by
      have := (List.getElem?_eq_some_iff.1 hu).1
      simpa [rowCells] using this
    have e1 : Addr.add ⟨b, 0, none⟩ j = ⟨b, j, none⟩ := by
      unfold Addr.add; split
      · subst_vars; rfl
      · simp
    rw [e1, World.cell?_alloc_lt _ _ _ (by exact hb), (hR j hj).1]
    simpa [rowCells, hj] using hu
  case c2 => intro u hu; simp [rowCells] at hu; obtain ⟨j, -, rfl⟩ := hu; rfl
  case c3 => unfold maxLen; omega
  case c4 => omega
  case c5 => simp
  intro v' w1 hown' hgrow _
  obtain ⟨g, cp, hv, hg, hlt, hrow⟩ := own_row hown' (by omega)
  have hbel : Below w.heap.size w w1 := ((Below.refl _ _).alloc (Nat.le_refl _) _).grown hgrow (by simp) (own_base hown)
  rw [hv]
  clear hq hi hz0 hz1 hz2 hown hown' hgrow hv
  go_wp2_with fail
  go_ret
  exact ⟨g, cp, rfl, hg, hlt, hrow, hbel⟩
end Go.Proofs.YtgkfgijmccojjaaDoor
