import Derived.Test.YtimbdjmplcgilaaDoorBase
namespace Go.Proofs.YtimbdjmplcgilaaDoor
open Go.RowKit

/-- A new row of n zeros. -/
def zeros (n : Nat) : Array Value := (List.replicate n (Value.int .i64 0)).toArray
theorem infoInt : (Tryd.prog.info? 3).map (fun i => (i.zero, i.size, i.bytes)) = some (some (.int .i64 0), 1, 8) := by kernel_rfl
theorem made_zeros (n : Nat) : madeCells #[.int .i64 0] n = zeros n := by
  unfold madeCells zeros
  apply Array.ext (by simp)
  intro i h1 h2
  simp [Nat.mod_one]
theorem make_ints (n : Int) (h0 : 0 ≤ n) (hn : n ≤ 100000) (w : World) :
    (Instr.makeSlice 47 (.int .i64 n) (.int .i64 n)).run Tryd.prog w = .ok (.slice (some ⟨w.heap.size, 0, none⟩) n.toNat n.toNat) (w.alloc (.cells (zeros n.toNat) 3)) := by
  obtain ⟨i0, hi, hz0, hz1, hz2⟩ := info_parts infoInt
  have h := run_make (P := Tryd.prog) w 47 3 i0 (.int .i64 0) Tryd.underlying47 hi hz0 .i64 .i64 n n h0 (by omega) (by rw [hz2]; omega) (by omega)
  rw [h]
  simp only [hz1, Nat.mul_one, Value.cells, made_zeros]
theorem zeros_row {w : World} {b n : Nat} {T : TypeId} (h : Blk w b (zeros n) T) : Row w b n (fun j => j) (fun _ => 0) := by
  intro j hj
  refine ⟨?_, h.free j⟩
  rw [h.cell]; simp [zeros, hj]
end Go.Proofs.YtimbdjmplcgilaaDoor
