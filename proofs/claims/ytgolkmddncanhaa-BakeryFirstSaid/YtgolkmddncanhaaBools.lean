import Derived.Test.YtgolkmddncanhaaBase
namespace Go.Proofs.Ytgolkmddncanhaa
open Go.RowKit

/-- A new row of n falses. -/
def falses (n : Nat) : Array Value := (List.replicate n (Value.bool false)).toArray
theorem infoBool : (Try.prog.info? 4).map (fun i => (i.zero, i.size, i.bytes)) = some (some (.bool false), 1, 1) := by kernel_rfl
theorem made_falses (n : Nat) : madeCells #[.bool false] n = falses n := by
  unfold madeCells falses
  apply Array.ext (by simp)
  intro i h1 h2
  simp [Nat.mod_one]
theorem make_bools (n : Nat) (hn : n ≤ 100000) (w : World) :
    (Instr.makeSlice 32 (.int .i64 (n : Int)) (.int .i64 (n : Int))).run Try.prog w = .ok (.slice (some ⟨w.heap.size, 0, none⟩) n n) (w.alloc (.cells (falses n) 4)) := by
  obtain ⟨i0, hi, hz0, hz1, hz2⟩ := info_parts infoBool
  have h := run_make (P := Try.prog) w 32 4 i0 (.bool false) Try.underlying32 hi hz0 .i64 .i64 (n : Int) (n : Int) (by omega) (by omega) (by rw [hz2]; omega) (by omega)
  rw [h]
  simp only [Int.toNat_natCast, hz1, Nat.mul_one, Value.cells, made_falses]
end Go.Proofs.Ytgolkmddncanhaa
