import Derived.Test.YtimbdjmplcgilaaDoorInts
import Derived.Test.YtimbdjmplcgilaaDoorPrPlain
namespace Go.Proofs.YtimbdjmplcgilaaDoor.Pr
open Go.RowKit
set_option linter.unusedVariables false

def lnVal (l : Ln) : Value := .agg #[.int .i64 l.k, .int .i64 l.r, .int .i64 l.w, .int .i64 l.v]
def errVal (e : Int) : Value := if e = 0 then .nilIface else .iface 74 (.int .i64 e)
/-- A line lies there. -/
def LnAt (w : World) (b o : Nat) (l : Ln) : Prop :=
  w.cell? ⟨b, o, none⟩ = some (.int .i64 l.k) ∧ w.cell? ⟨b, o + 1, none⟩ = some (.int .i64 l.r) ∧ w.cell? ⟨b, o + 2, none⟩ = some (.int .i64 l.w) ∧ w.cell? ⟨b, o + 3, none⟩ = some (.int .i64 l.v)
/-- A slice of lines. -/
def HandAt (w : World) (u : Value) (ls : List Ln) : Prop :=
  ∃ a cap, u = .slice a ls.length cap ∧ ls.length ≤ maxLen ∧ ∀ j, j < ls.length → ∃ b o, a = some ⟨b, o, none⟩ ∧ b < w.heap.size ∧ LnAt w b (o + j * 4) (ls.getD j Ln.zero)
/-- A slice of hands. -/
def IsProg (w : World) (u : Value) (p : List (List Ln)) : Prop :=
  ∃ a cap, u = .slice a p.length cap ∧ p.length ≤ maxLen ∧ ∀ h, h < p.length → ∃ b o, a = some ⟨b, o, none⟩ ∧ b < w.heap.size ∧ ∃ x, w.cell? ⟨b, o + h, none⟩ = some x ∧ HandAt w x (lines p h)
theorem LnAt.below {w w' : World} {b o : Nat} {l : Ln} (h : LnAt w b o l) (hb : b < w.heap.size) (k : Below w.heap.size w w') : LnAt w' b o l := by
  obtain ⟨a1, a2, a3, a4⟩ := h
  exact ⟨by rw [k.cell (p := ⟨b, o, none⟩) hb]; exact a1, by rw [k.cell (p := ⟨b, o + 1, none⟩) hb]; exact a2, by rw [k.cell (p := ⟨b, o + 2, none⟩) hb]; exact a3, by rw [k.cell (p := ⟨b, o + 3, none⟩) hb]; exact a4⟩
theorem HandAt.below {w w' : World} {u : Value} {ls : List Ln} (h : HandAt w u ls) (k : Below w.heap.size w w') : HandAt w' u ls := by
  obtain ⟨a, cap, rfl, hl, hj⟩ := h
  refine ⟨a, cap, rfl, hl, fun j hj' => ?_⟩
  obtain ⟨b, o, rfl, hb, hL⟩ := hj j hj'
  exact ⟨b, o, rfl, Nat.lt_of_lt_of_le hb k.size, hL.below hb k⟩
theorem IsProg.below {w w' : World} {u : Value} {p : List (List Ln)} (h : IsProg w u p) (k : Below w.heap.size w w') : IsProg w' u p := by
  obtain ⟨a, cap, rfl, hl, hj⟩ := h
  refine ⟨a, cap, rfl, hl, fun j hj' => ?_⟩
  obtain ⟨b, o, rfl, hb, x, hx, hL⟩ := hj j hj'
  exact ⟨b, o, rfl, Nat.lt_of_lt_of_le hb k.size, x, by rw [k.cell (p := ⟨b, o + j, none⟩) hb]; exact hx, hL.below k⟩
theorem IsProg.drew {w : World} {u : Value} {p : List (List Ln)} (h : IsProg w u p) : IsProg w.drew u p := h

/-- A state lies in a block. -/
def StAt (w : World) (L : Nat) (f : St) : Prop := Row w L 16 (fun j => j) f

theorem ret_next {fn : Func} {R : Ending → World → Prop} {a : Act} {W : World} {t c u : Nat} {v0 v1 v2 v3 v4 : Value} (h : fn.results = #[.cell t 40, .tmp u]) (ht : a.tmps[t]?.getD undef = .pointer (some ⟨c, 0, none⟩)) (hu : a.tmps[u]?.getD undef = v4)
    (c0 : W.cell? ⟨c, 0, none⟩ = some v0) (c1 : W.cell? ⟨c, 1, none⟩ = some v1) (c2 : W.cell? ⟨c, 2, none⟩ = some v2) (c3 : W.cell? ⟨c, 3, none⟩ = some v3) (hd : a.defers = []) (hR : R (.returned (.tuple #[.agg #[v0, v1, v2, v3], v4])) W) :
    bodyPost Tryd.prog fn R .ret a W := by
  refine bodyPost_ret ?_ hd hR
  simp [results, h, ht, hu, go_sem, c0, c1, c2, c3]
end Go.Proofs.YtimbdjmplcgilaaDoor.Pr
