import Derived.Test.YtimbdjmplcgilaaQKey
import Derived.Deep.AppendLies
import Derived.Deep.RegionLaw
import Derived.Deep.RegionHeld3
import Derived.Deep.QuietTactic
import Derived.Great.BuildSlice
namespace Go.Proofs.Ytimbdjmplcgilaa
open Go.RowKit
set_option linter.unusedVariables false

theorem exec_load {P : Program} {o : Oper} {ρ : Operand → Value} {w : World} (ty : TypeId) (x : Operand) (ho : o.op = .load ty x) (p v : Value) (hx : ρ x = p) (ld : (Instr.loadAt ty p).run P w = .ok v w) :
    (execOp ρ o).run P w = .ok (.value v) w := by
  unfold execOp
  simp only [ho, hx, Sem.run_bind, ld, Result.andThen_ok, Sem.run_pure]
/-- A load of a whole struct, in a region that only reads. -/
theorem quiet_load {P : Program} {ops : Array Oper} {C : World → Prop} {Q : Act → Prop} {a : Act} {o : Oper} {rest : List Oper} (ty : TypeId) (x : Operand) (ho : o.op = .load ty x) (hw : Region.wanted o (yielded ops a.tmps) = true)
    (p v : Value) (hx : a.eval x = p) (ld : ∀ w, C w → (Instr.loadAt ty p).run P w = .ok v w) (h : wpQuiet P ops C Q rest (a.put o.dst v)) : wpQuiet P ops C Q (o :: rest) a := by
  unfold wpQuiet
  rw [if_pos hw]
  refine ⟨v, fun w hC => ?_, h⟩
  unfold Oper.quietAt
  rw [exec_load ty x ho p v hx (ld w hC)]
  exact ⟨rfl, rfl⟩
/-- .. and in one that writes, where S tells what is read. -/
theorem yields_load {P : Program} {ops : Array Oper} {S : World → Prop} {a : Act} {o : Oper} (hw : Region.wanted o (yielded ops a.tmps) = true) (ty : TypeId) (x : Operand) (ho : o.op = .load ty x) (p v : Value) (hx : a.eval x = p)
    (ld : ∀ w, S w → (Instr.loadAt ty p).run P w = .ok v w) : YieldsIf P ops S o v a := .inl ⟨hw, fun w hS => exec_load ty x ho p v hx (ld w hS)⟩
theorem fold_set (l : List Value) : ∀ (k : Nat) (acc : Array Value), k + l.length = acc.size → (l.zipIdx k).foldl (fun cs x => cs.setIfInBounds x.2 x.1) acc = (acc.toList.take k ++ l).toArray := by
  induction l with
  | nil => intro k acc h; simp at h; subst h; simp [List.take_of_length_le]
  | cons v r ih =>
    intro k acc h
    simp only [List.length_cons] at h
    rw [List.zipIdx_cons, List.foldl_cons, ih (k + 1) _ (by simp; omega)]
    congr 1
    have hk : k < acc.toList.length := by simp; omega
    simp only [Array.toList_setIfInBounds]
    rw [List.take_succ_eq_append_getElem (by simp; omega), List.take_set_of_le (Nat.le_refl _)]
    simp
/-- 'x' laid into a new block of its own, ahead of an append. -/
theorem step_build1 {P : Program} {ops : Array Oper} {o : Oper} {a : Act} {w : World} {K : Act → World → Prop} {Q : Exit → Act → World → Prop} {E : Prop}
    (hg : o.guard = none) (t e : TypeId) (x : Operand) (ho : o.op = .buildSlice t 1 #[(0, x)]) (cs : Array Value) (ie : TypeInfo) (z : Value)
    (hu : P.underlying t = some (.slice e)) (hie : P.info? e = some ie) (hz : ie.zero = some z) (hs : ie.size = cs.size) (hzs : z.cells.size = cs.size) (hpos : 0 < cs.size) (hsm : cs.size ≤ 1000)
    (hx : a.eval x = .agg cs) (h : K (a.put o.dst (.slice (some ⟨w.heap.size, 0, none⟩) 1 1)) (w.alloc (.cells cs e))) :
    if Region.wanted o (yielded ops a.tmps) = true then Oper.wp P o a w K Q else E := by
  have hw : Region.wanted o (yielded ops a.tmps) = true := by simp [Region.wanted, hg]
  rw [if_pos hw]
  refine wp_buildSlice t e 1 #[(0, x)] ho cs ie z hu hie hz (by rw [hs]; omega) (by rw [hs]; omega) ?_ h
  have hc : (Value.agg cs).cells = cs := rfl
  simp only [List.map_toArray, List.map_cons, List.map_nil, hx, Instr.fill, hs, Nat.zero_mul, Nat.one_mul, hc]
  rw [if_neg (by simp)]
  have := fold_set cs.toList 0 ((Array.range cs.size).map (z.cells[· % z.cells.size]!)) (by simp)
  simp only [List.take_zero, List.nil_append, Array.toArray_toList] at this
  simp only [Nat.zero_add]
  rw [← Array.foldl_toList, Array.toList_zipIdx]
  exact congrArg some this
end Go.Proofs.Ytimbdjmplcgilaa
