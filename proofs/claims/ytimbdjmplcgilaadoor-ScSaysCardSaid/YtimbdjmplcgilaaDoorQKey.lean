import Derived.Test.YtimbdjmplcgilaaDoorPrRes
import Derived.Maps.OwnSet
import Derived.Maps.AppendAt
import Derived.DeepKeys4
import Derived.Deep.WholeRow
import Derived.Deep.MidRow
import Derived.Laws.CopyOwn
import Derived.Deep.AppendLies
import Derived.Deep.RegionLaw
import Derived.Deep.RegionHeld3
import Derived.Deep.QuietTactic
import Derived.Great.BuildSlice
namespace Go.Proofs.YtimbdjmplcgilaaDoor
open Go.RowKit Go.Maps
set_option linter.unusedVariables false

/-- A type of nothing but ints. -/
def intOnly (P : Program) : Nat → TypeId → Bool
  | 0, _ => false
  | d + 1, t =>
    match P.underlying t with
    | some (.int q) => q == .i64 && P.cellsOf t == 1
    | some (.array n e) => intOnly P d e && P.cellsOf t == n * P.cellsOf e
    | some (.struct fs) => fs.all (fun f => f.name != "_" && intOnly P d f.type && decide (f.offset + P.cellsOf f.type ≤ P.cellsOf t))
    | _ => false
theorem keyLits_int {P : Program} : ∀ (d : Nat) (t : TypeId) (cs : List Value), intOnly P d t = true → cs.length = P.cellsOf t → (∀ c ∈ cs, ∃ n, c = .int .i64 n ∧ (Lit.int .i64 n).wf = true) → ∃ ls, P.keyLits d t cs = some ls := by
  intro d
  induction d with
  | zero => intro t cs h; simp [intOnly] at h
  | succ d ih =>
    intro t cs h hl hc
    have sub : ∀ (e : TypeId) (off : Nat), intOnly P d e = true → off + P.cellsOf e ≤ P.cellsOf t → ∃ ls, P.keyLits d e ((cs.drop off).take (P.cellsOf e)) = some ls := by
      intro e off he ho
      refine ih e _ he ?_ ?_
      · rw [List.length_take, List.length_drop]; omega
      · intro c hm
        exact hc c (List.mem_of_mem_drop (List.mem_of_mem_take hm))
    have all : ∀ {α : Type} (l : List α) (f : α → Option (List Lit)), (∀ x ∈ l, ∃ ls, f x = some ls) → ∃ r, l.mapM f = some r := by
      intro α l f
      induction l with
      | nil => intro _; exact ⟨[], rfl⟩
      | cons a r ihl =>
        intro hx
        obtain ⟨y, hy⟩ := hx a (by simp)
        obtain ⟨z, hz⟩ := ihl (fun x hm => hx x (by simp [hm]))
        exact ⟨y :: z, by simp [List.mapM_cons, hy, hz]⟩
    unfold intOnly at h
    unfold Program.keyLits
    split at h
    · rename_i q hu
      simp only [Bool.and_eq_true, beq_iff_eq] at h
      obtain ⟨rfl, h1⟩ := h
      rw [h1] at hl
      match cs, hl with
      | [c], _ =>
        obtain ⟨n, rfl, hw⟩ := hc c (by simp)
        simp only [hu]
        rw [if_pos (by simp [hw])]
        exact ⟨_, rfl⟩
    · rename_i n e hu
      simp only [Bool.and_eq_true, beq_iff_eq] at h
      obtain ⟨r, hr⟩ := all (List.range n) (fun i => P.keyLits d e ((cs.drop (i * P.cellsOf e)).take (P.cellsOf e))) (fun i hi => by
        refine sub e _ h.1 ?_
        have : i + 1 ≤ n := by simpa [Nat.succ_le_iff] using hi
        rw [h.2]
        have := Nat.mul_le_mul_right (P.cellsOf e) this
        rw [Nat.succ_mul] at this
        exact this)
      simp only [hu]
      rw [if_pos hl, hr]
      exact ⟨_, rfl⟩
    · rename_i fs hu
      have hf : ∀ f ∈ fs.toList, f.name ≠ "_" ∧ intOnly P d f.type = true ∧ f.offset + P.cellsOf f.type ≤ P.cellsOf t := by
        intro f hm
        have := (Array.all_eq_true_iff_forall_mem.1 h) f (by simpa using hm)
        simp only [Bool.and_eq_true, bne_iff_ne, ne_eq, decide_eq_true_eq] at this
        exact ⟨this.1.1, this.1.2, this.2⟩
      obtain ⟨r, hr⟩ := all fs.toList (fun f => P.keyLits d f.type ((cs.drop f.offset).take (P.cellsOf f.type))) (fun f hm => sub f.type f.offset (hf f hm).2.1 (hf f hm).2.2)
      have hn : fs.all (fun f => f.name != "_") = true := Array.all_eq_true_iff_forall_mem.2 (fun f hm => by
        have := (hf f (by simpa using hm)).1
        simpa using this)
      simp only [hu]
      rw [if_pos ⟨hl, hn⟩, hr]
      exact ⟨_, rfl⟩
    · simp at h
theorem keyOf_int_only {P : Program} {k : TypeId} (h : intOnly P (P.types.size + 1) k = true) (hk : P.keyType k = true) (hs : (match P.underlying k with | some (.struct _) => true | _ => false) = true)
    {cs : Array Value} (hl : cs.size = P.cellsOf k) (hc : ∀ c ∈ cs.toList, ∃ n, c = .int .i64 n ∧ (Lit.int .i64 n).wf = true) : ∃ l, keyOf P k (.agg cs) = some l := by
  obtain ⟨ls, hls⟩ := keyLits_int (P.types.size + 1) k cs.toList h (by simpa using hl) hc
  unfold keyOf
  split at hs
  · rename_i fs hu
    simp only [hu]
    have hf : (Value.agg cs).formed P k = true := by simp [Value.formed, hu, hl]
    rw [if_pos (by simp [hk, hf])]
    show ∃ l, Option.map _ (P.keyLits _ k cs.toList) = some l
    rw [hls]
    exact ⟨_, rfl⟩
  · simp at hs
/-- Numbers that an int may be. -/
def Small (s : List Int) : Prop := ∀ x ∈ s, (Lit.int .i64 x).wf = true
theorem small_of {s : List Int} (h : ∀ x ∈ s, 0 ≤ x ∧ x ≤ 1000000) : Small s := fun x hx => by
  have := h x hx
  exact WalkArith.wf_i64 (by omega)
theorem Pr.ints_inj : ∀ {a b : List Int}, Pr.ints a = Pr.ints b → a = b
  | [], [], _ => rfl
  | [], _ :: _, h => by simp [Pr.ints] at h
  | _ :: _, [], h => by simp [Pr.ints] at h
  | x :: a, y :: b, h => by
    simp only [Pr.ints, List.map_cons, List.cons.injEq, Value.int.injEq, true_and] at h
    rw [h.1, Pr.ints_inj h.2]
theorem plainElem_bool_inv {P : Program} {e : TypeId} (he : P.underlying e = some .bool) {v : Value} {z : DataW Unit × List MemPlace} (h : plainElem P e v = some z) : ∃ b, v = .bool b ∧ z = (.lit (.bool b), []) := by
  unfold plainElem at h
  rw [he] at h
  cases v <;> simp at h
  exact ⟨_, rfl, h.symm⟩
end Go.Proofs.YtimbdjmplcgilaaDoor
namespace Go.Proofs.YtimbdjmplcgilaaDoor
open Go.RowKit
set_option linter.unusedVariables false

theorem exec_load {P : Program} {o : Oper} {ρ : Operand → Value} {w : World} (ty : TypeId) (x : Operand) (ho : o.op = .load ty x) (p v : Value) (hx : ρ x = p) (ld : (Instr.loadAt ty p).run P w = .ok v w) :
    (execOp ρ o).run P w = .ok (.value v) w := by
  unfold execOp
  simp only [ho, hx, Sem.run_bind, ld, Result.andThen_ok, Sem.run_pure]
/-- A load of a whole struct, in a region that only reads. -/
theorem quiet_load {P : Program} {ops : Array Oper} {C : World → Prop} {Q : Act → Prop} {a : Act} {o : Oper} {rest : List Oper} (ty : TypeId) (x : Operand) (ho : o.op = .load ty x) (hw : Region.wanted o (yielded ops a.tmps) = true)
    (p v : Value) (hx : a.eval x = p) (ld : ∀ w, C w → (Instr.loadAt ty p).run P w = .ok v w) (h : wpQuiet P ops C Q rest (a.put o.dst v)) : wpQuiet P ops C Q (o :: rest) a := by
  unfold wpQuiet
  rw [if_pos hw]
  refine ⟨v, fun w hC => ?_, h⟩
  unfold Oper.quietAt
  rw [exec_load ty x ho p v hx (ld w hC)]
  exact ⟨rfl, rfl⟩
/-- .. and in one that writes, where S tells what is read. -/
theorem yields_load {P : Program} {ops : Array Oper} {S : World → Prop} {a : Act} {o : Oper} (hw : Region.wanted o (yielded ops a.tmps) = true) (ty : TypeId) (x : Operand) (ho : o.op = .load ty x) (p v : Value) (hx : a.eval x = p)
    (ld : ∀ w, S w → (Instr.loadAt ty p).run P w = .ok v w) : YieldsIf P ops S o v a := .inl ⟨hw, fun w hS => exec_load ty x ho p v hx (ld w hS)⟩
theorem fold_set (l : List Value) : ∀ (k : Nat) (acc : Array Value), k + l.length = acc.size → (l.zipIdx k).foldl (fun cs x => cs.setIfInBounds x.2 x.1) acc = (acc.toList.take k ++ l).toArray := by
  induction l with
  | nil => intro k acc h; simp at h; subst h; simp [List.take_of_length_le]
  | cons v r ih =>
    intro k acc h
    simp only [List.length_cons] at h
    rw [List.zipIdx_cons, List.foldl_cons, ih (k + 1) _ (by simp; omega)]
    congr 1
    have hk : k < acc.toList.length := by simp; omega
    simp only [Array.toList_setIfInBounds]
    rw [List.take_succ_eq_append_getElem (by simp; omega), List.take_set_of_le (Nat.le_refl _)]
    simp
/-- 'x' laid into a new block of its own, ahead of an append. -/
theorem step_build1 {P : Program} {ops : Array Oper} {o : Oper} {a : Act} {w : World} {K : Act → World → Prop} {Q : Exit → Act → World → Prop} {E : Prop}
    (hg : o.guard = none) (t e : TypeId) (x : Operand) (ho : o.op = .buildSlice t 1 #[(0, x)]) (cs : Array Value) (ie : TypeInfo) (z : Value)
    (hu : P.underlying t = some (.slice e)) (hie : P.info? e = some ie) (hz : ie.zero = some z) (hs : ie.size = cs.size) (hzs : z.cells.size = cs.size) (hpos : 0 < cs.size) (hsm : cs.size ≤ 1000)
    (hx : a.eval x = .agg cs) (h : K (a.put o.dst (.slice (some ⟨w.heap.size, 0, none⟩) 1 1)) (w.alloc (.cells cs e))) :
    if Region.wanted o (yielded ops a.tmps) = true then Oper.wp P o a w K Q else E := by
  have hw : Region.wanted o (yielded ops a.tmps) = true := by simp [Region.wanted, hg]
  rw [if_pos hw]
  refine wp_buildSlice t e 1 #[(0, x)] ho cs ie z hu hie hz (by rw [hs]; omega) (by rw [hs]; omega) ?_ h
  have hc : (Value.agg cs).cells = cs := rfl
  simp only [List.map_toArray, List.map_cons, List.map_nil, hx, Instr.fill, hs, Nat.zero_mul, Nat.one_mul, hc]
  rw [if_neg (by simp)]
  have := fold_set cs.toList 0 ((Array.range cs.size).map (z.cells[· % z.cells.size]!)) (by simp)
  simp only [List.take_zero, List.nil_append, Array.toArray_toList] at this
  simp only [Nat.zero_add]
  rw [← Array.foldl_toList, Array.toList_zipIdx]
  exact congrArg some this
end Go.Proofs.YtimbdjmplcgilaaDoor
