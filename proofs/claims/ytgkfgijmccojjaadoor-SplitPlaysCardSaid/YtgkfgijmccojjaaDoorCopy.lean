import Derived.Test.YtgkfgijmccojjaaDoorBase
import Derived.Laws.CopyOwn
import Derived.Deep.RegionLaw
namespace Go.Proofs.YtgkfgijmccojjaaDoor
open Go.RowKit
set_option linter.unusedVariables false

theorem run_copy_wide {P : Program} {w : World} (t ty e : TypeId) (i : TypeInfo) (ht : P.underlying t = some (.slice e)) (hi : P.info? e = some i)
    (g off dLen dCap : Nat) (ad : Addr) (sLen sCap : Nat) (cur : Array Value) (hg : Blk w g cur e) (cs : List Value) (hn : cs.length = Nat.min sLen dLen * i.size)
    (hsrc : ∀ j v, cs[j]? = some v → w.cell? (ad.add j) = some v) (hfit : off + cs.length ≤ cur.size) (h1 : ∀ v ∈ cs, v.oneCell' = true) :
    (Builtin.copy_ #[t, t] ty #[.slice (some ⟨g, off, none⟩) dLen dCap, .slice (some ad) sLen sCap]).run P w =
      .ok (goInt (Nat.min sLen dLen)) (w.setRow g (cur.toList.take off ++ cs ++ cur.toList.drop (off + cs.length)).toArray) := by
  have hf := run_firstCells_some (P := P) w i.size (Nat.min sLen dLen) ad sLen sCap cs hn hsrc
  have hst := run_storeCells_at P g off e cs 0 cur w hg (by simpa using hfit) h1
  simp only [Nat.add_zero] at hst
  simp [Builtin.copy_, run_underlying ht, sizeOf, typeInfo, hi, Builtin.lenOf, hf, hst]

/-- The first m of the elements of a row are el. -/
def Filled (el : List Value) (m : Nat) (cur : Array Value) : Prop := ∀ i, i < m * el.length → cur[i]? = el[i % el.length]?

theorem Filled.more {el : List Value} {m c : Nat} {cur : Array Value} {cs : List Value} (h : Filled el m cur) (hc : cs.length = c * el.length) (hcs : ∀ j, j < c * el.length → cs[j]? = el[j % el.length]?)
    (hfit : m * el.length + cs.length ≤ cur.size) : Filled el (m + c) (cur.toList.take (m * el.length) ++ cs ++ cur.toList.drop (m * el.length + cs.length)).toArray := by
  intro i hi
  rw [Nat.add_mul] at hi
  have hl : (cur.toList.take (m * el.length)).length = m * el.length := by simp; omega
  simp only [List.getElem?_toArray]
  by_cases h0 : i < m * el.length
  · rw [List.append_assoc, List.getElem?_append_left (by omega), List.getElem?_take_of_lt h0]
    simpa using h i h0
  · rw [List.getElem?_append_left (by rw [List.length_append]; omega), List.getElem?_append_right (by omega), hl, hcs _ (by omega)]
    congr 1
    have : i = (i - m * el.length) + m * el.length := by omega
    conv => rhs; rw [this, Nat.add_mul_mod_self_right]

section
variable {w : World} {ops : Array Oper} {rest : List Oper} {op : Oper} {a : Act} {Q : Exit → Act → World → Prop} {K : Act → World → Prop} {E : Prop}
theorem wpList_copy_wide {P : Program} (hgd : op.guard = none) (d s : Operand) (t e : TypeId) (ho : op.op = .call { callee := .builtin .copy, args := #[d, s], argTypes := #[t, t] })
    (i : TypeInfo) (ht : P.underlying t = some (.slice e)) (hi : P.info? e = some i) (g m dLen dCap : Nat) (ad : Addr) (sLen sCap : Nat) (el : List Value)
    (hd : a.eval d = .slice (some ⟨g, m * el.length, none⟩) dLen dCap) (hs : a.eval s = .slice (some ad) sLen sCap) (hz : i.size = el.length) (cur : Array Value) (hg : Blk w g cur e) (hf : Filled el m cur)
    (cs : List Value) (hn : cs.length = Nat.min sLen dLen * el.length) (hcs : ∀ j, j < Nat.min sLen dLen * el.length → cs[j]? = el[j % el.length]?)
    (hsrc : ∀ j v, cs[j]? = some v → w.cell? (ad.add j) = some v) (hfit : m * el.length + cs.length ≤ cur.size) (h1 : ∀ v ∈ cs, v.oneCell' = true)
    (h : ∀ w' cur', Blk w' g cur' e → cur'.size = cur.size → Filled el (m + Nat.min sLen dLen) cur' → (∀ B, B ≤ g → Below B w w') → wpList P ops Q rest (a.put op.dst (goInt (Nat.min sLen dLen))) w') :
    wpList P ops Q (op :: rest) a w := by
  refine wpList_plain hgd fun K hK => ?_
  have hr := run_copy_wide (P := P) (w := w) t op.type e i ht hi g (m * el.length) dLen dCap ad sLen sCap cur hg cs (by rw [hz]; exact hn) hsrc hfit h1
  unfold Oper.wp execOp
  simp only [ho, resolve, invoke, builtin, Sem.run_bind, Sem.run_pure, Result.andThen_ok, List.map_toArray, List.map_cons, List.map_nil, hs, hd, hr]
  exact hK _ _ (h _ _ (setRow_heap w g cur _ e _ hg) (by simp; omega) (hf.more hn hcs hfit) (fun B hB => below_setRow (Below.refl _ _) hB _))
theorem step_copy_wide {P : Program} (hgd : op.guard = none) (d s : Operand) (t e : TypeId) (ho : op.op = .call { callee := .builtin .copy, args := #[d, s], argTypes := #[t, t] })
    (i : TypeInfo) (ht : P.underlying t = some (.slice e)) (hi : P.info? e = some i) (g m dLen dCap : Nat) (ad : Addr) (sLen sCap : Nat) (el : List Value)
    (hd : a.eval d = .slice (some ⟨g, m * el.length, none⟩) dLen dCap) (hs : a.eval s = .slice (some ad) sLen sCap) (hz : i.size = el.length) (cur : Array Value) (hg : Blk w g cur e) (hf : Filled el m cur)
    (cs : List Value) (hn : cs.length = Nat.min sLen dLen * el.length) (hcs : ∀ j, j < Nat.min sLen dLen * el.length → cs[j]? = el[j % el.length]?)
    (hsrc : ∀ j v, cs[j]? = some v → w.cell? (ad.add j) = some v) (hfit : m * el.length + cs.length ≤ cur.size) (h1 : ∀ v ∈ cs, v.oneCell' = true)
    (h : ∀ w' cur', Blk w' g cur' e → cur'.size = cur.size → Filled el (m + Nat.min sLen dLen) cur' → (∀ B, B ≤ g → Below B w w') → K (a.put op.dst (goInt (Nat.min sLen dLen))) w') :
    if Region.wanted op (yielded ops a.tmps) = true then Oper.wp P op a w K Q else E := by
  have hw : Region.wanted op (yielded ops a.tmps) = true := by simp [Region.wanted, hgd]
  rw [if_pos hw]
  have hr := run_copy_wide (P := P) (w := w) t op.type e i ht hi g (m * el.length) dLen dCap ad sLen sCap cur hg cs (by rw [hz]; exact hn) hsrc hfit h1
  unfold Oper.wp execOp
  simp only [ho, resolve, invoke, builtin, Sem.run_bind, Sem.run_pure, Result.andThen_ok, List.map_toArray, List.map_cons, List.map_nil, hs, hd, hr]
  exact h _ _ (setRow_heap w g cur _ e _ hg) (by simp; omega) (hf.more hn hcs hfit) (fun B hB => below_setRow (Below.refl _ _) hB _)
end
end Go.Proofs.YtgkfgijmccojjaaDoor
