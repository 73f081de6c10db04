import Derived.Test.YtimbdjmplcgilaaQKey
import Derived.Test.YtimbdjmplcgilaaBfs
namespace Go.Proofs.Ytimbdjmplcgilaa.SQ
open Go.RowKit Go.Maps Go.ChangeMaps Go.MapKept
open Pr (ints)
set_option linter.unusedVariables false

/-- A state as a value. -/
def stVal (s : List Int) : Value := .agg (ints s).toArray
structure Wf (s : List Int) : Prop where
  len : s.length = 16
  num : Small s
theorem laid : laidOutB Try.prog = true := by kernel_rfl
set_option maxRecDepth 100000 in
theorem law : Keyed Try.prog 58 := Keyed.of_law (deep_law_laid laid (m := 6) (by omega) (of_decide_eq_true (by kernel_rfl)) (by kernel_rfl) (by kernel_rfl))
set_option maxRecDepth 100000 in
theorem key_some {s : List Int} (h : Wf s) : ∃ l, keyOf Try.prog 58 (stVal s) = some l :=
  keyOf_int_only (by kernel_rfl) (by kernel_rfl) (by kernel_rfl) (by
    have : Try.prog.cellsOf 58 = 16 := by kernel_rfl
    rw [this]; simp [ints, h.len]) (by
    intro c hc
    simp [ints] at hc
    obtain ⟨x, hx, rfl⟩ := hc
    exact ⟨x, rfl, h.num x hx⟩)
set_option maxRecDepth 100000 in
theorem key_inj {s r : List Int} {l : Lit} (h : keyOf Try.prog 58 (stVal s) = some l) (k : keyOf Try.prog 58 (stVal r) = some l) : s = r := by
  have := law.inj h k
  simp only [stVal, Value.agg.injEq] at this
  exact Pr.ints_inj (by simpa using congrArg Array.toList this)
/-- A map that holds the states of a list. -/
def SetAt (w : World) (B : Nat) (ss : List (List Int)) : Prop :=
  ∃ (n : Nat) (D : DataW Unit), n ≤ ss.length ∧ w.ownsMap Try.prog 58 (plainElem Try.prog 4) B n D ∧ ∀ s l, keyOf Try.prog 58 (stVal s) = some l → D.atKey l (.lit (.bool false)) = .lit (.bool (decide (s ∈ ss)))
theorem SetAt.keep {w w' : World} {B : Nat} {ss : List (List Int)} (h : SetAt w B ss) (k : w'.heap[B]? = w.heap[B]?) : SetAt w' B ss := by
  obtain ⟨n, D, hn, ⟨es, clock, hb, r⟩, hat⟩ := h
  exact ⟨n, D, hn, ⟨es, clock, k.trans hb, r⟩, hat⟩
theorem SetAt.lt {w : World} {B : Nat} {ss : List (List Int)} (h : SetAt w B ss) : B < w.heap.size := by
  obtain ⟨n, D, hn, ho, -⟩ := h; exact ho.lt
theorem set_made (w : World) : SetAt (w.alloc (.map #[] 0)) w.heap.size [] :=
  ⟨0, .map [], Nat.le_refl _, World.ownsMap_made w _ _ _, fun s l _ => by simp [DataW.atKey]⟩
theorem zeroB (w : World) : (zeroValue 4).run Try.prog w = .ok (.bool false) w := by kernel_rfl
set_option maxRecDepth 100000 in
theorem SetAt.look {w : World} {B : Nat} {ss : List (List Int)} (h : SetAt w B ss) {s : List Int} (hs : Wf s) :
    (Instr.lookup 49 (.map (some B)) (stVal s) false).run Try.prog w = .ok (.bool (decide (s ∈ ss))) w := by
  obtain ⟨n, D, hn, ho, hat⟩ := h
  obtain ⟨l, hkl⟩ := key_some hs
  obtain ⟨v, ps, hrun, hv⟩ := ho.lookup law Try.underlying49 (zeroB w) (plainElem_bool Try.underlying4 false) hkl
  rw [hat s l hkl] at hv
  obtain ⟨b, rfl, hb⟩ := plainElem_bool_inv Try.underlying4 hv
  simp at hb
  rw [hrun, hb.1]
set_option maxRecDepth 100000 in
theorem SetAt.put {w : World} {B : Nat} {ss : List (List Int)} (h : SetAt w B ss) {s : List Int} (hs : Wf s) (hl : ss.length < 1000000000000) :
    ∃ w', (Instr.mapUpdate 49 (.map (some B)) (stVal s) (.bool true)).run Try.prog w = .ok () w' ∧ SetAt w' B (ss ++ [s]) ∧ Only [B] w w' := by
  obtain ⟨n, D, hn, ho, hat⟩ := h
  have hnm : n < maxLen := by unfold maxLen; omega
  obtain ⟨l, hkl⟩ := key_some hs
  obtain ⟨w', hrun, ho', ht⟩ := ho.store law Try.underlying49 hnm (val := .bool true) hkl (plainElem_bool Try.underlying4 true)
  have hik : WideAt.IsKeyLit l := law.key hkl
  have him := ho.isMap
  refine ⟨w', hrun, ⟨n + 1, _, by simp; omega, ho', fun r m hr => ?_⟩, ?_⟩
  · by_cases e : r = s
    · subst e
      have e2 : l = m := by rw [hkl] at hr; exact Option.some.inj hr
      subst e2
      rw [atKey_put_same him hik]; simp
    · have hk : m ≠ l := fun x => e (key_inj hr (x ▸ hkl))
      rw [atKey_put_other hk, hat r m hr]; simp [e]
  · obtain ⟨es, clock, es', clock', hb, rfl⟩ := ht
    exact ⟨rfl, rfl, rfl, by simp [setBlock], fun k hk => heap_setBlock_other hb _ (by simpa using hk)⟩
end Go.Proofs.Ytimbdjmplcgilaa.SQ
