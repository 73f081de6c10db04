import Derived.Test.YtndpimcidnakbaaInts
import Derived.Deep.AppendSrc
namespace Go.Proofs.Ytndpimcidnakbaa
open Go.RowKit
set_option linter.unusedVariables false

/-- A row of the call's own that is appended to, and whose head is left out: it lies somewhere in a block from B on. -/
def Mid (w : World) (B : Nat) (v : Value) (l : List Int) : Prop :=
  (v = .slice none 0 0 ∧ l = []) ∨
  ∃ g o cap, v = .slice (some ⟨g, o, none⟩) l.length cap ∧ B ≤ g ∧ g < w.heap.size ∧ l.length ≤ cap ∧
    (∀ j, j < cap → (w.cell? ⟨g, o + j, none⟩).isSome = true ∧ w.frozen? ⟨g, o + j, none⟩ = false) ∧
    (∀ j u, l[j]? = some u → w.cell? ⟨g, o + j, none⟩ = some (.int .i64 u))

theorem Mid.same {w w' : World} {B : Nat} {v : Value} {l : List Int} (h : Mid w B v l) (hs : w.heap.size ≤ w'.heap.size) (hk : ∀ g, B ≤ g → g < w.heap.size → w'.heap[g]? = w.heap[g]?) : Mid w' B v l := by
  rcases h with h | ⟨g, o, cap, h1, h2, h3, h4, h5, h6⟩
  · exact .inl h
  · refine .inr ⟨g, o, cap, h1, h2, by omega, h4, fun j hj => ?_, fun j u hu => ?_⟩
    · rw [World.cell?_of_block (w := w) (hk g h2 h3), World.frozen?_of_block (w := w) (hk g h2 h3)]; exact h5 j hj
    · rw [World.cell?_of_block (w := w) (hk g h2 h3)]; exact h6 j u hu

theorem add_mid (b o j : Nat) : (⟨b, o, none⟩ : Addr).add j = ⟨b, o + j, none⟩ := by unfold Addr.add; split <;> simp_all

/-- What was put into a new row of which the rest is zero. -/
theorem Mid.fresh {w : World} {B : Nat} {l : List Int} {cap : Nat} (hB : B ≤ w.heap.size) (hc : l.length ≤ cap) :
    Mid (w.drew.alloc (.cells ((l.map (Value.int .i64)).toArray ++ Builtin.zeroCells #[.int .i64 0] (cap - l.length)) 3)) B (.slice (some ⟨w.heap.size, 0, none⟩) l.length cap) l := by
  have hb := Blk.new w.drew ((l.map (Value.int .i64)).toArray ++ Builtin.zeroCells #[.int .i64 0] (cap - l.length)) 3
  have hsz : ((l.map (Value.int .i64)).toArray ++ Builtin.zeroCells #[.int .i64 0] (cap - l.length)).size = cap := by
    simp only [Array.size_append, List.size_toArray, List.length_map, size_zeroCells]; simp; omega
  refine .inr ⟨w.heap.size, 0, cap, rfl, hB, by simp, hc, fun j hj => ⟨?_, hb.free _⟩, fun j u hu => ?_⟩
  · rw [Nat.zero_add, show (⟨w.heap.size, j, none⟩ : Addr) = ⟨w.drew.heap.size, j, none⟩ from rfl, hb.cell, Array.getElem?_eq_getElem (by omega)]
    rfl
  · have hj : j < l.length := (List.getElem?_eq_some_iff.1 hu).1
    rw [Nat.zero_add, show (⟨w.heap.size, j, none⟩ : Addr) = ⟨w.drew.heap.size, j, none⟩ from rfl, hb.cell, Array.getElem?_append_left (by simpa using hj)]
    simp [hu]

theorem run_append_mid {w : World} {B : Nat} {v : Value} {l : List Int} (ty : TypeId) (hm : Mid w B v l) (ad : Addr) (p : Int) (c : Nat) (hp : w.cell? ad = some (.int .i64 p)) (hl : l.length ≤ 1000) (hB : B ≤ w.heap.size) :
    ∃ v' w', (Builtin.append_ #[22, 22] ty #[v, .slice (some ad) 1 c]).run Try.prog w = .ok v' w' ∧ Mid w' B v' (l ++ [p]) ∧ Below B w w' := by
  obtain ⟨i0, hi, hz0, hz1, hz2⟩ := info_parts infoInt
  have hnews : ∀ j u, [Value.int .i64 p][j]? = some u → w.cell? (ad.add j) = some u := by
    intro j u hu
    cases j with
    | zero => simp at hu; subst hu; simpa [Addr.add] using hp
    | succ j => simp at hu
  rcases hm with ⟨rfl, rfl⟩ | ⟨g, o, cap, rfl, h2, h3, h4, h5, h6⟩
  · have hr := run_append_nil (P := Try.prog) w 22 ty 3 i0 (.int .i64 0) Try.underlying22 hi hz0 ad 1 c [.int .i64 p] (by rw [hz1]; rfl) hnews (by omega) (by omega) (by rw [hz2]; omega)
    refine ⟨_, _, hr, ?_, ((Below.refl _ _).drew).alloc hB _⟩
    exact Mid.fresh (l := [p]) hB (grownCap_ge w 1 0 3)
  · by_cases hroom : l.length + 1 ≤ cap
    · have hsrc : Src Try.prog i0.size 22 (.slice (some ad) 1 c) 1 [.int .i64 p] w := Src.ofSlice w Try.underlying22 ad 1 c [.int .i64 p] (by rw [hz1]; rfl) hnews (by simp [Value.oneCell'])
      have hr := run_append_room_src (P := Try.prog) w 22 22 ty 3 i0 Try.underlying22 hi g o l.length cap (.slice (some ad) 1 c) 1 [.int .i64 p] hsrc hroom
        (by intro j hj; simp at hj; subst hj; rw [hz1, Nat.mul_one, Nat.add_zero]; exact (h5 l.length (by omega)).1)
        (by intro j hj; simp at hj; subst hj; rw [hz1, Nat.mul_one, Nat.add_zero]; exact (h5 l.length (by omega)).2)
      rw [hz1, Nat.mul_one] at hr
      refine ⟨_, _, hr, ?_, (Below.refl _ _).setCell (p := ⟨g, o + l.length, none⟩) h2 _⟩
      show Mid (w.setCell ⟨g, o + l.length, none⟩ (.int .i64 p)) B _ _
      refine .inr ⟨g, o, cap, by simp, h2, by simpa using h3, by simpa using hroom, fun j hj => ⟨?_, by rw [World.frozen?_setCell]; exact (h5 j hj).2⟩, fun j u hu => ?_⟩
      · by_cases e : j = l.length
        · subst e
          obtain ⟨x, hx⟩ := Option.isSome_iff_exists.1 (h5 l.length hj).1
          rw [World.cell?_setCell_same _ _ _ hx]; rfl
        · rw [World.cell?_setCell_other _ _ _ _ (by intro x; have := congrArg Addr.off x; simp at this; omega)]
          exact (h5 j hj).1
      · by_cases e : j = l.length
        · subst e
          obtain ⟨x, hx⟩ := Option.isSome_iff_exists.1 (h5 l.length (by omega)).1
          rw [World.cell?_setCell_same _ _ _ hx]
          simp at hu; rw [hu]
        · have hj : j < l.length := by
            have := (List.getElem?_eq_some_iff.1 hu).1
            simp at this; omega
          rw [World.cell?_setCell_other _ _ _ _ (by intro x; have := congrArg Addr.off x; simp at this; omega)]
          rw [List.getElem?_append_left hj] at hu
          exact h6 j u hu
    · have hr := run_append_grow (P := Try.prog) w 22 ty 3 i0 (.int .i64 0) Try.underlying22 hi hz0 ⟨g, o, none⟩ l.length cap (l.map (Value.int .i64)) (by rw [hz1]; simp)
        (by intro j u hu; rw [add_mid]; simp at hu; obtain ⟨x, hx, rfl⟩ := hu; exact h6 j x hx)
        ad 1 c [.int .i64 p] (by rw [hz1]; rfl) hnews (by omega) (by omega) (growslice_fits (by omega) (by rw [hz2]; omega))
      refine ⟨_, _, hr, ?_, ((Below.refl _ _).drew).alloc hB _⟩
      have := Mid.fresh (w := w) (l := l ++ [p]) (cap := grownCap w (l.length + 1) cap 3) hB (by simpa using grownCap_ge w (l.length + 1) cap 3)
      simpa [Value.cells] using this

theorem wpList_append_mid {w : World} {ops : Array Oper} {rest : List Oper} {op : Oper} {a : Act} {Q : Exit → Act → World → Prop} (hgd : op.guard = none) (s x : Operand)
    (ho : op.op = .call { callee := .builtin .append, args := #[s, x], argTypes := #[22, 22] }) (B : Nat) (v : Value) (l : List Int) (hs : a.eval s = v) (hm : Mid w B v l)
    (ad : Addr) (p : Int) (c : Nat) (hx : a.eval x = .slice (some ad) 1 c) (hp : w.cell? ad = some (.int .i64 p)) (hl : l.length ≤ 1000) (hB : B ≤ w.heap.size)
    (h : ∀ v' w', Mid w' B v' (l ++ [p]) → Below B w w' → wpList Try.prog ops Q rest (a.put op.dst v') w') : wpList Try.prog ops Q (op :: rest) a w := by
  refine wpList_plain hgd fun K hK => ?_
  obtain ⟨v', w', hr, h2, h3⟩ := run_append_mid op.type hm ad p c hp hl hB
  unfold Oper.wp execOp
  simp only [ho, resolve, invoke, builtin, Sem.run_bind, Sem.run_pure, Result.andThen_ok, List.map_toArray, List.map_cons, List.map_nil, hs, hx, hr]
  exact hK _ _ (h v' w' h2 h3)
end Go.Proofs.Ytndpimcidnakbaa
