import Derived.Test.YtimbdjmplcgilaaCompact
namespace Go.Proofs.Ytimbdjmplcgilaa.SortFn
open Go.RowKit Pr
open Bfs (cmpL ltL once)
open Go.Sort (Holds)
set_option linter.unusedVariables false

theorem once_len : ∀ l : List (List Int), (once l).length ≤ l.length
  | [] => Nat.le_refl _
  | [a] => Nat.le_refl _
  | a :: b :: r => by
    unfold once
    have := once_len (b :: r)
    split
    · simp only [List.length_cons] at this ⊢; omega
    · simp only [List.length_cons] at this ⊢; omega
/-- A row stays where only what is in S is turned. -/
theorem Nums.only {w w' : World} {S : List Nat} {v : Value} {l : List Int} (h : Nums w v l) (hne : ∀ b, v.ownBlock = some b → b ∉ S) (k : OnlyG S w w') : Nums w' v l := by
  obtain ⟨a, cap, rfl, hl, hj⟩ := h
  refine ⟨a, cap, rfl, hl, fun j hj' => ?_⟩
  obtain ⟨b, o, rfl, hb, hx⟩ := hj j hj'
  refine ⟨b, o, rfl, ⟨Nat.lt_of_lt_of_le hb.1 k.size_le, hb.2⟩, ?_⟩
  rw [World.cell?_of_block (w := w) (k.block b hb.1 (hne b rfl))]
  exact hx
/-- A row of rows in new memory, from block base on; its rows lie elsewhere than in it and in S. -/
structure OutAt (w : World) (base : Nat) (S : List Nat) (v : Value) (R : List (List Int)) (vals : List Value) : Prop where
  own : w.ownsRow base 34 1 v R.length vals
  len : vals.length = R.length
  out : ∀ b, v.ownBlock = some b → b ∉ S
  row : ∀ (j : Nat) (x : Value) (l : List Int), vals[j]? = some x → R[j]? = some l → Nums w x l ∧ ∀ b, x.ownBlock = some b → b ∉ S ∧ v.ownBlock ≠ some b ∧ b < w.heap.size
theorem OutAt.nil (w : World) (base : Nat) (S : List Nat) : OutAt w base S (.slice none 0 0) [] [] :=
  ⟨World.ownsRow_nil w base _ _, rfl, fun b h => by simp [Value.ownBlock] at h, fun j x l h => by simp at h⟩
theorem OutAt.add {w w' : World} {base Q B g g' : Nat} {v : Value} {R : List (List Int)} {vals : List Value} (h : OutAt w base [Q, B, g] v R vals) (k : OnlyG [Q, B, g] w w') (hg : g' = g ∨ w.heap.size ≤ g') : OutAt w' base [Q, B, g'] v R vals := by
  obtain ⟨⟨h1, ho⟩, hlen, hout, hrow⟩ := h
  have lt := World.ownsRow.lt ⟨h1, ho⟩
  refine ⟨⟨h1, ?_⟩, hlen, fun b hb => ?_, fun j x l hx hl => ?_⟩
  · rcases ho with ⟨e, e2⟩ | ⟨g0, cap, cur, e, h2, h3, r⟩
    · exact .inl ⟨e, e2⟩
    · refine .inr ⟨g0, cap, cur, e, h2, ?_, r⟩
      subst e
      rw [k.block g0 (lt g0 rfl).2 (hout g0 rfl)]; exact h3
  · have := hout b hb
    have := (lt b hb).2
    simp at *; omega
  · obtain ⟨a1, a2⟩ := hrow j x l hx hl
    refine ⟨Nums.only a1 (fun b hb => (a2 b hb).1) k, fun b hb => ?_⟩
    obtain ⟨b1, b2, b3⟩ := a2 b hb
    refine ⟨?_, b2, Nat.lt_of_lt_of_le b3 k.size_le⟩
    simp at *; omega
theorem OutAt.only {w w' : World} {base Q B g : Nat} {v : Value} {R : List (List Int)} {vals : List Value} (h : OutAt w base [Q, B, g] v R vals) (k : OnlyG [Q, B, g] w w') : OutAt w' base [Q, B, g] v R vals := h.add k (.inl rfl)
theorem onlyG_of {s : List Nat} {w w' : World} (h : Below w.heap.size w w') : OnlyG s w w' := ⟨h.os, h.tape, h.output, h.size, fun k h0 _ => h.block k h0⟩
theorem OutAt.below {w w' : World} {base Q B g : Nat} {v : Value} {R : List (List Int)} {vals : List Value} (h : OutAt w base [Q, B, g] v R vals) (k : Below w.heap.size w w') : OutAt w' base [Q, B, g] v R vals := h.only (onlyG_of k)
theorem OutAt.push {w w1 : World} {base n bx : Nat} {S : List Nat} {v v' x : Value} {R : List (List Int)} {l : List Int} {vals cs : List Value} {T : TypeId} (h : OutAt w base S v R vals) (hS : ∀ b ∈ S, b < w.heap.size)
    (hx : Nums w x l) (hb : x.ownBlock = some bx) (hbS : bx ∉ S) (hbv : v.ownBlock ≠ some bx) (hbl : bx < w.heap.size)
    (hown : w1.ownsRow base 34 1 v' n cs) (hg : (w.alloc (.cells #[x] T)).grownBy w1 v.ownBlock) (hat : v'.ownBlock = v.ownBlock ∨ v'.ownBlock = some (w.alloc (.cells #[x] T)).heap.size) (hn : n = R.length + 1) (hc : cs = vals ++ [x]) :
    OutAt w1 base S v' (R ++ [l]) (vals ++ [x]) := by
  subst hn hc
  have hsz : (w.alloc (.cells #[x] T)).heap.size = w.heap.size + 1 := by simp
  have key : ∀ b, b < w.heap.size → v.ownBlock ≠ some b → w1.heap[b]? = w.heap[b]? := fun b h1 h2 => by
    rw [hg.block b (by omega) (fun e => h2 e.symm)]
    exact Below.heap_alloc _ _ _ h1
  have hsz1 : w.heap.size ≤ w1.heap.size := by have := hg.size; omega
  have nb : ∀ y m, Nums w y m → (∀ b, y.ownBlock = some b → v.ownBlock ≠ some b) → Nums w1 y m := by
    intro y m hy hne
    obtain ⟨a, cap, rfl, hl, hj⟩ := hy
    refine ⟨a, cap, rfl, hl, fun j hj' => ?_⟩
    obtain ⟨b, o, rfl, hb, hx⟩ := hj j hj'
    refine ⟨b, o, rfl, ⟨Nat.lt_of_lt_of_le hb.1 hsz1, hb.2⟩, ?_⟩
    rw [World.cell?_of_block (w := w) (key b hb.1 (hne b rfl))]
    exact hx
  refine ⟨by simpa using hown, by simp [h.len], fun b hb' => ?_, fun j y m hy hm => ?_⟩
  · rcases hat with e | e
    · exact h.out b (by rw [← e]; exact hb')
    · intro hm
      have := hS b hm
      rw [e] at hb'
      simp at hb'; omega
  · have hv : ∀ b, b < w.heap.size → v.ownBlock ≠ some b → v'.ownBlock ≠ some b := fun b h1 h2 e => by
      rcases hat with e2 | e2
      · exact h2 (by rw [← e2]; exact e)
      · rw [e2] at e; simp at e; omega
    by_cases hj : j < R.length
    · rw [List.getElem?_append_left (by rw [h.len]; exact hj)] at hy
      rw [List.getElem?_append_left hj] at hm
      obtain ⟨a1, a2⟩ := h.row j y m hy hm
      refine ⟨nb y m a1 (fun b hb => (a2 b hb).2.1), fun b hb => ?_⟩
      obtain ⟨b1, b2, b3⟩ := a2 b hb
      exact ⟨b1, hv b b3 b2, by omega⟩
    · have hj' : j = R.length := by
        have := (List.getElem?_eq_some_iff.1 hm).1
        simp at this; omega
      subst hj'
      rw [List.getElem?_append_right (by rw [h.len]; exact Nat.le_refl _), h.len] at hy
      rw [List.getElem?_append_right (Nat.le_refl _)] at hm
      simp at hy hm
      subst hy hm
      refine ⟨nb _ _ hx (fun b hb' => by rw [hb] at hb'; cases hb'; exact hbv), fun b hb' => ?_⟩
      rw [hb] at hb'
      cases hb'
      exact ⟨hbS, hv bx hbl hbv, by omega⟩
theorem elts {w : World} {g : Nat} : ∀ (vals : List Value) (R : List (List Int)), vals.length = R.length → (∀ (j : Nat) (x : Value) (l : List Int), vals[j]? = some x → R[j]? = some l → Nums w x l ∧ ∀ b, x.ownBlock = some b → b ≠ g) →
    ∃ es : List (Elt w g), es.map Elt.val = vals ∧ es.map Elt.l = R
  | [], [], _, _ => ⟨[], rfl, rfl⟩
  | x :: vs, l :: R, hl, h => by
    obtain ⟨es, e1, e2⟩ := elts vs R (by simpa using hl) (fun j y m hy hm => h (j + 1) y m (by simpa using hy) (by simpa using hm))
    obtain ⟨a, b⟩ := h 0 x l rfl rfl
    exact ⟨⟨x, l, a, b⟩ :: es, by simp [e1], by simp [e2]⟩
  | [], _ :: _, hl, _ => by simp at hl
  | _ :: _, [], hl, _ => by simp at hl
def Elt.to {w w' : World} {g : Nat} (k : OnlyG [g] w w') (x : Elt w g) : Elt w' g := ⟨x.val, x.l, x.at k, x.ne⟩
theorem holds_to {w w' : World} {g : Nat} (k : OnlyG [g] w w') {ys : Array (Elt w g)} (h : Holds (fun x : Elt w g => x.val) w' g 0 ys) : Holds (fun x : Elt w' g => x.val) w' g 0 (ys.map (Elt.to k)) := by
  intro j hj
  have hj' : j < ys.size := by simpa using hj
  have := h j hj'
  rw [getElem!_pos ys j hj'] at this
  rw [getElem!_pos (ys.map (Elt.to k)) j hj]
  simpa [Elt.to] using this
theorem pre_all {w : World} {g : Nat} (d : Array (Elt w g)) : pre d d.size = d.toList.map Elt.l := by
  unfold pre; rw [List.take_of_length_le (by simp)]

set_option maxHeartbeats 2000000 in
set_option maxRecDepth 100000 in
theorem sorted_any {w : World} {base : Nat} {S : List Nat} {v : Value} {R : List (List Int)} {vals : List Value} (h : OutAt w base S v R vals) (h0 : R.length ≠ 0) (hl : R.length < 1000000000000) (hb : base ≤ w.heap.size) :
    Calls Try.prog 31 #[v] w fun e w' => ∃ x M, e = .returned x ∧ Mat w' x M ∧ Bfs.Rise M ∧ (∀ y, y ∈ M ↔ y ∈ R) ∧ M.length ≤ R.length ∧ Below base w w' := by
  obtain ⟨g, cap, cur, rfl, hbg, hblk, hcap, hcs, htk⟩ := own_slice h.own h0
  obtain ⟨es, he1, he2⟩ := elts (w := w) (g := g) vals R h.len (fun j x l hx hr => ⟨(h.row j x l hx hr).1, fun b hb e => ((h.row j x l hx hr).2 b hb).2.1 (by simp [Value.ownBlock, e])⟩)
  have hlen : es.length = R.length := by rw [← he2]; simp
  have hH : Holds (fun x : Elt w g => x.val) w g 0 es.toArray := by
    intro j hj
    have hj' : j < es.length := by simpa using hj
    refine ⟨?_, hblk.free _⟩
    have e1 : (cur.toList.take (R.length * 1))[j]? = some (es[j].val) := by rw [htk, ← he1]; simp [hj']
    rw [List.getElem?_take_of_lt (by omega)] at e1
    rw [hblk.cell, getElem!_pos es.toArray j hj]
    simpa using e1
  have hg := hblk.lt
  have HH := Lib.hid hH
  have HE2 := Lib.hid he2
  have HLN := Lib.hid hlen
  rw [← hlen] at hl hcap ⊢
  have esz : es.length = es.toArray.size := by simp
  clear h hblk hcs htk he1 he2 hH hlen h0
  generalize hes : es.toArray = xs at HH esz
  have HX := Lib.hid hes
  rw [esz] at hl hcap ⊢
  clear hes
  go_enter Try.func31, Try.ntmps31
  go_wp2_with fail
  refine (sort_any (cap := cap) xs HH.out hg (by omega)).mono ?_
  rintro e w1 ⟨rfl, ys, hs, hp, hso, hY, ho⟩
  have HP := Lib.hid hp
  have HSO := Lib.hid hso
  have HO := Lib.hid ho
  have HHY := Lib.hid (holds_to ho hY)
  have hsd : (ys.map (Elt.to ho)).size = xs.size := by simpa using hs
  have HPR : Hid (pre (ys.map (Elt.to ho)) (ys.map (Elt.to ho)).size = ys.toList.map Elt.l) := by
    show _ = _
    rw [pre_all]; simp [Elt.to, Function.comp_def]
  clear hp hso hY hs
  generalize ys.map (Elt.to ho) = d at HHY hsd HPR
  rw [← hsd] at hl hcap ⊢
  have hg1 : g < w1.heap.size := Nat.lt_of_lt_of_le hg ho.size_le
  have hsx : xs.size = d.size := hsd.symm
  clear ho hsd
  go_wp2_with fail
  refine (compact_any (cap := cap) d HHY.out hg1 hl hcap).mono ?_
  rintro e w2 ⟨x, rfl, hM, ho2⟩
  have HM := Lib.hid hM
  have HO2 := Lib.hid ho2
  clear hM ho2
  go_wp2_with fail
  go_ret
  have hM := HM.out
  rw [HPR.out] at hM
  have hperm : ∀ y, y ∈ ys.toList.map Elt.l ↔ y ∈ R := fun y => by
    rw [← HE2.out]
    have := (HP.out.map Elt.l).mem_iff (a := y)
    rw [← HX.out] at this
    simpa using this
  have hb1 : Below base w w1 := HO.out.below (by simpa using hbg) hb
  refine ⟨_, _, rfl, hM, Bfs.once_rise HSO.out, fun y => by rw [Bfs.mem_once]; exact hperm y, ?_, hb1.trans (HO2.out.below (by simpa using hbg) (Nat.le_trans hb hb1.size))⟩
  have h1 := HP.out.length_eq
  have h2 := once_len (ys.toList.map Elt.l)
  simp only [List.length_map, Array.length_toList] at h1 h2
  omega
end Go.Proofs.Ytimbdjmplcgilaa.SortFn
