import Derived.Test.YtimbdjmplcgilaaSortFn
import Derived.Test.YtimbdjmplcgilaaSortLay
import Derived.Lib.SliceRun
import Derived.IntWalk
namespace Go.Proofs.Ytimbdjmplcgilaa.SortFn
open Go.RowKit Pr
open Bfs (cmpL ltL once)
open Go.Sort (Holds)
set_option linter.unusedVariables false

/-- A row of numbers behind a slice value that lies elsewhere than in block g. -/
structure Elt (w : World) (g : Nat) where
  val : Value
  l : List Int
  nums : Nums w val l
  ne : ∀ b, val.ownBlock = some b → b ≠ g
instance (w : World) (g : Nat) : Inhabited (Elt w g) := ⟨⟨.slice none 0 0, [], nums_nil w, fun b h => by simp [Value.ownBlock] at h⟩⟩
/-- A row of numbers stays where only block g, and what is new, is turned. -/
theorem Nums.aside {w w' : World} {g : Nat} {v : Value} {l : List Int} (h : Nums w v l) (hne : ∀ b, v.ownBlock = some b → b ≠ g) (k : OnlyG [g] w w') : Nums w' v l := by
  obtain ⟨a, cap, rfl, hl, hj⟩ := h
  refine ⟨a, cap, rfl, hl, fun j hj' => ?_⟩
  obtain ⟨b, o, rfl, hb, hx⟩ := hj j hj'
  refine ⟨b, o, rfl, ⟨Nat.lt_of_lt_of_le hb.1 k.size_le, hb.2⟩, ?_⟩
  rw [World.cell?_of_block (w := w) (k.block b hb.1 (by have := hne b rfl; simpa using this))]
  exact hx
theorem Elt.at {w w' : World} {g : Nat} (x : Elt w g) (k : OnlyG [g] w w') : Nums w' x.val x.l := Nums.aside x.nums x.ne k
theorem elt_cell {w : World} {g : Nat} (x : Elt w g) : x.val.oneCell' = true := by
  obtain ⟨a, cap, e, -⟩ := x.nums
  rw [e]; rfl
theorem swo_elt (w : World) (g : Nat) : Go.Sort.SWO (ltOf fun (x y : Elt w g) => cmpL x.l y.l) where
  irrefl x := Bfs.ltL_irrefl x.l
  trans x y z h1 h2 := Bfs.ltL_trans h1 h2
  ntrans x y z h1 h2 := by
    have a1 : ltL x.l y.l = false := h1
    have a2 : ltL y.l z.l = false := h2
    show ltL x.l z.l = false
    cases h : ltL x.l z.l with
    | false => rfl
    | true =>
      cases h3 : ltL y.l x.l with
      | true => rw [Bfs.ltL_trans h3 h] at a2; cases a2
      | false =>
        have e := Bfs.ltL_total a1 h3
        rw [e] at h; rw [h] at a2; cases a2
theorem sorted_only {w : World} {g n : Nat} (dk : Array (Elt w g)) (os : Array Obj) : OnlyG [g] w (sortWorld (fun x : Elt w g => x.val) w g 0 n dk os) := by
  refine ⟨rfl, rfl, rfl, ?_, fun k h0 hk => ?_⟩
  · show w.heap.size ≤ _
    simp [sortWorld, Go.Sort.grow, Go.Sort.putRow, Go.Sort.mapBlock, Go.Sort.ahead]
  · unfold sortWorld
    rw [Go.Sort.heap_grow_old _ _ (by simpa [Go.Sort.putRow, Go.Sort.mapBlock, Go.Sort.ahead] using h0)]
    have hne : ¬ g = k := by simp at hk; omega
    simp [Go.Sort.putRow, Go.Sort.mapBlock, Go.Sort.ahead, Array.getElem?_modify, hne]
theorem cmp_reads {w : World} {g n : Nat} : CmpReads Try.prog 42 #[] (fun x : Elt w g => x.val) (fun x y => cmpL x.l y.l) g 0 n w := by
  intro m os dk hs x y
  refine (compare_any (x.at (sorted_only dk os)) (y.at (sorted_only dk os))).mono ?_
  rintro e w' ⟨rfl, rfl⟩
  exact ⟨rfl, 0, rfl⟩
theorem sort_any {w : World} {g cap : Nat} (xs : Array (Elt w g)) (hH : Holds (fun x : Elt w g => x.val) w g 0 xs) (hg : g < w.heap.size) (hsz : xs.size < 4611686018427387904) :
    Calls Try.prog 41 #[.slice (some ⟨g, 0, none⟩) xs.size cap, .func (.func 42) #[] #[]] w fun e w' =>
      e = .returned (.tuple #[]) ∧ ∃ ys : Array (Elt w g), ys.size = xs.size ∧ ys.toList.Perm xs.toList ∧ (ys.toList.map Elt.l).Pairwise (fun a b => ltL b a = false) ∧ Holds (fun x : Elt w g => x.val) w' g 0 ys ∧ OnlyG [g] w w' := by
  have eg : ∀ args w, (callFunc 42 args).run Try.prog w = .ok (.enter 42 args) w := enters_of Try.func42 (by kernel_rfl) rfl
  refine (SortLay.slices_SortFunc (fun x : Elt w g => x.val) (fun x => elt_cell x) (fun x y => cmpL x.l y.l) (swo_elt w g) 42 #[] g 0 cap xs w eg cmp_reads.lays hH hg hsz).mono ?_
  rintro e w' ⟨rfl, ys, n, os, ⟨hs, -, hp⟩, hso, rfl⟩
  refine ⟨rfl, ys, hs, ?_, ?_, ?_, sorted_only ys os⟩
  · have e1 : ys.extract 0 xs.size = ys := by rw [← hs]; simp
    have e2 : xs.extract 0 xs.size = xs := by simp
    rw [e1, e2] at hp
    exact hp
  · rw [List.pairwise_map, List.pairwise_iff_getElem]
    intro i j hi hj hij
    have := hso i j (Nat.zero_le _) hij (by simpa [hs] using hj)
    simp only [Array.length_toList] at hi hj
    rw [getElem!_pos ys j hj, getElem!_pos ys i hi] at this
    simp only [Array.getElem_toList]
    exact this
  · exact holds_sortWorld _ w g 0 n xs ys os hg hH hs
end Go.Proofs.Ytimbdjmplcgilaa.SortFn
