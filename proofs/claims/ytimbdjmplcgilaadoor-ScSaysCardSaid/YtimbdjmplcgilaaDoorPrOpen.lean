import Derived.Test.YtimbdjmplcgilaaDoorPrBase
import Derived.Deep.Slices
namespace Go.Proofs.YtimbdjmplcgilaaDoor.Pr
open Go.RowKit Go.Deep Go.ChangeShapes Go.WideShapes
set_option linter.unusedVariables false

section
variable {H : Type} {enc : TypeId × Value → H} {w : World} {base : Nat} {spare : Nat → Bool} {held : Bool}

set_option maxRecDepth 100000 in
theorem open_line {fuel : Nat} {cs : List Value} {x : DataW H × List MemPlace} (h : DataW.trod enc Tryd.prog w base spare held fuel 40 cs = some x) :
    ∃ l : Ln, cs = [.int .i64 l.k, .int .i64 l.r, .int .i64 l.w, .int .i64 l.v] := by
  obtain ⟨xs, n, _, rfl, hl, hlen, hf⟩ := DataW.trod_struct Tryd.underlying40 h
  have hc : Tryd.prog.cellsOf 40 = 4 := by kernel_rfl
  have hi : Tryd.prog.cellsOf 3 = 1 := by kernel_rfl
  rw [hc] at hl
  match cs, hl with
  | [c0, c1, c2, c3], _ =>
    match xs, hlen with
    | [y0, y1, y2, y3], _ =>
      have g0 := hf 0 _ rfl
      have g1 := hf 1 _ rfl
      have g2 := hf 2 _ rfl
      have g3 := hf 3 _ rfl
      simp [hi] at g0 g1 g2 g3
      obtain ⟨k, e0, -, -⟩ := DataW.trod_int Tryd.underlying3 g0
      obtain ⟨r, e1, -, -⟩ := DataW.trod_int Tryd.underlying3 g1
      obtain ⟨wd, e2, -, -⟩ := DataW.trod_int Tryd.underlying3 g2
      obtain ⟨v, e3, -, -⟩ := DataW.trod_int Tryd.underlying3 g3
      simp at e0 e1 e2 e3
      subst e0 e1 e2 e3
      exact ⟨⟨k, r, wd, v⟩, rfl⟩
theorem list_of {α : Type} [Inhabited α] {n : Nat} {q : Nat → α → Prop} (d : α) (h : ∀ i, i < n → ∃ x, q i x) : ∃ l : List α, l.length = n ∧ ∀ i, i < n → q i (l.getD i d) := by
  obtain ⟨f, hf⟩ := choose_lt h
  exact ⟨(List.range n).map f, by simp, fun i hi => by simpa [List.getD_eq_getElem?_getD, hi] using hf i hi⟩
instance : Inhabited Ln := ⟨Ln.zero⟩
set_option maxRecDepth 100000 in
theorem open_hand {fuel : Nat} {cs : List Value} {x : DataW H × List MemPlace} (h : DataW.trod enc Tryd.prog w base spare held fuel 38 cs = some x) :
    ∃ v ls, cs = [v] ∧ HandAt w v ls := by
  have hc : Tryd.prog.cellsOf 40 = 4 := by kernel_rfl
  rcases open_slice Tryd.underlying38 h with ⟨rfl, -⟩ | ⟨a, len, cap, m, n, D, Pl, rfl, hb, hl, hm, hmm, -, hx⟩
  · exact ⟨_, [], rfl, none, 0, rfl, by simp, fun j hj => by simp at hj⟩
  · have hlm : len ≤ m := by rw [hmm]; split <;> omega
    rw [hc] at hx
    obtain ⟨ls, hlen, hq⟩ := list_of (α := Ln) (q := fun i l => w.cell? (a.add (i * 4)) = some (.int .i64 l.k) ∧ w.cell? ((a.add (i * 4)).add 1) = some (.int .i64 l.r) ∧ w.cell? ((a.add (i * 4)).add 2) = some (.int .i64 l.w) ∧ w.cell? ((a.add (i * 4)).add 3) = some (.int .i64 l.v)) Ln.zero (n := len) (fun i hi => by
      obtain ⟨cs', h1, h2⟩ := hx i (by omega)
      obtain ⟨l, rfl⟩ := open_line h2
      obtain ⟨_, _, hcell⟩ := World.cells?_some h1
      have e0 := hcell 0 (by omega)
      rw [add_add] at e0
      exact ⟨l, by simpa using e0, by simpa using hcell 1 (by omega), by simpa using hcell 2 (by omega), by simpa using hcell 3 (by omega)⟩)
    refine ⟨_, ls, rfl, some a, cap, by rw [hlen], by omega, fun j hj => ?_⟩
    rw [hlen] at hj
    obtain ⟨x0, x1, x2, x3⟩ := hq j hj
    have hspot : (a.add (0 * 4)).spot = none := World.cell?_spot (hq 0 (by omega)).1
    obtain ⟨b, o, s⟩ := a
    have hs : s = none := by simpa [Addr.add] using hspot
    subst hs
    rw [add_plain] at x0 x1 x2 x3
    have lt : b < w.heap.size := World.block_lt_of_cell? (w := w) (a := ⟨b, o + j * 4, none⟩) x0
    rw [add_plain] at x1 x2 x3
    exact ⟨b, o, rfl, lt, x0, x1, x2, x3⟩
instance : Inhabited (List Ln) := ⟨[]⟩
set_option maxRecDepth 100000 in
theorem open_hands {fuel : Nat} {cs : List Value} {x : DataW H × List MemPlace} (h : DataW.trod enc Tryd.prog w base spare held fuel 22 cs = some x) :
    ∃ v p, cs = [v] ∧ IsProg w v p := by
  have hc : Tryd.prog.cellsOf 38 = 1 := by kernel_rfl
  rcases open_slice1 Tryd.underlying22 hc h with ⟨rfl, -⟩ | ⟨a, len, cap, m, n, V, D, Pl, rfl, hb, hl, hm, hmm, -, hx⟩
  · exact ⟨_, [], rfl, none, 0, rfl, by simp, fun j hj => by simp at hj⟩
  · have hlm : len ≤ m := by rw [hmm]; split <;> omega
    obtain ⟨p, hlen, hq⟩ := list_of (α := List Ln) (q := fun i ls => HandAt w (V i) ls) [] (n := len) (fun i hi => by
      obtain ⟨h1, h2⟩ := hx i (by omega)
      obtain ⟨v, ls, e, hh⟩ := open_hand h2
      simp at e
      subst e
      exact ⟨ls, hh⟩)
    refine ⟨_, p, rfl, some a, cap, by rw [hlen], by omega, fun j hj => ?_⟩
    rw [hlen] at hj
    obtain ⟨h1, h2⟩ := hx j (by omega)
    have hspot := World.cell?_spot (hx 0 (by omega)).1
    obtain ⟨b, o, s⟩ := a
    have hs : s = none := by simpa [Addr.add] using hspot
    subst hs
    rw [add_plain] at h1
    have lt : b < w.heap.size := World.block_lt_of_cell? (w := w) (a := ⟨b, o + j, none⟩) h1
    exact ⟨b, o, rfl, lt, V j, h1, hq j hj⟩
set_option maxRecDepth 100000 in
theorem open_prog {v : Value} {d : DataW H} {ps : List MemPlace} {r : Reach} {b0 : Nat} (hv : Value.okWide Tryd.prog w r b0 24 v) (h : DataW.Trod enc Tryd.prog w base spare held 24 v d ps) :
    ∃ words u p, v = .agg #[.int .i64 words, u] ∧ IsProg w u p := by
  have hc : Tryd.prog.cellsOf 24 = 2 := by kernel_rfl
  have hi : Tryd.prog.cellsOf 3 = 1 := by kernel_rfl
  have hh : Tryd.prog.cellsOf 22 = 1 := by kernel_rfl
  obtain ⟨cs, rfl, hsz⟩ := okWide_struct Tryd.underlying24 hv
  rw [hc] at hsz
  obtain ⟨fuel, hf⟩ := h
  obtain ⟨xs, n, _, -, hl, hlen, hf⟩ := DataW.trod_struct Tryd.underlying24 hf
  obtain ⟨cs⟩ := cs
  match cs, hsz with
  | [c0, c1], _ =>
    match xs, hlen with
    | [y0, y1], _ =>
      have g0 := hf 0 _ rfl
      have g1 := hf 1 _ rfl
      simp [hi, hh, Value.cells] at g0 g1
      obtain ⟨k, e0, -, -⟩ := DataW.trod_int Tryd.underlying3 g0
      obtain ⟨u, p, e1, hp⟩ := open_hands g1
      simp at e0 e1
      subst e0 e1
      exact ⟨k, c1, p, rfl, hp⟩
end
end Go.Proofs.YtimbdjmplcgilaaDoor.Pr
