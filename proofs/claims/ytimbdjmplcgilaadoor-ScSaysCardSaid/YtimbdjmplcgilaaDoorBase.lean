import Derived.Test.YtimbdjmplcgilaaDoorRows
import Derived.Test.YtimbdjmplcgilaaDoorKit
import Derived.WalkKit
import Derived.WalkLawsBesides
import Derived.WalkSpells
import Derived.RegionTactic
import Derived.ChangeAlike
import Derived.Lib.Hide
import Derived.OpenShut
import Derived.Outline
import Derived.Deep.QuietTactic
import Derived.BigQuiet
import Derived.BigRegion
namespace Go.Proofs.YtimbdjmplcgilaaDoor
open Go.RowKit

/-- A block of cells, known whole. -/
def Blk (w : World) (b : Nat) (c : Array Value) (T : TypeId) : Prop := w.heap[b]? = some (.cells c T (0, 0))

theorem Blk.cell {w : World} {b : Nat} {c : Array Value} {T : TypeId} (h : Blk w b c T) (i : Nat) : w.cell? ⟨b, i, none⟩ = c[i]? := by
  unfold Blk at h; simp [World.cell?, h]
theorem Blk.free {w : World} {b : Nat} {c : Array Value} {T : TypeId} (h : Blk w b c T) (i : Nat) : w.frozen? ⟨b, i, none⟩ = false := by
  unfold Blk at h; simp [World.frozen?, h]
theorem Blk.set {w : World} {b : Nat} {c : Array Value} {T : TypeId} (h : Blk w b c T) (i : Nat) (v : Value) : Blk (w.setCell ⟨b, i, none⟩ v) b (c.setIfInBounds i v) T := by
  unfold Blk at *; simp [World.setCell, Array.getElem?_modify, h]
theorem Blk.other {w : World} {b : Nat} {c : Array Value} {T : TypeId} (h : Blk w b c T) {b' : Nat} (hb : b' ≠ b) (i : Nat) (v : Value) : Blk (w.setCell ⟨b', i, none⟩ v) b c T := by
  unfold Blk at *; simp [World.setCell, Array.getElem?_modify, h, hb]
theorem Blk.drew {w : World} {b : Nat} {c : Array Value} {T : TypeId} (h : Blk w b c T) : Blk w.drew b c T := h
theorem Blk.lt {w : World} {b : Nat} {c : Array Value} {T : TypeId} (h : Blk w b c T) : b < w.heap.size := by
  unfold Blk at h
  rcases Nat.lt_or_ge b w.heap.size with g | g
  · exact g
  · simp [Array.getElem?_eq_none g] at h
theorem Blk.alloc {w : World} {b : Nat} {c : Array Value} {T : TypeId} (h : Blk w b c T) (o : Obj) : Blk (w.alloc o) b c T := by
  have g := h.lt
  unfold Blk at *; rw [Below.heap_alloc _ _ _ g]; exact h
theorem Blk.new (w : World) (c : Array Value) (T : TypeId) : Blk (w.alloc (.cells c T)) w.heap.size c T := by
  show (w.heap.push _)[w.heap.size]? = _; simp
theorem Blk.below {w w' : World} {b B : Nat} {c : Array Value} {T : TypeId} (h : Blk w b c T) (k : Below B w w') (hb : b < B) : Blk w' b c T := by
  unfold Blk at *; rw [k.block b hb]; exact h

/-- Of the old blocks only those of the list may have been written; none is new. -/
structure Only (s : List Nat) (w w' : World) : Prop where
  os : w'.os = w.os
  tape : w'.tape = w.tape
  output : w'.output = w.output
  size : w'.heap.size = w.heap.size
  block : ∀ k, k ∉ s → w'.heap[k]? = w.heap[k]?

theorem Only.refl (s : List Nat) (w : World) : Only s w w := ⟨rfl, rfl, rfl, rfl, fun _ _ => rfl⟩
theorem Only.set {s : List Nat} {a w : World} (h : Only s a w) {b : Nat} (hb : b ∈ s) (i : Nat) (v : Value) : Only s a (w.setCell ⟨b, i, none⟩ v) :=
  ⟨h.os, h.tape, h.output, by simp [h.size], fun k hk => by rw [Below.heap_setCell _ _ _ _ (fun e => hk (by subst e; exact hb))]; exact h.block k hk⟩
theorem Only.drew {s : List Nat} {a w : World} (h : Only s a w) : Only s a w.drew := ⟨h.os, h.tape, h.output, h.size, h.block⟩
theorem Only.drewN {s : List Nat} {a w : World} (h : Only s a w) (n : Nat) : Only s a (w.drewN n) := ⟨h.os, h.tape, h.output, h.size, h.block⟩
theorem Only.below {s : List Nat} {a w : World} {B : Nat} (h : Only s a w) (hs : ∀ k ∈ s, B ≤ k) : Below B a w :=
  ⟨h.os, h.tape, h.output, by rw [h.size]; exact Nat.le_refl _, fun k hk => h.block k (fun hm => by have := hs k hm; omega)⟩
theorem Only.mono {s t : List Nat} {a w : World} (h : Only s a w) (hs : ∀ k, k ∈ s → k ∈ t) : Only t a w :=
  ⟨h.os, h.tape, h.output, h.size, fun k hk => h.block k (fun m => hk (hs k m))⟩
theorem Only.trans {s : List Nat} {a b c : World} (h : Only s a b) (k : Only s b c) : Only s a c :=
  ⟨k.os.trans h.os, k.tape.trans h.tape, k.output.trans h.output, k.size.trans h.size, fun i hi => (k.block i hi).trans (h.block i hi)⟩
theorem Only.blk {s : List Nat} {a w : World} (h : Only s a w) {b : Nat} (hb : b ∉ s) {c : Array Value} {T : TypeId} (k : Blk a b c T) : Blk w b c T := by
  unfold Blk at *; rw [h.block b hb]; exact k

theorem Only.size_le {s : List Nat} {a w : World} (h : Only s a w) : a.heap.size ≤ w.heap.size := by rw [h.size]; exact Nat.le_refl _

/-- Of the old blocks only those of the list may have been written. -/
structure OnlyG (s : List Nat) (w w' : World) : Prop where
  os : w'.os = w.os
  tape : w'.tape = w.tape
  output : w'.output = w.output
  size_le : w.heap.size ≤ w'.heap.size
  block : ∀ k, k < w.heap.size → k ∉ s → w'.heap[k]? = w.heap[k]?

theorem Only.grow {s : List Nat} {a w : World} (h : Only s a w) : OnlyG s a w := ⟨h.os, h.tape, h.output, h.size_le, fun k _ hk => h.block k hk⟩
theorem OnlyG.refl (s : List Nat) (w : World) : OnlyG s w w := ⟨rfl, rfl, rfl, Nat.le_refl _, fun _ _ _ => rfl⟩
theorem OnlyG.set {s : List Nat} {a w : World} (h : OnlyG s a w) {b : Nat} (hb : b ∈ s) (i : Nat) (v : Value) : OnlyG s a (w.setCell ⟨b, i, none⟩ v) :=
  ⟨h.os, h.tape, h.output, by simpa using h.size_le, fun k h0 hk => by rw [Below.heap_setCell _ _ _ _ (fun e => hk (by subst e; exact hb))]; exact h.block k h0 hk⟩
theorem OnlyG.setNew {s : List Nat} {a w : World} (h : OnlyG s a w) {b : Nat} (hb : a.heap.size ≤ b) (i : Nat) (v : Value) : OnlyG s a (w.setCell ⟨b, i, none⟩ v) :=
  ⟨h.os, h.tape, h.output, by simpa using h.size_le, fun k h0 hk => by rw [Below.heap_setCell _ _ _ _ (fun e => by subst e; omega)]; exact h.block k h0 hk⟩
theorem OnlyG.alloc {s : List Nat} {a w : World} (h : OnlyG s a w) (o : Obj) : OnlyG s a (w.alloc o) :=
  ⟨h.os, h.tape, h.output, by simpa using Nat.le_succ_of_le h.size_le, fun k h0 hk => by rw [Below.heap_alloc _ _ _ (Nat.lt_of_lt_of_le h0 h.size_le)]; exact h.block k h0 hk⟩
theorem OnlyG.drew {s : List Nat} {a w : World} (h : OnlyG s a w) : OnlyG s a w.drew := ⟨h.os, h.tape, h.output, h.size_le, h.block⟩
theorem OnlyG.drewN {s : List Nat} {a w : World} (h : OnlyG s a w) (n : Nat) : OnlyG s a (w.drewN n) := ⟨h.os, h.tape, h.output, h.size_le, h.block⟩
theorem OnlyG.below {s : List Nat} {a w : World} {B : Nat} (h : OnlyG s a w) (hs : ∀ k ∈ s, B ≤ k) (hB : B ≤ a.heap.size) : Below B a w :=
  ⟨h.os, h.tape, h.output, h.size_le, fun k hk => h.block k (by omega) (fun hm => by have := hs k hm; omega)⟩
theorem OnlyG.blk {s : List Nat} {a w : World} (h : OnlyG s a w) {b : Nat} (hb : b ∉ s) {c : Array Value} {T : TypeId} (k : Blk a b c T) : Blk w b c T := by
  have := k.lt
  unfold Blk at *; rw [h.block b this hb]; exact k

theorem Blk.eq {w : World} {b : Nat} {c c' : Array Value} {T : TypeId} (h : Blk w b c T) (e : c = c') : Blk w b c' T := e ▸ h

/-- A row of n numbers in block b, the j-th at ad j. -/
def Row (w : World) (b n : Nat) (ad : Nat → Nat) (f : Nat → Int) : Prop :=
  ∀ j, j < n → w.cell? ⟨b, ad j, none⟩ = some (.int .i64 (f j)) ∧ w.frozen? ⟨b, ad j, none⟩ = false
theorem Row.eq {w : World} {b n : Nat} {ad : Nat → Nat} {f g : Nat → Int} (h : Row w b n ad f) (e : ∀ j, j < n → f j = g j) : Row w b n ad g :=
  fun j hj => by rw [← e j hj]; exact h j hj
theorem Row.set {w : World} {b n : Nat} {ad : Nat → Nat} {f : Nat → Int} (h : Row w b n ad f) {i : Nat} (hi : i < n) (hinj : ∀ j, j < n → ad j = ad i → j = i) (v : Int) :
    Row (w.setCell ⟨b, ad i, none⟩ (.int .i64 v)) b n ad (upd f i v) := by
  intro j hj
  refine ⟨?_, by rw [World.frozen?_setCell]; exact (h j hj).2⟩
  by_cases e : j = i
  · subst e; rw [upd_same]; exact World.cell?_setCell_same w _ _ (h j hj).1
  · rw [upd_other e, World.cell?_setCell_other]
    · exact (h j hj).1
    · intro x; exact e (hinj j hj (by simpa using (congrArg Addr.off x).symm))
theorem Row.other {w : World} {b n : Nat} {ad : Nat → Nat} {f : Nat → Int} (h : Row w b n ad f) {b' o : Nat} (v : Value) (hd : b' ≠ b ∨ ∀ j, j < n → o ≠ ad j) :
    Row (w.setCell ⟨b', o, none⟩ v) b n ad f := by
  intro j hj
  refine ⟨?_, by rw [World.frozen?_setCell]; exact (h j hj).2⟩
  rw [World.cell?_setCell_other]
  · exact (h j hj).1
  · intro x
    rcases hd with hd | hd
    · exact hd (congrArg Addr.block x)
    · exact hd j hj (congrArg Addr.off x)
theorem Row.keep {w w' : World} {b n : Nat} {ad : Nat → Nat} {f : Nat → Int} (h : Row w b n ad f) (hk : w'.heap[b]? = w.heap[b]?) : Row w' b n ad f := by
  intro j hj
  rw [World.cell?_of_block (w := w) hk, World.frozen?_of_block (w := w) hk]
  exact h j hj
theorem Row.drew {w : World} {b n : Nat} {ad : Nat → Nat} {f : Nat → Int} (h : Row w b n ad f) : Row w.drew b n ad f := h

theorem Row.drewN {w : World} {b n : Nat} {ad : Nat → Nat} {f : Nat → Int} (h : Row w b n ad f) (m : Nat) : Row (w.drewN m) b n ad f := h
theorem Blk.drewN {w : World} {b : Nat} {cs : Array Value} {t : TypeId} (h : Blk w b cs t) (m : Nat) : Blk (w.drewN m) b cs t := h
theorem Row.alloc {w : World} {b n : Nat} {ad : Nat → Nat} {f : Nat → Int} (h : Row w b n ad f) (hb : b < w.heap.size) (o : Obj) : Row (w.alloc o) b n ad f := h.keep (Below.heap_alloc _ _ _ hb)
theorem Row.re {w : World} {b n : Nat} {ix : Nat → Nat} {f g : Nat → Int} (h : Row w b n ix f) (e : f = g) : Row w b n ix g := e ▸ h

theorem news_cell (w : World) (l : List Value) (T : TypeId) (j : Nat) (u : Value) (h : l[j]? = some u) : (w.alloc (.cells l.toArray T)).cell? (Addr.add ⟨w.heap.size, 0, none⟩ j) = some u := by
  have e : Addr.add ⟨w.heap.size, 0, none⟩ j = ⟨w.heap.size, j, none⟩ := by
    unfold Addr.add; split
    · subst_vars; rfl
    · simp
  rw [e, (Blk.new w l.toArray T).cell]
  simpa using h
/-- The block of a row that the call owns lies at or behind base. -/
theorem own_base {w : World} {base : Nat} {e : TypeId} {size : Nat} {v : Value} {n : Nat} {xs : List Value} (h : w.ownsRow base e size v n xs) : ∀ k, v.ownBlock = some k → base ≤ k := by
  intro k hk
  rcases h.2 with ⟨rfl, -⟩ | ⟨g, cap, cur, rfl, hg, -⟩
  · simp [Value.ownBlock] at hk
  · simp [Value.ownBlock] at hk; omega
theorem own_slice {w : World} {base : Nat} {e : TypeId} {size : Nat} {v : Value} {n : Nat} {xs : List Value} (h : w.ownsRow base e size v n xs) (hn : n ≠ 0) :
    ∃ g cap cur, v = .slice (some ⟨g, 0, none⟩) n cap ∧ base ≤ g ∧ Blk w g cur e ∧ n ≤ cap ∧ cur.size = cap * size ∧ cur.toList.take (n * size) = xs := by
  rcases h.2 with ⟨-, h0⟩ | ⟨g, cap, cur, h1, h2, h3, h4, -, h6, h7⟩
  · exact absurd h0 hn
  · exact ⟨g, cap, cur, h1, h2, h3, h4, h6, h7⟩

/-- What a walk is told of a slice of integers that came in: it is nil; or it leads to a row of cap cells, the numbers zs (the first len are its elements, the rest its spare room), each fitting its kind. -/
def IsRow (k : IntKind) (w : World) (a : Option Addr) (len cap : Nat) (zs : List Int) : Prop :=
  (a = none ∧ len = 0 ∧ cap = 0 ∧ zs = []) ∨
  ∃ x, a = some x ∧ len ≤ cap ∧ cap ≤ maxLen ∧ zs.length = cap ∧ (∀ i, i < zs.length → w.cell? (x.add i) = some (.int k (zs.getD i 0))) ∧ ∀ n ∈ zs, (Lit.int k n).wf = true

theorem IsRow.le {k : IntKind} {w : World} {a : Option Addr} {len cap : Nat} {zs : List Int} (h : IsRow k w a len cap zs) : len ≤ maxLen := by
  rcases h with ⟨-, h, -, -⟩ | ⟨x, -, h1, h2, -⟩
  · omega
  · omega

/-- Each element of the slice: where it lies, and what it is. -/
theorem IsRow.at {w : World} {a : Option Addr} {len cap : Nat} {zs : List Int} (h : IsRow .i64 w a len cap zs) (k : Nat) (hk : k < len) :
    ∃ b off p, a = some ⟨b, off, none⟩ ∧ b < w.heap.size ∧ w.cell? ⟨b, off + k, none⟩ = some (.int .i64 p) ∧ -9223372036854775808 ≤ p ∧ p ≤ 9223372036854775807 := by
  rcases h with ⟨-, h, -, -⟩ | ⟨⟨b, off, spot⟩, rfl, h1, h2, h3, h4, h5⟩
  · omega
  · have hc := h4 k (by omega)
    have h0 := h4 0 (by omega)
    have hspot : spot = none := by simpa [Addr.add] using World.cell?_spot h0
    subst hspot
    have e : (Addr.add ⟨b, off, none⟩ k) = ⟨b, off + k, none⟩ := by
      unfold Addr.add; split
      · subst_vars; rfl
      · rfl
    rw [e] at hc
    have hk' : k < zs.length := by omega
    have hw := h5 (zs.getD k 0) (by simp [List.getD_eq_getElem?_getD, List.getElem?_eq_getElem hk'])
    have hw' := bounds_i64 hw
    exact ⟨b, off, _, rfl, World.block_lt_of_cell? (w := w) (a := ⟨b, off + k, none⟩) hc, hc, hw'.1, hw'.2⟩

end Go.Proofs.YtimbdjmplcgilaaDoor
