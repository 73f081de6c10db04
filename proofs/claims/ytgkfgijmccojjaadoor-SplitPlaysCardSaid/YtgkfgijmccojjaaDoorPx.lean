import Derived.Test.YtgkfgijmccojjaaDoorMNew2
import Derived.Test.YtgkfgijmccojjaaDoorTold2
import Derived.Test.YtgkfgijmccojjaaDoorGrow
namespace Go.Proofs.YtgkfgijmccojjaaDoor
open Go.RowKit
set_option linter.unusedVariables false

theorem OnlyG.grow {s : List Nat} {a w : World} (h : OnlyG s a w) : OnlyG s a w := h

/-- All that a walk of a Plays law keeps beside its lock: the call began in w; the machine lies in the box T, its blocks, and T, behind C. -/
structure Px (w : World) (C T n nw no : Nat) (b : MB) (m : MS) (wr : World) : Prop where
  bel : Below w.heap.size w wr
  lt : w.heap.size ≤ C ∧ C ≤ T ∧ T < wr.heap.size
  box : Blk wr T #[.int .i64 n, .slice (some ⟨b.bW, 0, none⟩) nw b.cW, .slice (some ⟨b.bA, 0, none⟩) n b.cA, .slice (some ⟨b.bO, 0, none⟩) n b.cO] 27
  mach : MBlk wr (fun k => C ≤ k ∧ k ≠ T) n nw no b m
theorem Px.new {w wr : World} {C T n nw no : Nat} {b : MB} {m : MS} (h : Px w C T n nw no b m wr) : ∀ k, wr.heap.size ≤ k → C ≤ k ∧ k ≠ T := fun k hk => by have := h.lt; omega
theorem Px.below {w wr w' : World} {C T n nw no : Nat} {b : MB} {m : MS} (h : Px w C T n nw no b m wr) (hb : Below wr.heap.size wr w') : Px w C T n nw no b m w' :=
  ⟨h.bel.trans (hb.mono h.bel.size), ⟨h.lt.1, h.lt.2.1, Nat.lt_of_lt_of_le h.lt.2.2 hb.size⟩, h.box.below hb h.lt.2.2, h.mach.below hb⟩
theorem Px.only {w wr w' : World} {C T n nw no : Nat} {b : MB} {m : MS} {fb : List Nat} (h : Px w C T n nw no b m wr) (ho : OnlyG fb wr w') (hf : ∀ k ∈ fb, w.heap.size ≤ k ∧ k < C) : Px w C T n nw no b m w' := by
  have hlt := h.lt
  refine ⟨h.bel.trans (ho.below (fun k hk => (hf k hk).1) h.bel.size), ⟨h.lt.1, h.lt.2.1, Nat.lt_of_lt_of_le h.lt.2.2 ho.size_le⟩, ?_, h.mach.stay (fun k hk hl => ho.block k hl (fun hm => by have := hf k hm; omega))⟩
  have hb := h.box
  unfold Blk at *
  rw [ho.block T hlt.2.2 (fun hm => by have := hf T hm; omega)]; exact hb
theorem Px.drewN {w wr : World} {C T n nw no : Nat} {b : MB} {m : MS} (h : Px w C T n nw no b m wr) (k : Nat) : Px w C T n nw no b m (wr.drewN k) :=
  ⟨⟨h.bel.os, h.bel.tape, h.bel.output, h.bel.size, h.bel.block⟩, h.lt, h.box, h.mach.stay (fun _ _ _ => rfl)⟩
theorem Px.drew {w wr : World} {C T n nw no : Nat} {b : MB} {m : MS} (h : Px w C T n nw no b m wr) : Px w C T n nw no b m wr.drew :=
  ⟨⟨h.bel.os, h.bel.tape, h.bel.output, h.bel.size, h.bel.block⟩, h.lt, h.box, h.mach.stay (fun _ _ _ => rfl)⟩
theorem Px.rebox {w wr : World} {C T n nw no : Nat} {b b' : MB} {m m' : MS} (h : Px w C T n nw no b m wr) (hm : MBlk wr (fun k => C ≤ k ∧ k ≠ T) n nw no b' m') :
    Px w C T n nw no b' m' ((((wr.setCell ⟨T, 0, none⟩ (.int .i64 n)).setCell ⟨T, 1, none⟩ (.slice (some ⟨b'.bW, 0, none⟩) nw b'.cW)).setCell ⟨T, 2, none⟩ (.slice (some ⟨b'.bA, 0, none⟩) n b'.cA)).setCell ⟨T, 3, none⟩ (.slice (some ⟨b'.bO, 0, none⟩) n b'.cO)) := by
  have nA : ¬ (C ≤ T ∧ T ≠ T) := by omega
  have hle : w.heap.size ≤ T := by have := h.lt; omega
  exact ⟨(((h.bel.setCell (p := ⟨T, 0, none⟩) hle _).setCell (p := ⟨T, 1, none⟩) hle _).setCell (p := ⟨T, 2, none⟩) hle _).setCell (p := ⟨T, 3, none⟩) hle _,
    ⟨h.lt.1, h.lt.2.1, by simpa using h.lt.2.2⟩, out4 h.box _ _ _ _, (((hm.put nA _ _).put nA _ _).put nA _ _).put nA _ _⟩
/-- At the start. -/
theorem Px.start {w w0 w1 : World} {C n nw no : Nat} {b : MB} {m : MS} (hb : Below w.heap.size w w1) (hC : w.heap.size ≤ C) (hCs : C ≤ w1.heap.size) (hm : MBlk w1 (fun k => C ≤ k) n nw no b m) (h1 : 1 ≤ nw) (h2 : 1 ≤ n) :
    Px w C w1.heap.size n nw no b m (w1.alloc (.cells #[.int .i64 n, .slice (some ⟨b.bW, 0, none⟩) nw b.cW, .slice (some ⟨b.bA, 0, none⟩) n b.cA, .slice (some ⟨b.bO, 0, none⟩) n b.cO] 27)) :=
  ⟨hb.alloc hb.size _, ⟨hC, hCs, by simp⟩, Blk.new _ _ _, ((hm.inside h1 h2).below ((Below.refl _ _).alloc (Nat.le_refl _) _)).weak (fun k hk => ⟨hk.1, Nat.ne_of_lt hk.2⟩)⟩
section
variable {w wr : World} {C T n nw no : Nat} {b : MB} {m : MS} (h : Px w C T n nw no b m wr)
include h
theorem Px.c0 : wr.cell? ⟨T, 0, none⟩ = some (.int .i64 n) := h.box.cell 0
theorem Px.c1 : wr.cell? ⟨T, 1, none⟩ = some (.slice (some ⟨b.bW, 0, none⟩) nw b.cW) := h.box.cell 1
theorem Px.c2 : wr.cell? ⟨T, 2, none⟩ = some (.slice (some ⟨b.bA, 0, none⟩) n b.cA) := h.box.cell 2
theorem Px.c3 : wr.cell? ⟨T, 3, none⟩ = some (.slice (some ⟨b.bO, 0, none⟩) n b.cO) := h.box.cell 3
theorem Px.f (i : Nat) : wr.frozen? ⟨T, i, none⟩ = false := h.box.free i
theorem Px.laid (hg : TypeLaid w) : TypeLaid wr := hg.below h.bel hg.pos
end

theorem inS_yes {n l h : Int} {w : World} (h1 : l ≤ n) (h2 : n ≤ h) :
    Calls Tryd.prog 16 #[.int .i64 n, .int .i64 l, .int .i64 h] w fun e w' => e = .returned (.bool true) ∧ w = w' := by
  go_enter Tryd.func16, Tryd.ntmps16
  go_wp2
  go_ret
  exact ⟨rfl, rfl⟩
theorem inS_no {n l h : Int} {w : World} (h1 : n < l ∨ h < n) :
    Calls Tryd.prog 16 #[.int .i64 n, .int .i64 l, .int .i64 h] w fun e w' => e = .returned (.bool false) ∧ w = w' := by
  by_cases g : n < l
  · clear h1
    go_enter Tryd.func16, Tryd.ntmps16
    go_wp2
    go_ret
    exact ⟨rfl, rfl⟩
  · have g1 : l ≤ n := by omega
    have g2 : decide (n ≤ h) = false := by simp; omega
    clear h1 g
    go_enter Tryd.func16, Tryd.ntmps16
    go_wp2
    go_ret
    exact ⟨rfl, rfl⟩
end Go.Proofs.YtgkfgijmccojjaaDoor
