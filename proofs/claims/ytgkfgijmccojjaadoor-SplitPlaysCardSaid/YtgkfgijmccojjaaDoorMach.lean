import Derived.Test.YtgkfgijmccojjaaDoorClone
import Derived.Handy
import Derived.StillTailTactics
import Derived.Deep.Cut
import Derived.Deep.RegionHeld3
namespace Go.Proofs.YtgkfgijmccojjaaDoor
open Go.RowKit
set_option linter.unusedVariables false

theorem Row.stay {w w' : World} {b n : Nat} {ad : Nat → Nat} {f : Nat → Int} (h : Row w b n ad f) (hk : b < w.heap.size → w'.heap[b]? = w.heap[b]?) : Row w' b n ad f := by
  intro j hj
  have hb : b < w.heap.size := World.block_lt_of_cell? (w := w) (a := ⟨b, ad j, none⟩) (h j hj).1
  rw [World.cell?_of_block (w := w) (hk hb), World.frozen?_of_block (w := w) (hk hb)]
  exact h j hj

set_option maxHeartbeats 2000000 in
set_option maxRecDepth 100000 in
/-- set: a new row, one number turned. -/
theorem set_any {w : World} {b n cap i : Nat} {I v : Int} {f : Nat → Int} (hI : I = (i : Int)) (h1 : 1 ≤ n) (h2 : n ≤ 1000) (hi : i < n) (hR : Row w b n (fun j => j) f) :
    Calls Tryd.prog 80 #[.slice (some ⟨b, 0, none⟩) n cap, .int .i64 I, .int .i64 v] w (Cloned n (upd f i v) w) := by
  subst hI
  obtain ⟨i0, hi0, hz0, hz1, hz2⟩ := info_parts infoInt
  have hb : b < w.heap.size := World.block_lt_of_cell? (w := w) (a := ⟨b, 0, none⟩) (hR 0 (by omega)).1
  have hown : w.ownsRow w.heap.size 3 1 (.slice none 0 0) 0 [] := ⟨rfl, .inl ⟨rfl, rfl⟩⟩
  go_enter Tryd.func80, Tryd.ntmps80
  go_wp2_with (at_builtin; refine wpList_append_own _ rfl _ _ 22 rfl w.heap.size 3 i0 (.int .i64 0) 1 8 Tryd.underlying22 hi0 hz0 hz1 hz2 rfl (by decide) _ 0 [] rfl hown ⟨b, 0, none⟩ n cap (rowCells f n) rfl ?c0 ?c1 ?c2 ?c3 ?c4 ?c5 ?_)
  case c0 => simp [rowCells]
  case c1 =>
    intro j u hu
    have hj : j < n := by
      have := (List.getElem?_eq_some_iff.1 hu).1
      simpa [rowCells] using this
    have e1 : Addr.add ⟨b, 0, none⟩ j = ⟨b, j, none⟩ := by
      unfold Addr.add; split
      · subst_vars; rfl
      · simp
    rw [e1, (hR j hj).1]
    simpa [rowCells, hj] using hu
  case c2 => intro u hu; simp [rowCells] at hu; obtain ⟨j, -, rfl⟩ := hu; rfl
  case c3 => unfold maxLen; omega
  case c4 => omega
  case c5 => simp
  intro v' w1 hown' hgrow _
  obtain ⟨g, cp, hv, hg, hlt, hrow⟩ := own_row hown' (by omega)
  have hbel : Below w.heap.size w w1 := (Below.refl _ _).grown hgrow (Nat.le_refl _) (own_base hown)
  have hc := (hrow i hi).1
  have hf := (hrow i hi).2
  simp only at hc hf
  have hin : (i : Int) < n := by omega
  have hnew : Row (w1.setCell ⟨g, i, none⟩ (.int .i64 v)) g n (fun j => j) (upd f i v) := hrow.set (i := i) hi (fun j _ e => e) v
  have hbn := hbel.setCell (p := ⟨g, i, none⟩) hg (.int .i64 v)
  rw [hv]
  clear hi0 hz0 hz1 hz2 hown hown' hgrow hv hR
  go_wp2_with fail
  go_ret
  exact ⟨g, cp, rfl, hg, by simpa using hlt, hnew, hbn⟩

/-- The document's machine: words, lines, own numbers. -/
structure MS where
  wd : Nat → Int
  at_ : Nat → Int
  ow : Nat → Nat → Int
def updR (f : Nat → Nat → Int) (p i : Nat) (v : Int) : Nat → Nat → Int := fun q => if q = p then upd (f p) i v else f q
def own1 (m : MS) (p i : Nat) (v : Int) : MS := { m with ow := updR m.ow p i v }
def word1 (m : MS) (i : Nat) (v : Int) : MS := { m with wd := upd m.wd i v }
def to1 (m : MS) (p : Nat) (v : Int) : MS := { m with at_ := upd m.at_ p v }
def goes1 (m : MS) (p : Nat) (b : Bool) (v : Int) : MS := to1 m p (if b = true then m.at_ p + 1 else v)

/-- A row of rows. -/
def Grid (w : World) (A : Nat → Prop) (b n no : Nat) (ob oc : Nat → Nat) (f : Nat → Nat → Int) : Prop :=
  ∀ p, p < n → w.cell? ⟨b, p, none⟩ = some (.slice (some ⟨ob p, 0, none⟩) no (oc p)) ∧ w.frozen? ⟨b, p, none⟩ = false ∧ (1 ≤ no → A (ob p)) ∧ Row w (ob p) no (fun j => j) (f p)
theorem Grid.stay {w w' : World} {A : Nat → Prop} {b n no : Nat} {ob oc : Nat → Nat} {f : Nat → Nat → Int} (h : Grid w A b n no ob oc f) (hb : A b) (hk : ∀ k, A k → k < w.heap.size → w'.heap[k]? = w.heap[k]?) : Grid w' A b n no ob oc f := by
  intro p hp
  obtain ⟨hc, hf, ho, hr⟩ := h p hp
  have hbl : b < w.heap.size := World.block_lt_of_cell? (w := w) (a := ⟨b, p, none⟩) hc
  exact ⟨by rw [World.cell?_of_block (w := w) (hk b hb hbl)]; exact hc, by rw [World.frozen?_of_block (w := w) (hk b hb hbl)]; exact hf, ho, fun j hj => hr.stay (fun hl => hk _ (ho (by omega)) hl) j hj⟩

/-- Where a machine lies. -/
structure MB where
  bW : Nat
  cW : Nat
  bA : Nat
  cA : Nat
  bO : Nat
  cO : Nat
  ob : Nat → Nat
  oc : Nat → Nat
/-- The machine m lies in blocks of which A speaks. -/
structure MBlk (w : World) (A : Nat → Prop) (n nw no : Nat) (b : MB) (m : MS) : Prop where
  w0 : A b.bW
  a0 : A b.bA
  o0 : A b.bO
  rW : Row w b.bW nw (fun j => j) m.wd
  rA : Row w b.bA n (fun j => j) m.at_
  rO : Grid w A b.bO n no b.ob b.oc m.ow
theorem MBlk.stay {w w' : World} {A : Nat → Prop} {n nw no : Nat} {b : MB} {m : MS} (h : MBlk w A n nw no b m) (hk : ∀ k, A k → k < w.heap.size → w'.heap[k]? = w.heap[k]?) : MBlk w' A n nw no b m :=
  ⟨h.w0, h.a0, h.o0, h.rW.stay (hk _ h.w0), h.rA.stay (hk _ h.a0), h.rO.stay h.o0 hk⟩
theorem MBlk.below {w w' : World} {A : Nat → Prop} {n nw no : Nat} {b : MB} {m : MS} (h : MBlk w A n nw no b m) (hb : Below w.heap.size w w') : MBlk w' A n nw no b m :=
  h.stay (fun k _ hk => hb.block k hk)
theorem MBlk.put {w : World} {A : Nat → Prop} {n nw no : Nat} {b : MB} {m : MS} (h : MBlk w A n nw no b m) {c : Nat} (hc : ¬ A c) (i : Nat) (u : Value) : MBlk (w.setCell ⟨c, i, none⟩ u) A n nw no b m :=
  h.stay (fun k hk _ => Below.heap_setCell _ _ _ _ (fun e => hc (by subst e; exact hk)))
theorem MBlk.weak {w : World} {A A' : Nat → Prop} {n nw no : Nat} {b : MB} {m : MS} (h : MBlk w A n nw no b m) (hA : ∀ k, A k → A' k) : MBlk w A' n nw no b m :=
  ⟨hA _ h.w0, hA _ h.a0, hA _ h.o0, h.rW, h.rA, fun p hp => ⟨(h.rO p hp).1, (h.rO p hp).2.1, fun h1 => hA _ ((h.rO p hp).2.2.1 h1), (h.rO p hp).2.2.2⟩⟩
/-- Of its blocks, all lie in the world's heap. -/
theorem MBlk.inside {w : World} {A : Nat → Prop} {n nw no : Nat} {b : MB} {m : MS} (h : MBlk w A n nw no b m) (h1 : 1 ≤ nw) (h2 : 1 ≤ n) : MBlk w (fun k => A k ∧ k < w.heap.size) n nw no b m :=
  ⟨⟨h.w0, World.block_lt_of_cell? (w := w) (a := ⟨b.bW, 0, none⟩) (h.rW 0 (by omega)).1⟩, ⟨h.a0, World.block_lt_of_cell? (w := w) (a := ⟨b.bA, 0, none⟩) (h.rA 0 (by omega)).1⟩,
   ⟨h.o0, World.block_lt_of_cell? (w := w) (a := ⟨b.bO, 0, none⟩) (h.rO 0 (by omega)).1⟩, h.rW, h.rA,
   fun p hp => ⟨(h.rO p hp).1, (h.rO p hp).2.1, fun h3 => ⟨(h.rO p hp).2.2.1 h3, World.block_lt_of_cell? (w := w) (a := ⟨b.ob p, 0, none⟩) ((h.rO p hp).2.2.2 0 (by omega)).1⟩, (h.rO p hp).2.2.2⟩⟩
def MB.cells (b : MB) (n nw : Nat) : Array Value := #[.int .i64 n, .slice (some ⟨b.bW, 0, none⟩) nw b.cW, .slice (some ⟨b.bA, 0, none⟩) n b.cA, .slice (some ⟨b.bO, 0, none⟩) n b.cO]
def MB.val (b : MB) (n nw : Nat) : Value := .agg #[.int .i64 n, .slice (some ⟨b.bW, 0, none⟩) nw b.cW, .slice (some ⟨b.bA, 0, none⟩) n b.cA, .slice (some ⟨b.bO, 0, none⟩) n b.cO]
theorem MBlk.word {w : World} {A : Nat → Prop} {n nw no : Nat} {b : MB} {m : MS} (h : MBlk w A n nw no b m) (i : Nat) (hi : i < nw) : w.cell? ⟨b.bW, i, none⟩ = some (.int .i64 (m.wd i)) := (h.rW i hi).1
theorem MBlk.line {w : World} {A : Nat → Prop} {n nw no : Nat} {b : MB} {m : MS} (h : MBlk w A n nw no b m) (i : Nat) (hi : i < n) : w.cell? ⟨b.bA, i, none⟩ = some (.int .i64 (m.at_ i)) := (h.rA i hi).1
theorem MBlk.row {w : World} {A : Nat → Prop} {n nw no : Nat} {b : MB} {m : MS} (h : MBlk w A n nw no b m) (p : Nat) (hp : p < n) : w.cell? ⟨b.bO, p, none⟩ = some (.slice (some ⟨b.ob p, 0, none⟩) no (b.oc p)) := (h.rO p hp).1
theorem MBlk.num {w : World} {A : Nat → Prop} {n nw no : Nat} {b : MB} {m : MS} (h : MBlk w A n nw no b m) (p i : Nat) (hp : p < n) (hi : i < no) : w.cell? ⟨b.ob p, i, none⟩ = some (.int .i64 (m.ow p i)) := ((h.rO p hp).2.2.2 i hi).1

def MRep (w : World) (A : Nat → Prop) (n nw no : Nat) (v : Value) (m : MS) : Prop := ∃ b : MB, v = b.val n nw ∧ MBlk w A n nw no b m
theorem MRep.stay {w w' : World} {A : Nat → Prop} {n nw no : Nat} {v : Value} {m : MS} (h : MRep w A n nw no v m) (hk : ∀ k, A k → k < w.heap.size → w'.heap[k]? = w.heap[k]?) : MRep w' A n nw no v m := by
  obtain ⟨b, rfl, h⟩ := h
  exact ⟨b, rfl, h.stay hk⟩
theorem MRep.below {w w' : World} {A : Nat → Prop} {n nw no : Nat} {v : Value} {m : MS} (h : MRep w A n nw no v m) (hb : Below w.heap.size w w') : MRep w' A n nw no v m :=
  h.stay (fun k _ hk => hb.block k hk)

/-- What a function of the machine gives. -/
def Next (A : Nat → Prop) (n nw no : Nat) (m : MS) (w : World) (e : Ending) (w' : World) : Prop :=
  ∃ v, e = .returned v ∧ MRep w' A n nw no v m ∧ Below w.heap.size w w'

theorem Next.eq {A : Nat → Prop} {n nw no : Nat} {m m' : MS} {w w' : World} {e : Ending} (h : Next A n nw no m w e w') (h1 : ∀ i, i < nw → m.wd i = m'.wd i) (h2 : ∀ p, p < n → m.at_ p = m'.at_ p) (h3 : ∀ p, p < n → ∀ i, i < no → m.ow p i = m'.ow p i) : Next A n nw no m' w e w' := by
  obtain ⟨v, rfl, ⟨b, rfl, hm⟩, hb⟩ := h
  exact ⟨_, rfl, ⟨b, rfl, ⟨hm.w0, hm.a0, hm.o0, hm.rW.eq h1, hm.rA.eq h2, fun p hp => ⟨(hm.rO p hp).1, (hm.rO p hp).2.1, (hm.rO p hp).2.2.1, (hm.rO p hp).2.2.2.eq (h3 p hp)⟩⟩⟩, hb⟩

/-- A function of the machine has put its machine into a box, and made one for the result. -/
structure Boxed (w wx : World) (n nw : Nat) (b : MB) : Prop where
  bel : Below w.heap.size w wx
  size : wx.heap.size = w.heap.size + 2
  box : Blk wx w.heap.size #[.int .i64 n, .slice (some ⟨b.bW, 0, none⟩) nw b.cW, .slice (some ⟨b.bA, 0, none⟩) n b.cA, .slice (some ⟨b.bO, 0, none⟩) n b.cO] 27
  out : Blk wx (w.heap.size + 1) #[.int .i64 0, .slice none 0 0, .slice none 0 0, .slice none 0 0] 27
theorem boxed (w : World) (n nw : Nat) (b : MB) : Boxed w ((w.alloc (.cells #[.int .i64 n, .slice (some ⟨b.bW, 0, none⟩) nw b.cW, .slice (some ⟨b.bA, 0, none⟩) n b.cA, .slice (some ⟨b.bO, 0, none⟩) n b.cO] 27)).alloc
    (.cells #[.int .i64 0, .slice none 0 0, .slice none 0 0, .slice none 0 0] 27)) n nw b := by
  refine ⟨((Below.refl _ _).alloc (Nat.le_refl _) _).alloc (by simp) _, by simp, (Blk.new _ _ _).alloc _, ?_⟩
  have h := Blk.new (w.alloc (.cells #[.int .i64 n, .slice (some ⟨b.bW, 0, none⟩) nw b.cW, .slice (some ⟨b.bA, 0, none⟩) n b.cA, .slice (some ⟨b.bO, 0, none⟩) n b.cO] 27)) #[.int .i64 0, .slice none 0 0, .slice none 0 0, .slice none 0 0] 27
  simpa using h
/-- A machine that is returned out of the result's box. -/
theorem ret_mach {fn : Func} {R : Ending → World → Prop} {a : Act} {W : World} {t c : Nat} {v0 v1 v2 v3 : Value} (h : fn.results = #[.cell t 27]) (ht : a.tmps[t]?.getD undef = .pointer (some ⟨c, 0, none⟩))
    (c0 : W.cell? ⟨c, 0, none⟩ = some v0) (c1 : W.cell? ⟨c, 1, none⟩ = some v1) (c2 : W.cell? ⟨c, 2, none⟩ = some v2) (c3 : W.cell? ⟨c, 3, none⟩ = some v3) (hd : a.defers = []) (hR : R (.returned (.agg #[v0, v1, v2, v3])) W) :
    bodyPost Tryd.prog fn R .ret a W := by
  refine bodyPost_ret ?_ hd hR
  simp [results, h, ht, go_sem, c0, c1, c2, c3]
theorem out4 {w : World} {c : Nat} {x0 x1 x2 x3 : Value} {T : TypeId} (k : Blk w c #[x0, x1, x2, x3] T) (v0 v1 v2 v3 : Value) :
    Blk ((((w.setCell ⟨c, 0, none⟩ v0).setCell ⟨c, 1, none⟩ v1).setCell ⟨c, 2, none⟩ v2).setCell ⟨c, 3, none⟩ v3) c #[v0, v1, v2, v3] T :=
  Blk.eq ((((k.set 0 v0).set 1 v1).set 2 v2).set 3 v3) (by simp)

/-- The machine that a function leaves, behind the stores into its two boxes. -/
theorem finish {w w2 : World} {A : Nat → Prop} {n nw no : Nat} {b : MB} {m : MS} (hm : MBlk w2 (fun k => A k ∧ k ≠ w.heap.size ∧ k ≠ w.heap.size + 1) n nw no b m) (hb : Below w.heap.size w w2) :
    Next A n nw no m w (.returned (.agg #[.int .i64 n, .slice (some ⟨b.bW, 0, none⟩) nw b.cW, .slice (some ⟨b.bA, 0, none⟩) n b.cA, .slice (some ⟨b.bO, 0, none⟩) n b.cO]))
      ((((w2.setCell ⟨w.heap.size + 1, 0, none⟩ (.int .i64 n)).setCell ⟨w.heap.size + 1, 1, none⟩ (.slice (some ⟨b.bW, 0, none⟩) nw b.cW)).setCell ⟨w.heap.size + 1, 2, none⟩ (.slice (some ⟨b.bA, 0, none⟩) n b.cA)).setCell ⟨w.heap.size + 1, 3, none⟩ (.slice (some ⟨b.bO, 0, none⟩) n b.cO)) := by
  have nA : ¬ (A (w.heap.size + 1) ∧ w.heap.size + 1 ≠ w.heap.size ∧ w.heap.size + 1 ≠ w.heap.size + 1) := by omega
  exact ⟨_, rfl, ⟨b, rfl, ((((hm.put nA _ _).put nA _ _).put nA _ _).put nA _ _).weak (fun k hk => hk.1)⟩,
    (((hb.setCell (p := ⟨w.heap.size + 1, 0, none⟩) (by simp) _).setCell (p := ⟨w.heap.size + 1, 1, none⟩) (by simp) _).setCell (p := ⟨w.heap.size + 1, 2, none⟩) (by simp) _).setCell (p := ⟨w.heap.size + 1, 3, none⟩) (by simp) _⟩
/-- The two boxes, behind what leaves them. -/
structure Held (N n nw : Nat) (b : MB) (w : World) : Prop where
  box : Blk w N #[.int .i64 n, .slice (some ⟨b.bW, 0, none⟩) nw b.cW, .slice (some ⟨b.bA, 0, none⟩) n b.cA, .slice (some ⟨b.bO, 0, none⟩) n b.cO] 27
  out : Blk w (N + 1) #[.int .i64 0, .slice none 0 0, .slice none 0 0, .slice none 0 0] 27
  lt : N + 1 < w.heap.size
theorem Held.below {N n nw : Nat} {b : MB} {w w' : World} (h : Held N n nw b w) (hb : Below w.heap.size w w') : Held N n nw b w' :=
  ⟨h.box.below hb (by have := h.lt; omega), h.out.below hb h.lt, Nat.lt_of_lt_of_le h.lt hb.size⟩
theorem Held.c0 {N n nw : Nat} {b : MB} {w : World} (h : Held N n nw b w) : w.cell? ⟨N, 0, none⟩ = some (.int .i64 n) := h.box.cell 0
theorem Held.c1 {N n nw : Nat} {b : MB} {w : World} (h : Held N n nw b w) : w.cell? ⟨N, 1, none⟩ = some (.slice (some ⟨b.bW, 0, none⟩) nw b.cW) := h.box.cell 1
theorem Held.c2 {N n nw : Nat} {b : MB} {w : World} (h : Held N n nw b w) : w.cell? ⟨N, 2, none⟩ = some (.slice (some ⟨b.bA, 0, none⟩) n b.cA) := h.box.cell 2
theorem Held.c3 {N n nw : Nat} {b : MB} {w : World} (h : Held N n nw b w) : w.cell? ⟨N, 3, none⟩ = some (.slice (some ⟨b.bO, 0, none⟩) n b.cO) := h.box.cell 3
theorem Held.o0 {N n nw : Nat} {b : MB} {w : World} (h : Held N n nw b w) : w.cell? ⟨N + 1, 0, none⟩ = some (.int .i64 0) := h.out.cell 0
theorem Held.o1 {N n nw : Nat} {b : MB} {w : World} (h : Held N n nw b w) : w.cell? ⟨N + 1, 1, none⟩ = some (.slice none 0 0) := h.out.cell 1
theorem Held.o2 {N n nw : Nat} {b : MB} {w : World} (h : Held N n nw b w) : w.cell? ⟨N + 1, 2, none⟩ = some (.slice none 0 0) := h.out.cell 2
theorem Held.o3 {N n nw : Nat} {b : MB} {w : World} (h : Held N n nw b w) : w.cell? ⟨N + 1, 3, none⟩ = some (.slice none 0 0) := h.out.cell 3
theorem Boxed.held {w wx : World} {n nw : Nat} {b : MB} (h : Boxed w wx n nw b) : Held w.heap.size n nw b wx := ⟨h.box, h.out, by rw [h.size]; omega⟩
theorem Held.drew {N n nw : Nat} {b : MB} {w : World} (h : Held N n nw b w) : Held N n nw b w.drew := ⟨h.box, h.out, h.lt⟩
theorem MBlk.drew {w : World} {A : Nat → Prop} {n nw no : Nat} {b : MB} {m : MS} (h : MBlk w A n nw no b m) : MBlk w.drew A n nw no b m := h.stay (fun _ _ _ => rfl)
theorem MRep.drew {w : World} {A : Nat → Prop} {n nw no : Nat} {v : Value} {m : MS} (h : MRep w A n nw no v m) : MRep w.drew A n nw no v m := h.stay (fun _ _ _ => rfl)
theorem Below.ofdrew {B : Nat} {w w' : World} (h : Below B w.drew w') : Below B w w' := ⟨h.os, h.tape, h.output, h.size, h.block⟩
theorem Below.todrew {B : Nat} {w w' : World} (h : Below B w w') : Below B w w'.drew := ⟨h.os, h.tape, h.output, h.size, h.block⟩
/-- The machine itself, apart from the boxes. -/
theorem Boxed.mach {w wx : World} {A : Nat → Prop} {n nw no : Nat} {b : MB} {m : MS} (hx : Boxed w wx n nw b) (h : MBlk w A n nw no b m) (h1 : 1 ≤ nw) (h2 : 1 ≤ n) :
    MBlk wx (fun k => A k ∧ k ≠ w.heap.size ∧ k ≠ w.heap.size + 1) n nw no b m :=
  ((h.inside h1 h2).stay (fun k hk _ => hx.bel.block k hk.2)).weak (fun k hk => ⟨hk.1, by omega, by omega⟩)
/-- All that a walk of a function of the machine keeps: the call began in w, the world is wx now. -/
structure Cx (w : World) (A : Nat → Prop) (wx : World) (n nw no : Nat) (b : MB) (m : MS) : Prop where
  bel : Below w.heap.size w wx
  held : Held w.heap.size n nw b wx
  mach : MBlk wx (fun k => A k ∧ k ≠ w.heap.size ∧ k ≠ w.heap.size + 1) n nw no b m
  new : ∀ k, wx.heap.size ≤ k → A k ∧ k ≠ w.heap.size ∧ k ≠ w.heap.size + 1
theorem Boxed.cx {w wx : World} {A : Nat → Prop} {n nw no : Nat} {b : MB} {m : MS} (hx : Boxed w wx n nw b) (h : MBlk w A n nw no b m) (hA : ∀ k, w.heap.size ≤ k → A k) (h1 : 1 ≤ nw) (h2 : 1 ≤ n) : Cx w A wx n nw no b m :=
  ⟨hx.bel, hx.held, hx.mach h h1 h2, fun k hk => by have := hx.size; exact ⟨hA k (by omega), by omega, by omega⟩⟩
theorem Cx.below {w wx w' : World} {A : Nat → Prop} {n nw no : Nat} {b : MB} {m : MS} (h : Cx w A wx n nw no b m) (hb : Below wx.heap.size wx w') : Cx w A w' n nw no b m :=
  ⟨h.bel.trans (hb.mono h.bel.size), h.held.below hb, h.mach.below hb, fun k hk => h.new k (Nat.le_trans hb.size hk)⟩
theorem Cx.drew {w wx : World} {A : Nat → Prop} {n nw no : Nat} {b : MB} {m : MS} (h : Cx w A wx n nw no b m) : Cx w A wx.drew n nw no b m :=
  ⟨Below.todrew h.bel, h.held.drew, h.mach.drew, h.new⟩
theorem Cx.drewN {w wx : World} {A : Nat → Prop} {n nw no : Nat} {b : MB} {m : MS} (h : Cx w A wx n nw no b m) (k : Nat) : Cx w A (wx.drewN k) n nw no b m :=
  ⟨⟨h.bel.os, h.bel.tape, h.bel.output, h.bel.size, h.bel.block⟩, ⟨h.held.box, h.held.out, h.held.lt⟩, h.mach.stay (fun _ _ _ => rfl), h.new⟩
theorem Cx.alloc {w wx : World} {A : Nat → Prop} {n nw no : Nat} {b : MB} {m : MS} (h : Cx w A wx n nw no b m) (o : Obj) : Cx w A (wx.alloc o) n nw no b m := h.below ((Below.refl _ _).alloc (Nat.le_refl _) o)
theorem set4 {w : World} {c : Nat} {a : Addr} (v0 v1 v2 v3 : Value) (h : a.block ≠ c) : ((((w.setCell ⟨c, 0, none⟩ v0).setCell ⟨c, 1, none⟩ v1).setCell ⟨c, 2, none⟩ v2).setCell ⟨c, 3, none⟩ v3).cell? a = w.cell? a := by
  have e : ∀ i, (⟨c, i, none⟩ : Addr) ≠ a := fun i x => h (by rw [← x])
  rw [World.cell?_setCell_other _ _ _ _ (e 3), World.cell?_setCell_other _ _ _ _ (e 2), World.cell?_setCell_other _ _ _ _ (e 1), World.cell?_setCell_other _ _ _ _ (e 0)]
/-- The box filled anew. -/
theorem Cx.rebox {w wx : World} {A : Nat → Prop} {n nw no : Nat} {b b' : MB} {m m' : MS} (h : Cx w A wx n nw no b m) (hm : MBlk wx (fun k => A k ∧ k ≠ w.heap.size ∧ k ≠ w.heap.size + 1) n nw no b' m') :
    Cx w A ((((wx.setCell ⟨w.heap.size, 0, none⟩ (.int .i64 n)).setCell ⟨w.heap.size, 1, none⟩ (.slice (some ⟨b'.bW, 0, none⟩) nw b'.cW)).setCell ⟨w.heap.size, 2, none⟩ (.slice (some ⟨b'.bA, 0, none⟩) n b'.cA)).setCell ⟨w.heap.size, 3, none⟩ (.slice (some ⟨b'.bO, 0, none⟩) n b'.cO)) n nw no b' m' := by
  have nA : ¬ (A w.heap.size ∧ w.heap.size ≠ w.heap.size ∧ w.heap.size ≠ w.heap.size + 1) := by omega
  have hne : w.heap.size ≠ w.heap.size + 1 := by omega
  exact ⟨(((h.bel.setCell (p := ⟨w.heap.size, 0, none⟩) (Nat.le_refl _) _).setCell (p := ⟨w.heap.size, 1, none⟩) (Nat.le_refl _) _).setCell (p := ⟨w.heap.size, 2, none⟩) (Nat.le_refl _) _).setCell (p := ⟨w.heap.size, 3, none⟩) (Nat.le_refl _) _,
    ⟨out4 h.held.box _ _ _ _, (((h.held.out.other hne 0 _).other hne 1 _).other hne 2 _).other hne 3 _, by simpa using h.held.lt⟩,
    (((hm.put nA _ _).put nA _ _).put nA _ _).put nA _ _, fun k hk => h.new k (by simpa using hk)⟩
/-- A third box filled. -/
theorem Cx.put4 {w wx : World} {A : Nat → Prop} {n nw no c : Nat} {b : MB} {m : MS} (h : Cx w A wx n nw no b m) (hm : MBlk wx (fun k => (A k ∧ k ≠ w.heap.size ∧ k ≠ w.heap.size + 1) ∧ k ≠ c) n nw no b m) (hc : w.heap.size + 2 ≤ c) (v0 v1 v2 v3 : Value) :
    Cx w A ((((wx.setCell ⟨c, 0, none⟩ v0).setCell ⟨c, 1, none⟩ v1).setCell ⟨c, 2, none⟩ v2).setCell ⟨c, 3, none⟩ v3) n nw no b m := by
  have nA : ¬ ((A c ∧ c ≠ w.heap.size ∧ c ≠ w.heap.size + 1) ∧ c ≠ c) := by omega
  have h0 : c ≠ w.heap.size := by omega
  have h1 : c ≠ w.heap.size + 1 := by omega
  have hle : w.heap.size ≤ c := by omega
  exact ⟨(((h.bel.setCell (p := ⟨c, 0, none⟩) hle _).setCell (p := ⟨c, 1, none⟩) hle _).setCell (p := ⟨c, 2, none⟩) hle _).setCell (p := ⟨c, 3, none⟩) hle _,
    ⟨(((h.held.box.other h0 0 _).other h0 1 _).other h0 2 _).other h0 3 _, (((h.held.out.other h1 0 _).other h1 1 _).other h1 2 _).other h1 3 _, by simpa using h.held.lt⟩,
    ((((hm.put nA _ _).put nA _ _).put nA _ _).put nA _ _).weak (fun k hk => hk.1), fun k hk => h.new k (by simpa using hk)⟩
theorem MBlk.put4 {w : World} {A : Nat → Prop} {n nw no c : Nat} {b : MB} {m : MS} (h : MBlk w (fun k => A k ∧ k ≠ c) n nw no b m) (v0 v1 v2 v3 : Value) :
    MBlk ((((w.setCell ⟨c, 0, none⟩ v0).setCell ⟨c, 1, none⟩ v1).setCell ⟨c, 2, none⟩ v2).setCell ⟨c, 3, none⟩ v3) A n nw no b m :=
  ((((h.put (c := c) (by simp) _ _).put (c := c) (by simp) _ _).put (c := c) (by simp) _ _).put (c := c) (by simp) _ _).weak (fun k hk => hk.1)
section
variable {w wx : World} {A : Nat → Prop} {n nw no : Nat} {b : MB} {m : MS} (h : Cx w A wx n nw no b m)
include h
theorem Cx.c0 : wx.cell? ⟨w.heap.size, 0, none⟩ = some (.int .i64 n) := h.held.c0
theorem Cx.c1 : wx.cell? ⟨w.heap.size, 1, none⟩ = some (.slice (some ⟨b.bW, 0, none⟩) nw b.cW) := h.held.c1
theorem Cx.c2 : wx.cell? ⟨w.heap.size, 2, none⟩ = some (.slice (some ⟨b.bA, 0, none⟩) n b.cA) := h.held.c2
theorem Cx.c3 : wx.cell? ⟨w.heap.size, 3, none⟩ = some (.slice (some ⟨b.bO, 0, none⟩) n b.cO) := h.held.c3
theorem Cx.word (i : Nat) (hi : i < nw) : wx.cell? ⟨b.bW, i, none⟩ = some (.int .i64 (m.wd i)) := h.mach.word i hi
theorem Cx.line (p : Nat) (hp : p < n) : wx.cell? ⟨b.bA, p, none⟩ = some (.int .i64 (m.at_ p)) := h.mach.line p hp
theorem Cx.row (p : Nat) (hp : p < n) : wx.cell? ⟨b.bO, p, none⟩ = some (.slice (some ⟨b.ob p, 0, none⟩) no (b.oc p)) := h.mach.row p hp
theorem Cx.num (p i : Nat) (hp : p < n) (hi : i < no) : wx.cell? ⟨b.ob p, i, none⟩ = some (.int .i64 (m.ow p i)) := h.mach.num p i hp hi
theorem Cx.c0s (v0 v1 v2 v3 : Value) : ((((wx.setCell ⟨w.heap.size + 1, 0, none⟩ v0).setCell ⟨w.heap.size + 1, 1, none⟩ v1).setCell ⟨w.heap.size + 1, 2, none⟩ v2).setCell ⟨w.heap.size + 1, 3, none⟩ v3).cell? ⟨w.heap.size, 0, none⟩ = some (.int .i64 n) :=
  (set4 v0 v1 v2 v3 (by simp)).trans h.c0
theorem Cx.c1s (v0 v1 v2 v3 : Value) : ((((wx.setCell ⟨w.heap.size + 1, 0, none⟩ v0).setCell ⟨w.heap.size + 1, 1, none⟩ v1).setCell ⟨w.heap.size + 1, 2, none⟩ v2).setCell ⟨w.heap.size + 1, 3, none⟩ v3).cell? ⟨w.heap.size, 1, none⟩ = some (.slice (some ⟨b.bW, 0, none⟩) nw b.cW) :=
  (set4 v0 v1 v2 v3 (by simp)).trans h.c1
theorem Cx.c2s (v0 v1 v2 v3 : Value) : ((((wx.setCell ⟨w.heap.size + 1, 0, none⟩ v0).setCell ⟨w.heap.size + 1, 1, none⟩ v1).setCell ⟨w.heap.size + 1, 2, none⟩ v2).setCell ⟨w.heap.size + 1, 3, none⟩ v3).cell? ⟨w.heap.size, 2, none⟩ = some (.slice (some ⟨b.bA, 0, none⟩) n b.cA) :=
  (set4 v0 v1 v2 v3 (by simp)).trans h.c2
theorem Cx.c3s (v0 v1 v2 v3 : Value) : ((((wx.setCell ⟨w.heap.size + 1, 0, none⟩ v0).setCell ⟨w.heap.size + 1, 1, none⟩ v1).setCell ⟨w.heap.size + 1, 2, none⟩ v2).setCell ⟨w.heap.size + 1, 3, none⟩ v3).cell? ⟨w.heap.size, 3, none⟩ = some (.slice (some ⟨b.bO, 0, none⟩) n b.cO) :=
  (set4 v0 v1 v2 v3 (by simp)).trans h.c3
theorem Cx.words (i : Nat) (hi : i < nw) (v0 v1 v2 v3 : Value) : ((((wx.setCell ⟨w.heap.size + 1, 0, none⟩ v0).setCell ⟨w.heap.size + 1, 1, none⟩ v1).setCell ⟨w.heap.size + 1, 2, none⟩ v2).setCell ⟨w.heap.size + 1, 3, none⟩ v3).cell? ⟨b.bW, i, none⟩ = some (.int .i64 (m.wd i)) :=
  (set4 v0 v1 v2 v3 h.mach.w0.2.2).trans (h.word i hi)
theorem Cx.lines (p : Nat) (hp : p < n) (v0 v1 v2 v3 : Value) : ((((wx.setCell ⟨w.heap.size + 1, 0, none⟩ v0).setCell ⟨w.heap.size + 1, 1, none⟩ v1).setCell ⟨w.heap.size + 1, 2, none⟩ v2).setCell ⟨w.heap.size + 1, 3, none⟩ v3).cell? ⟨b.bA, p, none⟩ = some (.int .i64 (m.at_ p)) :=
  (set4 v0 v1 v2 v3 h.mach.a0.2.2).trans (h.line p hp)
theorem Cx.rows (p : Nat) (hp : p < n) (v0 v1 v2 v3 : Value) : ((((wx.setCell ⟨w.heap.size + 1, 0, none⟩ v0).setCell ⟨w.heap.size + 1, 1, none⟩ v1).setCell ⟨w.heap.size + 1, 2, none⟩ v2).setCell ⟨w.heap.size + 1, 3, none⟩ v3).cell? ⟨b.bO, p, none⟩ = some (.slice (some ⟨b.ob p, 0, none⟩) no (b.oc p)) :=
  (set4 v0 v1 v2 v3 h.mach.o0.2.2).trans (h.row p hp)
theorem Cx.nums (p i : Nat) (hp : p < n) (hi : i < no) (v0 v1 v2 v3 : Value) : ((((wx.setCell ⟨w.heap.size + 1, 0, none⟩ v0).setCell ⟨w.heap.size + 1, 1, none⟩ v1).setCell ⟨w.heap.size + 1, 2, none⟩ v2).setCell ⟨w.heap.size + 1, 3, none⟩ v3).cell? ⟨b.ob p, i, none⟩ = some (.int .i64 (m.ow p i)) :=
  (set4 v0 v1 v2 v3 ((h.mach.rO p hp).2.2.1 (by omega)).2.2).trans (h.num p i hp hi)
theorem Cx.o0 : wx.cell? ⟨w.heap.size + 1, 0, none⟩ = some (.int .i64 0) := h.held.o0
theorem Cx.o1 : wx.cell? ⟨w.heap.size + 1, 1, none⟩ = some (.slice none 0 0) := h.held.o1
theorem Cx.o2 : wx.cell? ⟨w.heap.size + 1, 2, none⟩ = some (.slice none 0 0) := h.held.o2
theorem Cx.o3 : wx.cell? ⟨w.heap.size + 1, 3, none⟩ = some (.slice none 0 0) := h.held.o3
theorem Cx.fb (i : Nat) : wx.frozen? ⟨w.heap.size, i, none⟩ = false := h.held.box.free i
theorem Cx.f (i : Nat) : wx.frozen? ⟨w.heap.size + 1, i, none⟩ = false := h.held.out.free i
end
/-- A return of the machine b'. -/
theorem Cx.ret {w wx : World} {A : Nat → Prop} {n nw no : Nat} {b b' : MB} {m m' : MS} {fn : Func} {a : Act} {t : Nat} (h : Cx w A wx n nw no b m) (hm : MBlk wx (fun k => A k ∧ k ≠ w.heap.size ∧ k ≠ w.heap.size + 1) n nw no b' m')
    (hf : fn.results = #[.cell t 27]) (ht : a.tmps[t]?.getD undef = .pointer (some ⟨w.heap.size + 1, 0, none⟩)) (hd : a.defers = []) :
    bodyPost Tryd.prog fn (Next A n nw no m' w) .ret a ((((wx.setCell ⟨w.heap.size + 1, 0, none⟩ (.int .i64 n)).setCell ⟨w.heap.size + 1, 1, none⟩ (.slice (some ⟨b'.bW, 0, none⟩) nw b'.cW)).setCell ⟨w.heap.size + 1, 2, none⟩ (.slice (some ⟨b'.bA, 0, none⟩) n b'.cA)).setCell ⟨w.heap.size + 1, 3, none⟩ (.slice (some ⟨b'.bO, 0, none⟩) n b'.cO)) := by
  have kF := out4 h.held.out (.int .i64 n) (.slice (some ⟨b'.bW, 0, none⟩) nw b'.cW) (.slice (some ⟨b'.bA, 0, none⟩) n b'.cA) (.slice (some ⟨b'.bO, 0, none⟩) n b'.cO)
  exact ret_mach hf ht (kF.cell 0) (kF.cell 1) (kF.cell 2) (kF.cell 3) hd (finish hm h.bel)

set_option maxHeartbeats 2000000 in
set_option maxRecDepth 100000 in
theorem word_any {w : World} {A : Nat → Prop} {n nw no i : Nat} {v : Value} {m : MS} {I x : Int} (hI : I = (i : Int)) (h : MRep w A n nw no v m) (hA : ∀ k, w.heap.size ≤ k → A k) (h1 : 1 ≤ n) (h2 : nw ≤ 1000) (hi : i < nw) :
    Calls Tryd.prog 73 #[v, .int .i64 I, .int .i64 x] w (Next A n nw no (word1 m i x) w) := by
  subst hI
  obtain ⟨b, rfl, h⟩ := h
  have H := Lib.hid h
  have HA := Lib.hid hA
  have hx := boxed w n nw b
  clear h hA
  unfold MB.val
  go_enter Tryd.func73, Tryd.ntmps73
  go_wp2_with fail
  generalize (w.alloc (.cells #[.int .i64 n, .slice (some ⟨b.bW, 0, none⟩) nw b.cW, .slice (some ⟨b.bA, 0, none⟩) n b.cA, .slice (some ⟨b.bO, 0, none⟩) n b.cO] 27)).alloc
    (.cells #[.int .i64 0, .slice none 0 0, .slice none 0 0, .slice none 0 0] 27) = wx at hx ⊢
  have hm := hx.mach H.out (by omega) (by omega)
  refine (set_any rfl (by omega) h2 hi hm.rW).mono ?_
  rintro e w' ⟨g, cp, rfl, hg, hlt, hrow, hbel⟩
  have hsz := hx.size
  have hH := hx.held.below hbel
  have hm' := hm.below hbel
  have hbw := hx.bel.trans (hbel.mono (by omega))
  have d0 := hH.c0
  have d1 := hH.c1
  have d2 := hH.c2
  have d3 := hH.c3
  have q0 := hH.o0
  have q1 := hH.o1
  have q2 := hH.o2
  have q3 := hH.o3
  have f1 := hH.box.free 1
  have f2 := hH.out.free 0
  have f3 := hH.out.free 1
  have f4 := hH.out.free 2
  have f5 := hH.out.free 3
  have HH := Lib.hid hH
  clear hx hm hbel hH
  go_wp2_with fail
  have hgA : A g ∧ g ≠ w.heap.size ∧ g ≠ w.heap.size + 1 := ⟨HA.out g (by omega), by omega, by omega⟩
  have nA : ¬ (A w.heap.size ∧ w.heap.size ≠ w.heap.size ∧ w.heap.size ≠ w.heap.size + 1) := by omega
  have hmn : MBlk w' (fun k => A k ∧ k ≠ w.heap.size ∧ k ≠ w.heap.size + 1) n nw no { b with bW := g, cW := cp } (word1 m i x) := ⟨hgA, hm'.a0, hm'.o0, hrow, hm'.rA, hm'.rO⟩
  have kF := out4 (HH.out.out.other (b' := w.heap.size) (by omega) 1 (.slice (some ⟨g, 0, none⟩) nw cp)) (.int .i64 n) (.slice (some ⟨MB.bW { b with bW := g, cW := cp }, 0, none⟩) nw (MB.cW { b with bW := g, cW := cp })) (.slice (some ⟨MB.bA { b with bW := g, cW := cp }, 0, none⟩) n (MB.cA { b with bW := g, cW := cp })) (.slice (some ⟨b.bO, 0, none⟩) n b.cO)
  exact ret_mach rfl rfl (kF.cell 0) (kF.cell 1) (kF.cell 2) (kF.cell 3) rfl (finish (hmn.put nA _ _) (hbw.setCell (p := ⟨w.heap.size, 1, none⟩) (Nat.le_refl _) _))

set_option maxHeartbeats 2000000 in
set_option maxRecDepth 100000 in
theorem to_any {w : World} {A : Nat → Prop} {n nw no p : Nat} {v : Value} {m : MS} {I x : Int} (hI : I = (p : Int)) (h : MRep w A n nw no v m) (hA : ∀ k, w.heap.size ≤ k → A k) (h1 : 1 ≤ nw) (h2 : n ≤ 1000) (hi : p < n) :
    Calls Tryd.prog 72 #[v, .int .i64 I, .int .i64 x] w (Next A n nw no (to1 m p x) w) := by
  subst hI
  obtain ⟨b, rfl, h⟩ := h
  have H := Lib.hid h
  have HA := Lib.hid hA
  have hx := boxed w n nw b
  clear h hA
  unfold MB.val
  go_enter Tryd.func72, Tryd.ntmps72
  go_wp2_with fail
  generalize (w.alloc (.cells #[.int .i64 n, .slice (some ⟨b.bW, 0, none⟩) nw b.cW, .slice (some ⟨b.bA, 0, none⟩) n b.cA, .slice (some ⟨b.bO, 0, none⟩) n b.cO] 27)).alloc
    (.cells #[.int .i64 0, .slice none 0 0, .slice none 0 0, .slice none 0 0] 27) = wx at hx ⊢
  have hm := hx.mach H.out (by omega) (by omega)
  refine (set_any rfl (by omega) h2 hi hm.rA).mono ?_
  rintro e w' ⟨g, cp, rfl, hg, hlt, hrow, hbel⟩
  have hsz := hx.size
  have hH := hx.held.below hbel
  have hm' := hm.below hbel
  have hbw := hx.bel.trans (hbel.mono (by omega))
  have d0 := hH.c0
  have d1 := hH.c1
  have d2 := hH.c2
  have d3 := hH.c3
  have q0 := hH.o0
  have q1 := hH.o1
  have q2 := hH.o2
  have q3 := hH.o3
  have f1 := hH.box.free 2
  have f2 := hH.out.free 0
  have f3 := hH.out.free 1
  have f4 := hH.out.free 2
  have f5 := hH.out.free 3
  have HH := Lib.hid hH
  clear hx hm hbel hH
  go_wp2_with fail
  have hgA : A g ∧ g ≠ w.heap.size ∧ g ≠ w.heap.size + 1 := ⟨HA.out g (by omega), by omega, by omega⟩
  have nA : ¬ (A w.heap.size ∧ w.heap.size ≠ w.heap.size ∧ w.heap.size ≠ w.heap.size + 1) := by omega
  have hmn : MBlk w' (fun k => A k ∧ k ≠ w.heap.size ∧ k ≠ w.heap.size + 1) n nw no { b with bA := g, cA := cp } (to1 m p x) := ⟨hm'.w0, hgA, hm'.o0, hm'.rW, hrow, hm'.rO⟩
  have kF := out4 (HH.out.out.other (b' := w.heap.size) (by omega) 2 (.slice (some ⟨g, 0, none⟩) n cp)) (.int .i64 n) (.slice (some ⟨MB.bW { b with bA := g, cA := cp }, 0, none⟩) nw (MB.cW { b with bA := g, cA := cp })) (.slice (some ⟨MB.bA { b with bA := g, cA := cp }, 0, none⟩) n (MB.cA { b with bA := g, cA := cp })) (.slice (some ⟨b.bO, 0, none⟩) n b.cO)
  exact ret_mach rfl rfl (kF.cell 0) (kF.cell 1) (kF.cell 2) (kF.cell 3) rfl (finish (hmn.put nA _ _) (hbw.setCell (p := ⟨w.heap.size, 2, none⟩) (Nat.le_refl _) _))

set_option maxHeartbeats 2000000 in
set_option maxRecDepth 100000 in
theorem goes_no {w : World} {A : Nat → Prop} {n nw no p : Nat} {v : Value} {m : MS} {x : Int} (h : MRep w A n nw no v m) (hA : ∀ k, w.heap.size ≤ k → A k) (h1 : 1 ≤ nw) (h2 : n ≤ 1000) (hi : p < n) :
    Calls Tryd.prog 74 #[v, .int .i64 p, .bool false, .int .i64 x] w (Next A n nw no (to1 m p x) w) := by
  obtain ⟨b, rfl, h⟩ := h
  have HC := Lib.hid ((boxed w n nw b).cx h hA (by omega) (by omega))
  clear h hA
  unfold MB.val
  go_enter Tryd.func74, Tryd.ntmps74
  go_wp2_with fail
  generalize (w.alloc (.cells #[.int .i64 n, .slice (some ⟨b.bW, 0, none⟩) nw b.cW, .slice (some ⟨b.bA, 0, none⟩) n b.cA, .slice (some ⟨b.bO, 0, none⟩) n b.cO] 27)).alloc
    (.cells #[.int .i64 0, .slice none 0 0, .slice none 0 0, .slice none 0 0] 27) = wx at HC ⊢
  refine (to_any rfl ⟨b, rfl, HC.out.mach⟩ HC.out.new h1 h2 hi).mono ?_
  rintro e w' ⟨_, rfl, ⟨b', rfl, hm'⟩, hbel⟩
  replace HC := Lib.hid (HC.out.below hbel)
  have q0 := HC.out.o0
  have q1 := HC.out.o1
  have q2 := HC.out.o2
  have q3 := HC.out.o3
  have f2 := HC.out.f 0
  have f3 := HC.out.f 1
  have f4 := HC.out.f 2
  have f5 := HC.out.f 3
  unfold MB.val
  clear hbel
  go_wp2_with fail
  exact HC.out.ret hm' rfl rfl rfl

set_option maxHeartbeats 2000000 in
set_option maxRecDepth 100000 in
theorem goes_yes {w : World} {A : Nat → Prop} {n nw no p : Nat} {v : Value} {m : MS} {x : Int} (h : MRep w A n nw no v m) (hA : ∀ k, w.heap.size ≤ k → A k) (h1 : 1 ≤ nw) (h2 : n ≤ 1000) (hi : p < n) (ha : 0 ≤ m.at_ p ∧ m.at_ p ≤ 100) :
    Calls Tryd.prog 74 #[v, .int .i64 p, .bool true, .int .i64 x] w (Next A n nw no (to1 m p (m.at_ p + 1)) w) := by
  obtain ⟨b, rfl, h⟩ := h
  have HC := Lib.hid ((boxed w n nw b).cx h hA (by omega) (by omega))
  have ha0 := ha.1
  have ha1 := ha.2
  have hpn : (p : Int) < n := by omega
  clear h hA ha
  unfold MB.val
  go_enter Tryd.func74, Tryd.ntmps74
  go_wp2_with fail
  generalize (w.alloc (.cells #[.int .i64 n, .slice (some ⟨b.bW, 0, none⟩) nw b.cW, .slice (some ⟨b.bA, 0, none⟩) n b.cA, .slice (some ⟨b.bO, 0, none⟩) n b.cO] 27)).alloc
    (.cells #[.int .i64 0, .slice none 0 0, .slice none 0 0, .slice none 0 0] 27) = wx at HC ⊢
  have d0 := HC.out.c0
  have d1 := HC.out.c1
  have d2 := HC.out.c2
  have d3 := HC.out.c3
  have cL := HC.out.line p hi
  have HC0 := HC
  replace HC := Lib.hid HC.out.drew
  go_region_held3 (fun w' => w'.cell? ⟨w.heap.size, 0, none⟩ = some (.int .i64 n) ∧ w'.cell? ⟨w.heap.size, 1, none⟩ = some (.slice (some ⟨b.bW, 0, none⟩) nw b.cW) ∧ w'.cell? ⟨w.heap.size, 2, none⟩ = some (.slice (some ⟨b.bA, 0, none⟩) n b.cA) ∧ w'.cell? ⟨w.heap.size, 3, none⟩ = some (.slice (some ⟨b.bO, 0, none⟩) n b.cO) ∧ w'.cell? ⟨b.bA, p, none⟩ = some (.int .i64 (m.at_ p)))
    (first | (with_reducible exact ⟨d0, d1, d2, d3, cL⟩) | (with_reducible exact ⟨HC.out.c0, HC.out.c1, HC.out.c2, HC.out.c3, HC.out.line p hi⟩) | (with_reducible exact ⟨HC.out.c0s _ _ _ _, HC.out.c1s _ _ _ _, HC.out.c2s _ _ _ _, HC.out.c3s _ _ _ _, HC.out.lines p hi _ _ _ _⟩))
    ((go_at_call 72; refine (to_any rfl ⟨b, rfl, HC.out.mach⟩ HC.out.new h1 h2 hi).mono ?_; rintro e w1 ⟨_, rfl, ⟨b', rfl, hm'⟩, hbel⟩; replace HC := Lib.hid (HC.out.below hbel); have q0 := HC.out.o0; have q1 := HC.out.o1; have q2 := HC.out.o2; have q3 := HC.out.o3; have f2 := HC.out.f 0; have f3 := HC.out.f 1; have f4 := HC.out.f 2; have f5 := HC.out.f 3; unfold MB.val; clear hbel))
  go_wp2_with fail
  rw [show IntKind.i64.wrap (m.at_ p + 1) = m.at_ p + 1 from IntWalk.i64_in _ (by omega)] at hm'
  exact HC.out.ret hm' rfl rfl rfl

theorem goes_any {w : World} {A : Nat → Prop} {n nw no p : Nat} {v : Value} {m : MS} {I x : Int} (c : Bool) (hI : I = (p : Int)) (h : MRep w A n nw no v m) (hA : ∀ k, w.heap.size ≤ k → A k) (h1 : 1 ≤ nw) (h2 : n ≤ 1000) (hi : p < n) (ha : 0 ≤ m.at_ p ∧ m.at_ p ≤ 100) :
    Calls Tryd.prog 74 #[v, .int .i64 I, .bool c, .int .i64 x] w (Next A n nw no (goes1 m p c x) w) := by
  subst hI
  cases c with
  | false =>
    have e : goes1 m p false x = to1 m p x := by simp [goes1]
    rw [e]; exact goes_no h hA h1 h2 hi
  | true =>
    have e : goes1 m p true x = to1 m p (m.at_ p + 1) := by simp [goes1]
    rw [e]; exact goes_yes h hA h1 h2 hi ha

theorem infoRow : (Tryd.prog.info? 22).map (fun i => (i.zero, i.size, i.bytes)) = some (some (.slice none 0 0), 1, 24) := by kernel_rfl
def refCells (no : Nat) (ob oc : Nat → Nat) (n : Nat) : List Value := (List.range n).map fun p => .slice (some ⟨ob p, 0, none⟩) no (oc p)
theorem own_rows {w : World} {base n no : Nat} {e : TypeId} {v : Value} {ob oc : Nat → Nat} (h : w.ownsRow base e 1 v n (refCells no ob oc n)) (hn : n ≠ 0) :
    ∃ g cap, v = .slice (some ⟨g, 0, none⟩) n cap ∧ base ≤ g ∧ g < w.heap.size ∧ ∀ p, p < n → w.cell? ⟨g, p, none⟩ = some (.slice (some ⟨ob p, 0, none⟩) no (oc p)) ∧ w.frozen? ⟨g, p, none⟩ = false := by
  obtain ⟨g, cap, cur, hv, hg, hb, hc, hs, ht⟩ := own_slice h hn
  refine ⟨g, cap, hv, hg, hb.lt, fun j hj => ⟨?_, hb.free _⟩⟩
  have h1 : (cur.toList.take (n * 1))[j]? = some (.slice (some ⟨ob j, 0, none⟩) no (oc j)) := by rw [ht]; simp [refCells, hj]
  rw [List.getElem?_take_of_lt (by omega)] at h1
  rw [hb.cell]; simpa using h1

set_option maxHeartbeats 4000000 in
set_option maxRecDepth 100000 in
theorem own_any {w : World} {A : Nat → Prop} {n nw no p i : Nat} {v : Value} {m : MS} {P I x : Int} (hP : P = (p : Int)) (hI : I = (i : Int)) (h : MRep w A n nw no v m) (hA : ∀ k, w.heap.size ≤ k → A k) (h1 : 1 ≤ nw) (h2 : n ≤ 1000) (hno : no ≤ 1000) (hp : p < n) (hi : i < no) :
    Calls Tryd.prog 79 #[v, .int .i64 P, .int .i64 I, .int .i64 x] w (Next A n nw no (own1 m p i x) w) := by
  subst hP
  subst hI
  obtain ⟨b, rfl, h⟩ := h
  have HC := Lib.hid ((boxed w n nw b).cx h hA (by omega) (by omega))
  have HS := Lib.hid (boxed w n nw b).size
  obtain ⟨i0, hi0, hz0, hz1, hz2⟩ := info_parts infoRow
  have hpn : (p : Int) < n := by omega
  clear h hA
  unfold MB.val
  go_enter Tryd.func79, Tryd.ntmps79
  go_upto_region 2 with fail
  generalize (w.alloc (.cells #[.int .i64 n, .slice (some ⟨b.bW, 0, none⟩) nw b.cW, .slice (some ⟨b.bA, 0, none⟩) n b.cA, .slice (some ⟨b.bO, 0, none⟩) n b.cO] 27)).alloc
    (.cells #[.int .i64 0, .slice none 0 0, .slice none 0 0, .slice none 0 0] 27) = wx at HC HS ⊢
  have hown : wx.ownsRow wx.heap.size 22 1 (.slice none 0 0) 0 [] := ⟨rfl, .inl ⟨rfl, rfl⟩⟩
  have d3 := HC.out.c3
  have hgrid := Lib.hid HC.out.mach.rO
  go_wp2_with (at_builtin; refine wpList_append_own _ rfl _ _ 25 rfl wx.heap.size 22 i0 (.slice none 0 0) 1 24 Tryd.underlying25 hi0 hz0 hz1 hz2 rfl (by decide) _ 0 [] rfl hown ⟨b.bO, 0, none⟩ n b.cO (refCells no b.ob b.oc n) rfl ?c0 ?c1 ?c2 ?c3 ?c4 ?c5 ?_)
  case c0 => simp [refCells]
  case c1 =>
    intro j u hu
    have hj : j < n := by
      have := (List.getElem?_eq_some_iff.1 hu).1
      simpa [refCells] using this
    have e1 : Addr.add ⟨b.bO, 0, none⟩ j = ⟨b.bO, j, none⟩ := by
      unfold Addr.add; split
      · subst_vars; rfl
      · simp
    rw [e1, (hgrid.out j hj).1]
    simpa [refCells, hj] using hu
  case c2 => intro u hu; simp [refCells] at hu; obtain ⟨j, -, rfl⟩ := hu; rfl
  case c3 => unfold maxLen; omega
  case c4 => omega
  case c5 => simp
  intro v' w1 hown' hgrow _
  obtain ⟨g, cp, hv, hg, hlt, hrow⟩ := own_rows hown' (by omega)
  have hbel : Below wx.heap.size wx w1 := (Below.refl _ _).grown hgrow (Nat.le_refl _) (own_base hown)
  have HgA := Lib.hid (HC.out.new g hg)
  have Hold := Lib.hid (HC.out.mach.inside h1 (by omega))
  replace HC := Lib.hid (HC.out.below hbel)
  have d3 := HC.out.c3
  have cO := HC.out.row p hp
  have rP := (HC.out.mach.rO p hp).2.2.2
  have Hrow := Lib.hid hrow
  have Hlt := Lib.hid hlt
  have Hg := Lib.hid hg
  have Hb01 := Lib.hid hbel
  rw [hv]
  clear hi0 hz0 hz1 hz2 hown hown' hgrow hv hrow hlt hbel hg
  go_wp2_with fail
  refine (set_any rfl (by omega) hno hi rP).mono ?_
  rintro e w2 ⟨g2, cp2, rfl, hg2, hlt2, hrow2, hbel2⟩
  have HgA2 := Lib.hid (HC.out.new g2 hg2)
  have Hb02 := Lib.hid (Hb01.out.trans (hbel2.mono Hb01.out.size))
  replace HC := Lib.hid (HC.out.below hbel2)
  have hbg : w2.heap[g]? = w1.heap[g]? := hbel2.block g Hlt.out
  have hcg2 : w2.cell? ⟨g, p, none⟩ = some (.slice (some ⟨b.ob p, 0, none⟩) no (b.oc p)) := by rw [World.cell?_of_block (w := w1) hbg]; exact (Hrow.out p hp).1
  have hfg2 : w2.frozen? ⟨g, p, none⟩ = false := by rw [World.frozen?_of_block (w := w1) hbg]; exact (Hrow.out p hp).2
  have hne : g ≠ w.heap.size := HgA.out.2.1
  have hne' : g ≠ w.heap.size + 1 := HgA.out.2.2
  have Hne2 : Hid (g ≠ g2) := by have := Hlt.out; intro e; omega
  have d0 := HC.out.c0
  have d1 := HC.out.c1
  have d2 := HC.out.c2
  have d3 := HC.out.c3
  have fb3 := HC.out.held.box.free 3
  have q0 := HC.out.o0
  have q1 := HC.out.o1
  have q2 := HC.out.o2
  have q3 := HC.out.o3
  have f2 := HC.out.f 0
  have f3 := HC.out.f 1
  have f4 := HC.out.f 2
  have f5 := HC.out.f 3
  have Hbg := Lib.hid hbg
  have Hr2 := Lib.hid hrow2
  clear cO rP hbg hrow2 hbel2 hg2 hlt2
  go_wp2_with fail
  have h02 := Hold.out.stay (fun k hk hl => Hb02.out.block k hl)
  have nG : ¬ ((A g ∧ g ≠ w.heap.size ∧ g ≠ w.heap.size + 1) ∧ g < wx.heap.size) := by have := Hg.out; omega
  have nN : ¬ ((A w.heap.size ∧ w.heap.size ≠ w.heap.size ∧ w.heap.size ≠ w.heap.size + 1) ∧ w.heap.size < wx.heap.size) := by omega
  have h3 := (h02.put nG p (.slice (some ⟨g2, 0, none⟩) no cp2)).put nN 3 (.slice (some ⟨g, 0, none⟩) n cp)
  have kF := out4 ((HC.out.held.out.other (b' := g) hne' p (.slice (some ⟨g2, 0, none⟩) no cp2)).other (b' := w.heap.size) (by omega) 3 (.slice (some ⟨g, 0, none⟩) n cp)) (.int .i64 n) (.slice (some ⟨b.bW, 0, none⟩) nw b.cW) (.slice (some ⟨b.bA, 0, none⟩) n b.cA) (.slice (some ⟨g, 0, none⟩) n cp)
  have hgw : w.heap.size ≤ g := by have := Hg.out; have := HS.out; omega
  have hbw := (HC.out.bel.setCell (p := ⟨g, p, none⟩) hgw (.slice (some ⟨g2, 0, none⟩) no cp2)).setCell (p := ⟨w.heap.size, 3, none⟩) (Nat.le_refl _) (.slice (some ⟨g, 0, none⟩) n cp)
  have hset : ∀ k, k ≠ g → k ≠ w.heap.size → ((w2.setCell ⟨g, p, none⟩ (.slice (some ⟨g2, 0, none⟩) no cp2)).setCell ⟨w.heap.size, 3, none⟩ (.slice (some ⟨g, 0, none⟩) n cp)).heap[k]? = w2.heap[k]? := by
    intro k hk1 hk2
    rw [Below.heap_setCell _ _ _ _ (by intro e; first | exact hk2 e | exact hk2 e.symm), Below.heap_setCell _ _ _ _ (by intro e; first | exact hk1 e | exact hk1 e.symm)]
  have hN3 : ∀ q, (⟨w.heap.size, 3, none⟩ : Addr) ≠ ⟨g, q, none⟩ := fun q x => hne (by simpa using (congrArg Addr.block x).symm)
  have hmn : MBlk ((w2.setCell ⟨g, p, none⟩ (.slice (some ⟨g2, 0, none⟩) no cp2)).setCell ⟨w.heap.size, 3, none⟩ (.slice (some ⟨g, 0, none⟩) n cp)) (fun k => A k ∧ k ≠ w.heap.size ∧ k ≠ w.heap.size + 1) n nw no
      { b with bO := g, cO := cp, ob := fun q => if q = p then g2 else b.ob q, oc := fun q => if q = p then cp2 else b.oc q } (own1 m p i x) := by
    refine ⟨h3.w0.1, h3.a0.1, HgA.out, h3.rW, h3.rA, fun q hq => ?_⟩
    by_cases e : q = p
    · subst e
      have er : (own1 m q i x).ow q = upd (m.ow q) i x := by simp [own1, updR]
      refine ⟨?_, by rw [World.frozen?_setCell, World.frozen?_setCell]; exact hfg2, fun _ => ?_, ?_⟩
      · simp only [if_true]
        rw [World.cell?_setCell_other _ _ _ _ (hN3 q)]
        exact World.cell?_setCell_same _ _ _ hcg2
      · simp only [if_true]; exact HgA2.out
      · rw [er]; simp only [if_true]
        exact Hr2.out.keep (hset g2 (Ne.symm Hne2.out) HgA2.out.2.1)
    · have er : (own1 m p i x).ow q = m.ow q := by simp [own1, updR, e]
      have hne2 : (⟨g, p, none⟩ : Addr) ≠ ⟨g, q, none⟩ := fun x => e (by simpa using (congrArg Addr.off x).symm)
      refine ⟨?_, ?_, fun h1 => ?_, ?_⟩
      · simp only [e, if_false]
        rw [World.cell?_setCell_other _ _ _ _ (hN3 q), World.cell?_setCell_other _ _ _ _ hne2, World.cell?_of_block (w := w1) Hbg.out]; exact (Hrow.out q hq).1
      · rw [World.frozen?_setCell, World.frozen?_setCell, World.frozen?_of_block (w := w1) Hbg.out]; exact (Hrow.out q hq).2
      · simp only [e, if_false]; exact ((h3.rO q hq).2.2.1 h1).1
      · rw [er]; simp only [e, if_false]
        exact (h3.rO q hq).2.2.2
  exact ret_mach rfl rfl (kF.cell 0) (kF.cell 1) (kF.cell 2) (kF.cell 3) rfl (finish hmn hbw)
end Go.Proofs.YtgkfgijmccojjaaDoor
