import Derived.Test.YtimbdjmplcgilaaPrInts
namespace Go.Proofs.Ytimbdjmplcgilaa.Pr
open Go.RowKit
set_option linter.unusedVariables false

def lnCells (l : Ln) : List Value := [.int .i64 l.k, .int .i64 l.r, .int .i64 l.w, .int .i64 l.v]
def handCells (ls : List Ln) : List Value := ls.flatMap lnCells
theorem handCells_len (ls : List Ln) : (handCells ls).length = ls.length * 4 := by
  induction ls with
  | nil => rfl
  | cons a r ih => simp [handCells, lnCells] at ih ⊢; omega
theorem handCells_get (ls : List Ln) (j : Nat) (hj : j < ls.length) :
    (handCells ls)[j * 4]? = some (.int .i64 (ls.getD j Ln.zero).k) ∧ (handCells ls)[j * 4 + 1]? = some (.int .i64 (ls.getD j Ln.zero).r) ∧ (handCells ls)[j * 4 + 2]? = some (.int .i64 (ls.getD j Ln.zero).w) ∧ (handCells ls)[j * 4 + 3]? = some (.int .i64 (ls.getD j Ln.zero).v) := by
  induction ls generalizing j with
  | nil => simp at hj
  | cons a r ih =>
    have e : handCells (a :: r) = lnCells a ++ handCells r := by simp [handCells]
    cases j with
    | zero => simp [e, lnCells]
    | succ j =>
      have := ih j (by simpa using hj)
      rw [e]
      refine ⟨?_, ?_, ?_, ?_⟩ <;> rw [List.getElem?_append_right (by simp [lnCells]; omega)]
      · rw [show (j + 1) * 4 - (lnCells a).length = j * 4 by simp [lnCells]; omega]; simpa using this.1
      · rw [show (j + 1) * 4 + 1 - (lnCells a).length = j * 4 + 1 by simp [lnCells]; omega]; simpa using this.2.1
      · rw [show (j + 1) * 4 + 2 - (lnCells a).length = j * 4 + 2 by simp [lnCells]; omega]; simpa using this.2.2.1
      · rw [show (j + 1) * 4 + 3 - (lnCells a).length = j * 4 + 3 by simp [lnCells]; omega]; simpa using this.2.2.2
theorem own_hand {w : World} {base : Nat} {v : Value} {ls : List Ln} (h : w.ownsRow base 44 4 v ls.length (handCells ls)) (hn : ls.length ≠ 0) (hl : ls.length ≤ maxLen) :
    HandAt w v ls ∧ (∀ g, v.ownBlock = some g → base ≤ g ∧ g < w.heap.size) := by
  obtain ⟨g, cap, cur, rfl, hg, hb, hc, hs, ht⟩ := own_slice h hn
  refine ⟨⟨some ⟨g, 0, none⟩, cap, rfl, hl, fun j hj => ⟨g, 0, rfl, hb.lt, ?_⟩⟩, fun g' e => ?_⟩
  · have q := handCells_get ls j hj
    have hx : ∀ i y, (handCells ls)[i]? = some y → i < ls.length * 4 → w.cell? ⟨g, 0 + i, none⟩ = some y := by
      intro i y hy hi
      rw [hb.cell, Nat.zero_add]
      rw [← ht, List.getElem?_take_of_lt hi] at hy
      simpa using hy
    exact ⟨hx _ _ q.1 (by omega), hx _ _ q.2.1 (by omega), hx _ _ q.2.2.1 (by omega), hx _ _ q.2.2.2 (by omega)⟩
  · simp [Value.ownBlock] at e
    subst e
    exact ⟨hg, hb.lt⟩
theorem infoLine : (Try.prog.info? 44).map (fun i => (i.zero, i.size, i.bytes)) = some (some (.agg #[.int .i64 0, .int .i64 0, .int .i64 0, .int .i64 0]), 4, 32) := by kernel_rfl

def side (mine : Int) : List Ln := [⟨0, 0, 0, 1⟩, ⟨2, 0, mine, 0⟩, ⟨1, 1, 1 - mine, 0⟩]
set_option maxHeartbeats 2000000 in
set_option maxRecDepth 100000 in
theorem side_any {w : World} {mine : Int} (hm : 0 ≤ mine ∧ mine ≤ 1) :
    Calls Try.prog 39 #[.int .i64 mine, .bool false] w fun e w' => ∃ g cap, e = .returned (.slice (some ⟨g, 0, none⟩) 3 cap) ∧ w.heap.size ≤ g ∧ g < w'.heap.size ∧ HandAt w' (.slice (some ⟨g, 0, none⟩) 3 cap) (side mine) ∧ Below w.heap.size w w' := by
  obtain ⟨i0, hi, hz0, hz1, hz2⟩ := info_parts infoLine
  have HO : Hid (((w.alloc (.cells #[.int .i64 0, .int .i64 0, .int .i64 0, .int .i64 1, .int .i64 2, .int .i64 0, .int .i64 mine, .int .i64 0] 44)).alloc (.cells #[.int .i64 1, .int .i64 1, .int .i64 (1 - mine), .int .i64 0] 44)).ownsRow w.heap.size 44 4 (.slice (some ⟨w.heap.size, 0, none⟩) 2 2) 2 (handCells [⟨0, 0, 0, 1⟩, ⟨2, 0, mine, 0⟩])) :=
    ⟨rfl, .inr ⟨w.heap.size, 2, #[.int .i64 0, .int .i64 0, .int .i64 0, .int .i64 1, .int .i64 2, .int .i64 0, .int .i64 mine, .int .i64 0], rfl, Nat.le_refl _, (Blk.new w #[.int .i64 0, .int .i64 0, .int .i64 0, .int .i64 1, .int .i64 2, .int .i64 0, .int .i64 mine, .int .i64 0] 44).alloc _, Nat.le_refl _, by unfold maxLen; omega, rfl, rfl⟩⟩
  have HN : Hid (∀ j u, (lnCells ⟨1, 1, 1 - mine, 0⟩)[j]? = some u → ((w.alloc (.cells #[.int .i64 0, .int .i64 0, .int .i64 0, .int .i64 1, .int .i64 2, .int .i64 0, .int .i64 mine, .int .i64 0] 44)).alloc (.cells #[.int .i64 1, .int .i64 1, .int .i64 (1 - mine), .int .i64 0] 44)).cell? (Addr.add ⟨w.heap.size + 1, 0, none⟩ j) = some u) := by
    intro j u hu
    have := news_cell (w.alloc (.cells #[.int .i64 0, .int .i64 0, .int .i64 0, .int .i64 1, .int .i64 2, .int .i64 0, .int .i64 mine, .int .i64 0] 44)) (lnCells ⟨1, 1, 1 - mine, 0⟩) 44 j u hu
    simpa [lnCells] using this
  have H1 : Hid (∀ u ∈ lnCells ⟨1, 1, 1 - mine, 0⟩, u.oneCell' = true) := by intro u hu; simp [lnCells] at hu; rcases hu with rfl | rfl | rfl <;> rfl
  have HB : Hid (w.heap.size ≤ ((w.alloc (.cells #[.int .i64 0, .int .i64 0, .int .i64 0, .int .i64 1, .int .i64 2, .int .i64 0, .int .i64 mine, .int .i64 0] 44)).alloc (.cells #[.int .i64 1, .int .i64 1, .int .i64 (1 - mine), .int .i64 0] 44)).heap.size) := by show _ ≤ _; simp; omega
  have HW : Hid (Below w.heap.size w ((w.alloc (.cells #[.int .i64 0, .int .i64 0, .int .i64 0, .int .i64 1, .int .i64 2, .int .i64 0, .int .i64 mine, .int .i64 0] 44)).alloc (.cells #[.int .i64 1, .int .i64 1, .int .i64 (1 - mine), .int .i64 0] 44))) := ((Below.refl _ _).alloc (Nat.le_refl _) _).alloc (by simp) _
  go_enter Try.func39, Try.ntmps39
  go_wp2_with (at_builtin; refine wpList_append_own _ rfl _ _ 22 rfl w.heap.size 44 i0 (.agg #[.int .i64 0, .int .i64 0, .int .i64 0, .int .i64 0]) 4 32 Try.underlying22 hi hz0 hz1 hz2 rfl (by decide) _ 2 (handCells [⟨0, 0, 0, 1⟩, ⟨2, 0, mine, 0⟩]) rfl HO.out ⟨w.heap.size + 1, 0, none⟩ 1 1 (lnCells ⟨1, 1, 1 - mine, 0⟩) rfl rfl HN.out H1.out ?c1 ?c2 HB.out ?_)
  case c1 => unfold maxLen; omega
  case c2 => omega
  intro v' w1 hown hgrow _
  have hbel := HW.out.grown hgrow HB.out (own_base HO.out)
  obtain ⟨hh, hg⟩ := own_hand (ls := side mine) (base := w.heap.size) hown (by simp [side]) (by simp [side, maxLen])
  obtain ⟨g, cap, cur, rfl, -, -⟩ := own_slice hown (by simp)
  have HH := Lib.hid hh
  have HG := Lib.hid (hg g rfl)
  clear hg
  have HBL := Lib.hid hbel
  clear hbel hh hown hgrow HO HN H1 HB HW hi hz0 hz1 hz2
  go_wp2_with fail
  go_ret
  exact ⟨g, cap, rfl, HG.out.1, HG.out.2, HH.out, HBL.out⟩
theorem HandAt.put {w : World} {g n cap c : Nat} {ls : List Ln} (h : HandAt w (.slice (some ⟨g, 0, none⟩) n cap) ls) (hc : g ≠ c) (i : Nat) (v : Value) : HandAt (w.setCell ⟨c, i, none⟩ v) (.slice (some ⟨g, 0, none⟩) n cap) ls := by
  obtain ⟨a, cap', e, hl, hj⟩ := h
  cases e
  refine ⟨_, _, rfl, hl, fun j hj' => ?_⟩
  obtain ⟨b, o, e, hb, x0, x1, x2, x3⟩ := hj j hj'
  cases e
  have ne : ∀ k x, w.cell? ⟨g, k, none⟩ = some x → (w.setCell ⟨c, i, none⟩ v).cell? ⟨g, k, none⟩ = some x := fun k x hx => by
    rw [World.cell?_setCell_other]
    · exact hx
    · intro e; exact hc (congrArg Addr.block e).symm
  exact ⟨g, 0, rfl, by simpa using hb, ne _ _ x0, ne _ _ x1, ne _ _ x2, ne _ _ x3⟩

def dk : List (List Ln) := [side 0, side 1]
theorem ret_prog {fn : Func} {R : Ending → World → Prop} {a : Act} {W : World} {t c : Nat} {v0 v1 : Value} (h : fn.results = #[.cell t 26]) (ht : a.tmps[t]?.getD undef = .pointer (some ⟨c, 0, none⟩))
    (c0 : W.cell? ⟨c, 0, none⟩ = some v0) (c1 : W.cell? ⟨c, 1, none⟩ = some v1) (hd : a.defers = []) (hR : R (.returned (.agg #[v0, v1])) W) :
    bodyPost Try.prog fn R .ret a W := by
  refine bodyPost_ret ?_ hd hR
  simp [results, h, ht, go_sem, c0, c1]
set_option maxHeartbeats 2000000 in
set_option maxRecDepth 100000 in
theorem dekker_any {w : World} :
    Calls Try.prog 22 #[.bool false, .bool false] w fun e w' => ∃ u, e = .returned (.agg #[.int .i64 2, u]) ∧ IsProg w' u dk ∧ Below w.heap.size w w' := by
  have hB := Blk.new w #[.int .i64 0, .slice none 0 0] 26
  have hW : Below w.heap.size w (w.alloc (.cells #[.int .i64 0, .slice none 0 0] 26)) := (Below.refl _ _).alloc (Nat.le_refl _) _
  have hS : w.heap.size < (w.alloc (.cells #[.int .i64 0, .slice none 0 0] 26)).heap.size := by simp
  have HB := Lib.hid hB
  have HW := Lib.hid hW
  have HS := Lib.hid hS
  clear hB hW hS
  go_enter Try.func22, Try.ntmps22
  go_wp2_with fail
  generalize w.alloc (.cells #[.int .i64 0, .slice none 0 0] 26) = wx at HB HW HS ⊢
  have HS0 := HS
  refine (side_any (mine := 0) (by omega)).mono ?_
  rintro e w1 ⟨g1, cap1, rfl, hg1, hg1', hh1, hb1⟩
  replace HB := Lib.hid (HB.out.below hb1 HB.out.lt)
  replace HW := Lib.hid (HW.out.trans (hb1.mono HW.out.size))
  replace HS : Hid (w.heap.size < w1.heap.size) := Nat.lt_of_lt_of_le HS.out hb1.size
  have HH1 := Lib.hid hh1
  have hg1 : w.heap.size < g1 := by have := HW.out; have := HS0.out; omega
  clear hb1 hh1
  go_wp2_with fail
  have HS1 := HS
  refine (side_any (mine := 1) (by omega)).mono ?_
  rintro e w2 ⟨g2, cap2, rfl, hg2, hg2', hh2, hb2⟩
  replace HB := Lib.hid (HB.out.below hb2 HB.out.lt)
  replace HW := Lib.hid (HW.out.trans (hb2.mono HW.out.size))
  replace HS : Hid (w.heap.size < w2.heap.size) := Nat.lt_of_lt_of_le HS.out hb2.size
  replace HH1 := Lib.hid (HH1.out.below hb2)
  have HH2 := Lib.hid hh2
  have hg2 : w.heap.size < g2 := by have := HS1.out; omega
  clear hb2 hh2
  have hB3 := HB.out.alloc (.cells #[.slice (some ⟨g1, 0, none⟩) 3 cap1, .slice (some ⟨g2, 0, none⟩) 3 cap2] 22)
  have hb3 : Below w2.heap.size w2 (w2.alloc (.cells #[.slice (some ⟨g1, 0, none⟩) 3 cap1, .slice (some ⟨g2, 0, none⟩) 3 cap2] 22)) := (Below.refl _ _).alloc (Nat.le_refl _) _
  have hN3 := Blk.new w2 #[.slice (some ⟨g1, 0, none⟩) 3 cap1, .slice (some ⟨g2, 0, none⟩) 3 cap2] 22
  have q0 : (w2.alloc (.cells #[.slice (some ⟨g1, 0, none⟩) 3 cap1, .slice (some ⟨g2, 0, none⟩) 3 cap2] 22)).cell? ⟨w.heap.size, 0, none⟩ = some (.int .i64 0) := hB3.cell 0
  have q1 : (w2.alloc (.cells #[.slice (some ⟨g1, 0, none⟩) 3 cap1, .slice (some ⟨g2, 0, none⟩) 3 cap2] 22)).cell? ⟨w.heap.size, 1, none⟩ = some (.slice none 0 0) := hB3.cell 1
  have f0 := hB3.free 0
  have f1 := hB3.free 1
  have HB3 := Lib.hid hB3
  have HBB := Lib.hid hb3
  have HN3 := Lib.hid hN3
  clear hB3 hb3 hN3
  go_wp2_with fail
  generalize w2.alloc (.cells #[.slice (some ⟨g1, 0, none⟩) 3 cap1, .slice (some ⟨g2, 0, none⟩) 3 cap2] 22) = w3 at HB3 HBB HN3 q0 q1 f0 f1 ⊢
  have kF := (HB3.out.set 0 (.int .i64 2)).set 1 (.slice (some ⟨w2.heap.size, 0, none⟩) 2 2)
  have hb4 : Below w.heap.size w ((w3.setCell ⟨w.heap.size, 0, none⟩ (.int .i64 2)).setCell ⟨w.heap.size, 1, none⟩ (.slice (some ⟨w2.heap.size, 0, none⟩) 2 2)) :=
    ((HW.out.trans (HBB.out.mono (by have := HS.out; omega))).setCell (p := ⟨w.heap.size, 0, none⟩) (Nat.le_refl _) _).setCell (p := ⟨w.heap.size, 1, none⟩) (Nat.le_refl _) _
  have hs := HS.out
  have k1 := ((HH1.out.below HBB.out).put (c := w.heap.size) (by omega) 0 (.int .i64 2)).put (c := w.heap.size) (by omega) 1 (.slice (some ⟨w2.heap.size, 0, none⟩) 2 2)
  have k2 := ((HH2.out.below HBB.out).put (c := w.heap.size) (by omega) 0 (.int .i64 2)).put (c := w.heap.size) (by omega) 1 (.slice (some ⟨w2.heap.size, 0, none⟩) 2 2)
  have hne : w.heap.size ≠ w2.heap.size := by omega
  have kN := (HN3.out.other hne 0 (.int .i64 2)).other hne 1 (.slice (some ⟨w2.heap.size, 0, none⟩) 2 2)
  refine ret_prog rfl rfl (kF.cell 0) (kF.cell 1) rfl ⟨_, rfl, ⟨_, 2, rfl, by simp [dk, maxLen], fun h hh => ?_⟩, hb4⟩
  refine ⟨w2.heap.size, 0, rfl, kN.lt, ?_⟩
  obtain rfl | rfl : h = 0 ∨ h = 1 := by have : h < 2 := hh; omega
  · exact ⟨_, kN.cell 0, k1⟩
  · exact ⟨_, kN.cell 1, k2⟩

end Go.Proofs.Ytimbdjmplcgilaa.Pr
