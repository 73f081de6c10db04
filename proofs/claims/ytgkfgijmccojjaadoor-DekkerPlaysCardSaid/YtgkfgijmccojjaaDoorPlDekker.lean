import Derived.Test.YtgkfgijmccojjaaDoorPx
import Derived.Test.YtgkfgijmccojjaaDoorDekkerStep
import Derived.Test.YtgkfgijmccojjaaDoorMDekker
namespace Go.Proofs.YtgkfgijmccojjaaDoor.Dekker
open Go.RowKit
set_option linter.unusedVariables false
set_option linter.unusedSimpArgs false

def mc (s : St) (ow : Nat → Nat → Int) : MS := ⟨fun i => if i = 0 then s.f0 else if i = 1 then s.f1 else s.t, fun i => if i = 0 then s.a0 else s.a1, ow⟩
def Own (n : Nat) (s : St) (ow : Nat → Nat → Int) : Prop := True
theorem own_first (n : Nat) : Own n (first n) (fun _ _ => 0) := trivial
def stepN (s : St) (p : Nat) : St := if p = 0 then step0 s else step1 s
theorem step_nat {n : Nat} (s : St) {p : Nat} (h2 : n = 2) (hp : p < n) : step n s (p : Int) = stepN s p := by
  obtain rfl | rfl : p = 0 ∨ p = 1 := by omega
  · simp [step, stepN]
  · simp [step, stepN]
theorem line_mc {n : Nat} (s : St) (ow : Nat → Nat → Int) {j : Nat} (hj : j < 2) : line n s (j : Int) = (mc s ow).at_ j := by
  obtain rfl | rfl : j = 0 ∨ j = 1 := by omega
  · simp [line, mc]
  · simp [line, mc]
set_option maxHeartbeats 4000000 in
theorem m_any {w : World} {A : Nat → Prop} {n t p : Nat} {v : Value} {s : St} {ow : Nat → Nat → Int} (ho : Own n s ow) (hr : Reach n t s) (ht : t ≤ 400) (hp : p < n) (h : MRep w A n 3 0 v (mc s ow)) (hA : ∀ k, w.heap.size ≤ k → A k) :
    Calls Tryd.prog 24 #[v, .int .i64 p] w fun e w' => ∃ ow', Own n (stepN s p) ow' ∧ Next A n 3 0 (mc (stepN s p) ow') w e w' := by
  have hln := hr.fine
  have h2 := hr.1
  have hn : n ≤ 4 := by omega
  obtain rfl | rfl : p = 0 ∨ p = 1 := by omega
  · show Calls _ _ #[v, .int .i64 0] _ _
    obtain hl | hl | hl | hl | hl | hl | hl | hl | hl : s.a0 = 1 ∨ s.a0 = 2 ∨ s.a0 = 3 ∨ s.a0 = 4 ∨ s.a0 = 5 ∨ s.a0 = 6 ∨ s.a0 = 7 ∨ s.a0 = 8 ∨ s.a0 = 9 := by omega
    · refine (MDekker.l1_0 h hA hp hn (by simp [mc, hl])).mono ?_
      rintro e w' hN
      refine ⟨ow, trivial, hN.eq ?_ ?_ ?_⟩
      · intro i hi; obtain rfl | rfl | rfl : i = 0 ∨ i = 1 ∨ i = 2 := by omega
        all_goals simp [stepN, step0, hl, mc, to1, word1, own1, goes1, upd]
      · intro i hi; obtain rfl | rfl : i = 0 ∨ i = 1 := by omega
        all_goals simp [stepN, step0, hl, mc, to1, word1, own1, goes1, upd]
      · intro q _ i hi; omega
    · by_cases h0 : s.f1 = 0
      · refine (MDekker.l2_0 h hA hp hn (by simp [mc, hl])).mono ?_
        rintro e w' hN
        refine ⟨ow, trivial, hN.eq ?_ ?_ ?_⟩
        · intro i hi; obtain rfl | rfl | rfl : i = 0 ∨ i = 1 ∨ i = 2 := by omega
          all_goals simp [stepN, step0, hl, mc, to1, word1, own1, goes1, upd, h0]
        · intro i hi; obtain rfl | rfl : i = 0 ∨ i = 1 := by omega
          all_goals simp [stepN, step0, hl, mc, to1, word1, own1, goes1, upd, h0]
        · intro q _ i hi; omega
      · refine (MDekker.l2_0 h hA hp hn (by simp [mc, hl])).mono ?_
        rintro e w' hN
        refine ⟨ow, trivial, hN.eq ?_ ?_ ?_⟩
        · intro i hi; obtain rfl | rfl | rfl : i = 0 ∨ i = 1 ∨ i = 2 := by omega
          all_goals simp [stepN, step0, hl, mc, to1, word1, own1, goes1, upd, h0]
        · intro i hi; obtain rfl | rfl : i = 0 ∨ i = 1 := by omega
          all_goals simp [stepN, step0, hl, mc, to1, word1, own1, goes1, upd, h0]
        · intro q _ i hi; omega
    · by_cases h0 : s.t = 0
      · refine (MDekker.l3_0 h hA hp hn (by simp [mc, hl])).mono ?_
        rintro e w' hN
        refine ⟨ow, trivial, hN.eq ?_ ?_ ?_⟩
        · intro i hi; obtain rfl | rfl | rfl : i = 0 ∨ i = 1 ∨ i = 2 := by omega
          all_goals simp [stepN, step0, hl, mc, to1, word1, own1, goes1, upd, h0]
        · intro i hi; obtain rfl | rfl : i = 0 ∨ i = 1 := by omega
          all_goals simp [stepN, step0, hl, mc, to1, word1, own1, goes1, upd, h0]
        · intro q _ i hi; omega
      · refine (MDekker.l3_0 h hA hp hn (by simp [mc, hl])).mono ?_
        rintro e w' hN
        refine ⟨ow, trivial, hN.eq ?_ ?_ ?_⟩
        · intro i hi; obtain rfl | rfl | rfl : i = 0 ∨ i = 1 ∨ i = 2 := by omega
          all_goals simp [stepN, step0, hl, mc, to1, word1, own1, goes1, upd, h0]
        · intro i hi; obtain rfl | rfl : i = 0 ∨ i = 1 := by omega
          all_goals simp [stepN, step0, hl, mc, to1, word1, own1, goes1, upd, h0]
        · intro q _ i hi; omega
    · refine (MDekker.l4_0 h hA hp hn (by simp [mc, hl])).mono ?_
      rintro e w' hN
      refine ⟨ow, trivial, hN.eq ?_ ?_ ?_⟩
      · intro i hi; obtain rfl | rfl | rfl : i = 0 ∨ i = 1 ∨ i = 2 := by omega
        all_goals simp [stepN, step0, hl, mc, to1, word1, own1, goes1, upd]
      · intro i hi; obtain rfl | rfl : i = 0 ∨ i = 1 := by omega
        all_goals simp [stepN, step0, hl, mc, to1, word1, own1, goes1, upd]
      · intro q _ i hi; omega
    · by_cases h0 : s.t = 0
      · refine (MDekker.l5_0 h hA hp hn (by simp [mc, hl])).mono ?_
        rintro e w' hN
        refine ⟨ow, trivial, hN.eq ?_ ?_ ?_⟩
        · intro i hi; obtain rfl | rfl | rfl : i = 0 ∨ i = 1 ∨ i = 2 := by omega
          all_goals simp [stepN, step0, hl, mc, to1, word1, own1, goes1, upd, h0]
        · intro i hi; obtain rfl | rfl : i = 0 ∨ i = 1 := by omega
          all_goals simp [stepN, step0, hl, mc, to1, word1, own1, goes1, upd, h0]
        · intro q _ i hi; omega
      · refine (MDekker.l5_0 h hA hp hn (by simp [mc, hl])).mono ?_
        rintro e w' hN
        refine ⟨ow, trivial, hN.eq ?_ ?_ ?_⟩
        · intro i hi; obtain rfl | rfl | rfl : i = 0 ∨ i = 1 ∨ i = 2 := by omega
          all_goals simp [stepN, step0, hl, mc, to1, word1, own1, goes1, upd, h0]
        · intro i hi; obtain rfl | rfl : i = 0 ∨ i = 1 := by omega
          all_goals simp [stepN, step0, hl, mc, to1, word1, own1, goes1, upd, h0]
        · intro q _ i hi; omega
    · refine (MDekker.l6_0 h hA hp hn (by simp [mc, hl])).mono ?_
      rintro e w' hN
      refine ⟨ow, trivial, hN.eq ?_ ?_ ?_⟩
      · intro i hi; obtain rfl | rfl | rfl : i = 0 ∨ i = 1 ∨ i = 2 := by omega
        all_goals simp [stepN, step0, hl, mc, to1, word1, own1, goes1, upd]
      · intro i hi; obtain rfl | rfl : i = 0 ∨ i = 1 := by omega
        all_goals simp [stepN, step0, hl, mc, to1, word1, own1, goes1, upd]
      · intro q _ i hi; omega
    · refine (MDekker.l7_0 h hA hp hn (by simp [mc, hl])).mono ?_
      rintro e w' hN
      refine ⟨ow, trivial, hN.eq ?_ ?_ ?_⟩
      · intro i hi; obtain rfl | rfl | rfl : i = 0 ∨ i = 1 ∨ i = 2 := by omega
        all_goals simp [stepN, step0, hl, mc, to1, word1, own1, goes1, upd]
      · intro i hi; obtain rfl | rfl : i = 0 ∨ i = 1 := by omega
        all_goals simp [stepN, step0, hl, mc, to1, word1, own1, goes1, upd]
      · intro q _ i hi; omega
    · refine (MDekker.l8_0 h hA hp hn (by simp [mc, hl])).mono ?_
      rintro e w' hN
      refine ⟨ow, trivial, hN.eq ?_ ?_ ?_⟩
      · intro i hi; obtain rfl | rfl | rfl : i = 0 ∨ i = 1 ∨ i = 2 := by omega
        all_goals simp [stepN, step0, hl, mc, to1, word1, own1, goes1, upd]
      · intro i hi; obtain rfl | rfl : i = 0 ∨ i = 1 := by omega
        all_goals simp [stepN, step0, hl, mc, to1, word1, own1, goes1, upd]
      · intro q _ i hi; omega
    · refine (MDekker.l9_0 h hA hp hn (by simp [mc, hl])).mono ?_
      rintro e w' hN
      refine ⟨ow, trivial, hN.eq ?_ ?_ ?_⟩
      · intro i hi; obtain rfl | rfl | rfl : i = 0 ∨ i = 1 ∨ i = 2 := by omega
        all_goals simp [stepN, step0, hl, mc, to1, word1, own1, goes1, upd]
      · intro i hi; obtain rfl | rfl : i = 0 ∨ i = 1 := by omega
        all_goals simp [stepN, step0, hl, mc, to1, word1, own1, goes1, upd]
      · intro q _ i hi; omega
  · show Calls _ _ #[v, .int .i64 1] _ _
    obtain hl | hl | hl | hl | hl | hl | hl | hl | hl : s.a1 = 1 ∨ s.a1 = 2 ∨ s.a1 = 3 ∨ s.a1 = 4 ∨ s.a1 = 5 ∨ s.a1 = 6 ∨ s.a1 = 7 ∨ s.a1 = 8 ∨ s.a1 = 9 := by omega
    · refine (MDekker.l1_1 h hA hp hn (by simp [mc, hl])).mono ?_
      rintro e w' hN
      refine ⟨ow, trivial, hN.eq ?_ ?_ ?_⟩
      · intro i hi; obtain rfl | rfl | rfl : i = 0 ∨ i = 1 ∨ i = 2 := by omega
        all_goals simp [stepN, step1, hl, mc, to1, word1, own1, goes1, upd]
      · intro i hi; obtain rfl | rfl : i = 0 ∨ i = 1 := by omega
        all_goals simp [stepN, step1, hl, mc, to1, word1, own1, goes1, upd]
      · intro q _ i hi; omega
    · by_cases h0 : s.f0 = 0
      · refine (MDekker.l2_1 h hA hp hn (by simp [mc, hl])).mono ?_
        rintro e w' hN
        refine ⟨ow, trivial, hN.eq ?_ ?_ ?_⟩
        · intro i hi; obtain rfl | rfl | rfl : i = 0 ∨ i = 1 ∨ i = 2 := by omega
          all_goals simp [stepN, step1, hl, mc, to1, word1, own1, goes1, upd, h0]
        · intro i hi; obtain rfl | rfl : i = 0 ∨ i = 1 := by omega
          all_goals simp [stepN, step1, hl, mc, to1, word1, own1, goes1, upd, h0]
        · intro q _ i hi; omega
      · refine (MDekker.l2_1 h hA hp hn (by simp [mc, hl])).mono ?_
        rintro e w' hN
        refine ⟨ow, trivial, hN.eq ?_ ?_ ?_⟩
        · intro i hi; obtain rfl | rfl | rfl : i = 0 ∨ i = 1 ∨ i = 2 := by omega
          all_goals simp [stepN, step1, hl, mc, to1, word1, own1, goes1, upd, h0]
        · intro i hi; obtain rfl | rfl : i = 0 ∨ i = 1 := by omega
          all_goals simp [stepN, step1, hl, mc, to1, word1, own1, goes1, upd, h0]
        · intro q _ i hi; omega
    · by_cases h0 : s.t = 1
      · refine (MDekker.l3_1 h hA hp hn (by simp [mc, hl])).mono ?_
        rintro e w' hN
        refine ⟨ow, trivial, hN.eq ?_ ?_ ?_⟩
        · intro i hi; obtain rfl | rfl | rfl : i = 0 ∨ i = 1 ∨ i = 2 := by omega
          all_goals simp [stepN, step1, hl, mc, to1, word1, own1, goes1, upd, h0]
        · intro i hi; obtain rfl | rfl : i = 0 ∨ i = 1 := by omega
          all_goals simp [stepN, step1, hl, mc, to1, word1, own1, goes1, upd, h0]
        · intro q _ i hi; omega
      · refine (MDekker.l3_1 h hA hp hn (by simp [mc, hl])).mono ?_
        rintro e w' hN
        refine ⟨ow, trivial, hN.eq ?_ ?_ ?_⟩
        · intro i hi; obtain rfl | rfl | rfl : i = 0 ∨ i = 1 ∨ i = 2 := by omega
          all_goals simp [stepN, step1, hl, mc, to1, word1, own1, goes1, upd, h0]
        · intro i hi; obtain rfl | rfl : i = 0 ∨ i = 1 := by omega
          all_goals simp [stepN, step1, hl, mc, to1, word1, own1, goes1, upd, h0]
        · intro q _ i hi; omega
    · refine (MDekker.l4_1 h hA hp hn (by simp [mc, hl])).mono ?_
      rintro e w' hN
      refine ⟨ow, trivial, hN.eq ?_ ?_ ?_⟩
      · intro i hi; obtain rfl | rfl | rfl : i = 0 ∨ i = 1 ∨ i = 2 := by omega
        all_goals simp [stepN, step1, hl, mc, to1, word1, own1, goes1, upd]
      · intro i hi; obtain rfl | rfl : i = 0 ∨ i = 1 := by omega
        all_goals simp [stepN, step1, hl, mc, to1, word1, own1, goes1, upd]
      · intro q _ i hi; omega
    · by_cases h0 : s.t = 1
      · refine (MDekker.l5_1 h hA hp hn (by simp [mc, hl])).mono ?_
        rintro e w' hN
        refine ⟨ow, trivial, hN.eq ?_ ?_ ?_⟩
        · intro i hi; obtain rfl | rfl | rfl : i = 0 ∨ i = 1 ∨ i = 2 := by omega
          all_goals simp [stepN, step1, hl, mc, to1, word1, own1, goes1, upd, h0]
        · intro i hi; obtain rfl | rfl : i = 0 ∨ i = 1 := by omega
          all_goals simp [stepN, step1, hl, mc, to1, word1, own1, goes1, upd, h0]
        · intro q _ i hi; omega
      · refine (MDekker.l5_1 h hA hp hn (by simp [mc, hl])).mono ?_
        rintro e w' hN
        refine ⟨ow, trivial, hN.eq ?_ ?_ ?_⟩
        · intro i hi; obtain rfl | rfl | rfl : i = 0 ∨ i = 1 ∨ i = 2 := by omega
          all_goals simp [stepN, step1, hl, mc, to1, word1, own1, goes1, upd, h0]
        · intro i hi; obtain rfl | rfl : i = 0 ∨ i = 1 := by omega
          all_goals simp [stepN, step1, hl, mc, to1, word1, own1, goes1, upd, h0]
        · intro q _ i hi; omega
    · refine (MDekker.l6_1 h hA hp hn (by simp [mc, hl])).mono ?_
      rintro e w' hN
      refine ⟨ow, trivial, hN.eq ?_ ?_ ?_⟩
      · intro i hi; obtain rfl | rfl | rfl : i = 0 ∨ i = 1 ∨ i = 2 := by omega
        all_goals simp [stepN, step1, hl, mc, to1, word1, own1, goes1, upd]
      · intro i hi; obtain rfl | rfl : i = 0 ∨ i = 1 := by omega
        all_goals simp [stepN, step1, hl, mc, to1, word1, own1, goes1, upd]
      · intro q _ i hi; omega
    · refine (MDekker.l7_1 h hA hp hn (by simp [mc, hl])).mono ?_
      rintro e w' hN
      refine ⟨ow, trivial, hN.eq ?_ ?_ ?_⟩
      · intro i hi; obtain rfl | rfl | rfl : i = 0 ∨ i = 1 ∨ i = 2 := by omega
        all_goals simp [stepN, step1, hl, mc, to1, word1, own1, goes1, upd]
      · intro i hi; obtain rfl | rfl : i = 0 ∨ i = 1 := by omega
        all_goals simp [stepN, step1, hl, mc, to1, word1, own1, goes1, upd]
      · intro q _ i hi; omega
    · refine (MDekker.l8_1 h hA hp hn (by simp [mc, hl])).mono ?_
      rintro e w' hN
      refine ⟨ow, trivial, hN.eq ?_ ?_ ?_⟩
      · intro i hi; obtain rfl | rfl | rfl : i = 0 ∨ i = 1 ∨ i = 2 := by omega
        all_goals simp [stepN, step1, hl, mc, to1, word1, own1, goes1, upd]
      · intro i hi; obtain rfl | rfl : i = 0 ∨ i = 1 := by omega
        all_goals simp [stepN, step1, hl, mc, to1, word1, own1, goes1, upd]
      · intro q _ i hi; omega
    · refine (MDekker.l9_1 h hA hp hn (by simp [mc, hl])).mono ?_
      rintro e w' hN
      refine ⟨ow, trivial, hN.eq ?_ ?_ ?_⟩
      · intro i hi; obtain rfl | rfl | rfl : i = 0 ∨ i = 1 ∨ i = 2 := by omega
        all_goals simp [stepN, step1, hl, mc, to1, word1, own1, goes1, upd]
      · intro i hi; obtain rfl | rfl : i = 0 ∨ i = 1 := by omega
        all_goals simp [stepN, step1, hl, mc, to1, word1, own1, goes1, upd]
      · intro q _ i hi; omega
theorem pairFirst {w : World} {A : Nat → Prop} {n : Nat} {b : MB} (h : MBlk w A n 3 0 b (first1 fun _ => 0)) : MBlk w A n 3 0 b (mc (first n) (fun _ _ => 0)) :=
  ⟨h.w0, h.a0, h.o0, h.rW.eq (fun j hj => by obtain rfl | rfl | rfl : j = 0 ∨ j = 1 ∨ j = 2 := by omega
                                             all_goals simp [mc, first, first1]), h.rA.eq (fun j hj => by simp [mc, first, first1]), h.rO⟩
theorem at_q {w : World} {n L : Nat} {fb : List Nat} {s : St} {p k : Int} {m m' : Nat} (hb : Rep w n L fb s) (hk : line n s p = k) :
    Calls Tryd.prog 27 #[.pointer (some ⟨L, 0, none⟩), .int .i64 p] (w.drewN (m + m')) fun e w'' => e = .returned (.int .i64 k) ∧ ∃ j, w'' = w.drewN (m + j) :=
  (at_of (w := w.drewN (m + m')) (hb.keep (w' := w.drewN (m + m')) (fun x hx => rfl)) hk).mono fun _ _ h => ⟨h.1, m', h.2.symm⟩

set_option maxRecDepth 100000 in
theorem words_at {w : World} {n L : Nat} {fb : List Nat} {s : St} {ow : Nat → Nat → Int} (h : Rep w n L fb s) (h1 : 1 ≤ n) (h4 : n ≤ 4) :
    Calls Tryd.prog 26 #[.pointer (some ⟨L, 0, none⟩)] w (Cloned (3) (mc s ow).wd w) := by
  obtain ⟨rfl, hB⟩ := h
  have rW : Row w L 3 (fun j => j) (mc s ow).wd := by
    intro j hj
    refine ⟨?_, hB.free _⟩
    obtain rfl | rfl | rfl : j = 0 ∨ j = 1 ∨ j = 2 := by omega
    · exact hB.cell 0
    · exact hB.cell 1
    · exact hB.cell 2
  clear hB
  go_enter Tryd.func26, Tryd.ntmps26
  go_wp2_with fail
  refine (clone_any (by omega) (by omega) rW).mono ?_
  rintro e w' ⟨g, cp, rfl, hg, hlt, hrow, hbel⟩
  clear rW
  go_wp2_with fail
  go_ret
  exact ⟨g, cp, rfl, hg, hlt, hrow, hbel⟩

def PlaysRel (n L C T : Nat) (fb : List Nat) (w : World) (i : Value) (wr : World) : Prop :=
  ∃ (k : Nat) (s : St) (ow : Nat → Nat → Int) (b : MB), k ≤ 400 ∧ i = .int .i64 k ∧ Reach n k s ∧ Rep wr n L fb s ∧ Own n s ow ∧ Px w C T n (3) 0 b (mc s ow) wr

set_option maxHeartbeats 8000000 in
set_option maxRecDepth 100000 in
theorem plays_walk (n : Nat) (hn2 : n = 2) (a0 : Option Addr) (len0 cap0 : Nat) (z0 : List Int) (w : World) (w0 : IsRow .i64 w a0 len0 cap0 z0) (hg : TypeLaid w) :
    Calls Tryd.prog 4 #[.slice a0 len0 cap0] w fun e w' => e = .returned (.bool true) ∧ Below w.heap.size w w' := by
  have hle := w0.le
  have hat := Lib.hid (w0.at)
  have HG := Lib.hid hg
  clear w0 hg
  unfold maxLen at hle
  have Hn := Lib.hid hn2
  have hn1 : 1 ≤ n := by omega
  have hn4 : n ≤ 4 := by omega
  clear hn2
  go_enter Tryd.func4, Tryd.ntmps4
  go_wp2_with fail
  refine (new_any n _).mono ?_
  rintro e w2 ⟨L, fb, rfl, hL, hbel0, hfb⟩
  have HR := Lib.hid hL
  have Hb0 := Lib.hid hbel0
  have Hfb : Hid (∀ k ∈ fb, w.heap.size ≤ k ∧ k < w2.heap.size) := hfb
  clear hfb hbel0 hL
  go_wp2_with fail
  refine (zeros_any (n := 3) (by omega) (by omega)).mono ?_
  rintro e w3 ⟨gz, cz, rfl, hgz, hlz, hz, bz⟩
  have HZ := Lib.hid hz
  have Hgz := Lib.hid hgz
  have Hbz := Lib.hid bz
  clear hz hgz bz hlz
  go_wp2_with fail
  refine (mnew_any (A := fun k => w2.heap.size ≤ k) (n := n) (no := 0) (by rw [Hn.out]; rfl) rfl HZ.out Hgz.out (fun k hk => Nat.le_trans Hbz.out.size hk) hn1 hn4 (by omega) (by omega)).mono ?_
  rintro e w4 ⟨_, rfl, ⟨b, rfl, hm⟩, hbel⟩
  have Hb4 : Hid (Below w2.heap.size w2 w4) := Hbz.out.trans (hbel.mono Hbz.out.size)
  have HP : Hid (Px w w2.heap.size w4.heap.size n (3) 0 b (mc (first n) (fun _ _ => 0)) (w4.alloc (.cells #[.int .i64 n, .slice (some ⟨b.bW, 0, none⟩) (3) b.cW, .slice (some ⟨b.bA, 0, none⟩) n b.cA, .slice (some ⟨b.bO, 0, none⟩) n b.cO] 27))) :=
    Px.start (w0 := w) (Hb0.out.trans (Hb4.out.mono Hb0.out.size)) Hb0.out.size Hb4.out.size (pairFirst hm) (by omega) hn1
  replace HR : Hid (Rep (w4.alloc (.cells #[.int .i64 n, .slice (some ⟨b.bW, 0, none⟩) (3) b.cW, .slice (some ⟨b.bA, 0, none⟩) n b.cA, .slice (some ⟨b.bO, 0, none⟩) n b.cO] 27)) n L fb (first n)) :=
    HR.out.keep (fun x hx => by rw [Below.heap_alloc _ _ _ (Nat.lt_of_lt_of_le (Hfb.out x hx).2 Hb4.out.size)]; exact Hb4.out.block x (Hfb.out x hx).2)
  unfold MB.val
  clear hm hbel
  go_wp2_with fail
  generalize w4.alloc (.cells #[.int .i64 n, .slice (some ⟨b.bW, 0, none⟩) (3) b.cW, .slice (some ⟨b.bA, 0, none⟩) n b.cA, .slice (some ⟨b.bO, 0, none⟩) n b.cO] 27) = w5 at HP HR ⊢
  generalize w4.heap.size = T at HP ⊢
  clear Hb4 Hb0 HZ Hgz Hbz
  generalize w2.heap.size = C at HP Hfb
  go_loopw [5] (fun i wr => PlaysRel n L C T fb w i wr) (fun i _ => 400 - (intOf i).toNat)
  case atStart => exact ⟨0, first n, _, b, by omega, rfl, (by rw [Hn.out]; exact Reach.first), HR.out, own_first n, HP.out⟩
  case round =>
    clear HP HR
    obtain ⟨k, s, ow, b, hk, rfl, hf, hR, hO, hP⟩ := hrel
    have HR := Lib.hid hR
    have HP := Lib.hid hP
    have HO := Lib.hid hO
    have HF := Lib.hid hf
    clear hR hP hO hf
    by_cases hlt : k < len0 ∧ k < 400
    · obtain ⟨hk1, hk2⟩ := hlt
      obtain ⟨bb, off, p, rfl, hb0, hc, -, -⟩ := hat.out k hk1
      have hc' : wr.cell? ⟨bb, off + k, none⟩ = some (.int .i64 p) := by
        rw [HP.out.bel.cell (p := ⟨bb, off + k, none⟩) hb0]; exact hc
      clear hat hc hb0
      by_cases hp : 0 ≤ p ∧ p < n
      · obtain ⟨p, rfl⟩ := Int.eq_ofNat_of_zero_le hp.1
        have hpn : p < n := by omega
        have htold := told_nil (n := n) Hn.out hpn
        have hst : step n s (p : Int) = stepN s p := step_nat s Hn.out hpn
        have HFn : Hid (Reach n (k + 1) (stepN s p)) := hst ▸ HF.out.step p
        have d0 := HP.out.c0
        have d1 := HP.out.c1
        have d2 := HP.out.c2
        have d3 := HP.out.c3
        have Htold := Lib.hid htold
        have Hst := Lib.hid hst
        clear htold hst
        go_wp2_with fail
        refine (inS_yes hp.1 (by have := Hn.out; omega)).mono ?_
        rintro e wi ⟨rfl, rfl⟩
        go_wp2_with fail
        refine (m_any HO.out HF.out (by omega) hpn ⟨b, rfl, HP.out.mach⟩ HP.out.new).mono ?_
        rintro e w1 ⟨ow2, hO2, _, rfl, ⟨b2, rfl, hm2⟩, hbel⟩
        replace HR := Lib.hid (HR.out.keep (fun x hx => hbel.block x (Nat.lt_of_lt_of_le (Hfb.out x hx).2 (by have := HP.out.lt; omega))))
        replace HP := Lib.hid (HP.out.below hbel)
        replace HO := Lib.hid hO2
        have d0 := HP.out.c0
        have d1 := HP.out.c1
        have d2 := HP.out.c2
        have d3 := HP.out.c3
        have f0 := HP.out.f 0
        have f1 := HP.out.f 1
        have f2 := HP.out.f 2
        have f3 := HP.out.f 3
        unfold MB.val
        clear hbel hO2
        go_wp2_with fail
        replace HR : Hid (Rep ((((w1.setCell ⟨T, 0, none⟩ (.int .i64 n)).setCell ⟨T, 1, none⟩ (.slice (some ⟨b2.bW, 0, none⟩) (3) b2.cW)).setCell ⟨T, 2, none⟩ (.slice (some ⟨b2.bA, 0, none⟩) n b2.cA)).setCell ⟨T, 3, none⟩ (.slice (some ⟨b2.bO, 0, none⟩) n b2.cO)) n L fb s) :=
          HR.out.keep (fun x hx => by
            have hne : T ≠ x := by have := HP.out.lt; have := (Hfb.out x hx).2; omega
            rw [Below.heap_setCell _ _ _ _ (by intro e; first | exact hne e | exact hne e.symm), Below.heap_setCell _ _ _ _ (by intro e; first | exact hne e | exact hne e.symm), Below.heap_setCell _ _ _ _ (by intro e; first | exact hne e | exact hne e.symm), Below.heap_setCell _ _ _ _ (by intro e; first | exact hne e | exact hne e.symm)])
        replace HP := Lib.hid (HP.out.rebox hm2)
        have b := b2
        clear hm2 d0 d1 d2 d3 f0 f1 f2 f3
        generalize ((((w1.setCell ⟨T, 0, none⟩ (.int .i64 n)).setCell ⟨T, 1, none⟩ (.slice (some ⟨b2.bW, 0, none⟩) (3) b2.cW)).setCell ⟨T, 2, none⟩ (.slice (some ⟨b2.bA, 0, none⟩) n b2.cA)).setCell ⟨T, 3, none⟩ (.slice (some ⟨b2.bO, 0, none⟩) n b2.cO)) = wv at HP HR ⊢
        have HR0 := HR
        replace HR := Lib.hid (HR.out.keep (w' := wv.drew) (fun x hx => rfl))
        have s1 := HP.out.c1
        replace HP := Lib.hid HP.out.drew
        go_region_held3 (fun w' => w'.cell? ⟨T, 1, none⟩ = some (.slice (some ⟨b2.bW, 0, none⟩) (3) b2.cW))
          (first | (with_reducible exact s1) | (with_reducible exact HP.out.c1))
          (first
            | (go_at_call 25; refine (step_of (n := n) (fb := fb) HR.out HF.out (by omega) Htold.out Hst.out).mono ?_; rintro e w1 ⟨rfl, hb1, ho1⟩; replace HP := Lib.hid (HP.out.only ho1.grow Hfb.out); replace HR := Lib.hid hb1; clear hb1 ho1)
            | (go_at_call 18; refine (error_nil _).mono ?_; rintro e w2 ⟨rfl, hbel⟩; replace HR := Lib.hid (HR.out.keep (fun x hx => hbel.block x (Nat.lt_of_lt_of_le (Hfb.out x hx).2 (by have := HP.out.lt; omega)))); replace HP := Lib.hid (HP.out.below hbel); clear hbel)
            | (go_at_call 26; refine (words_at (ow := ow2) HR.out hn1 hn4).mono ?_; rintro e w3 ⟨g, cp, rfl, hg3, hlt3, hrow3, hbel⟩; have Hrow := Lib.hid hrow3; replace HR := Lib.hid (HR.out.keep (fun x hx => hbel.block x (Nat.lt_of_lt_of_le (Hfb.out x hx).2 (by have := HP.out.lt; omega)))); replace HP := Lib.hid (HP.out.below hbel); clear hbel hg3 hlt3 hrow3)
            | (go_at_call 20; refine (ints_same Hrow.out HP.out.mach.rW (by omega)).mono ?_; rintro e w4 ⟨rfl, kk, rfl⟩; replace HR := Lib.hid (HR.out.keep (w' := w3.drewN kk) (fun x hx => rfl)); replace HP := Lib.hid (HP.out.drewN kk)))
        go_wp2_with fail
        generalize w3.drewN kk = wz at HP HR ⊢
        have b := b2
        go_loopw [8] (fun q wr => ∃ j mm : Nat, j ≤ 2 ∧ q = .int .i64 j ∧ wr = wz.drewN mm) (fun q _ => 2 - (intOf q).toNat)
        case atStart => exact ⟨0, 0, by omega, rfl, rfl⟩
        case round =>
          obtain ⟨j, mm, hj, rfl, rfl⟩ := hrel
          by_cases hj2 : j < 2
          · have a2 := HP.out.c2
            have aL := HP.out.mach.line j (by have := Hn.out; omega)
            have hlj : line n (stepN s p) (j : Int) = (mc (stepN s p) ow2).at_ j := line_mc (stepN s p) ow2 hj2
            have Hlj := Lib.hid hlj
            have e0 : ((mc (stepN s p) ow2).at_ j != (mc (stepN s p) ow2).at_ j) = false := by simp
            generalize (mc (stepN s p) ow2).at_ j = X at *
            obtain ⟨hjn, hjn'⟩ : (j : Int) < 2 ∧ (j : Int) < n := ⟨by omega, by have := Hn.out; omega⟩
            clear hlj
            go_wp2_with fail
            go_quiet ((go_at_call 27; exact at_q HR.out Hlj.out))
            go_wp2_with fail
            go_roundw
            case rel => exact ⟨j + 1, mm + nq, by omega, by go_num, rfl⟩
            case measure => simp [intOf]; omega
          · go_wp2_with fail
            go_roundw
            case rel => exact ⟨k + 1, (stepN s p), ow2, b2, by omega, by go_num, HFn.out, HR.out.keep (fun x hx => rfl), HO.out, HP.out.drewN mm⟩
            case measure => simp [intOf]; omega
      · have htold : told n p = .iface 77 (.int .i64 1) := by unfold told; rw [if_neg (by have := Hn.out; omega)]
        have hst : step n s p = s := by unfold step; rw [if_neg (by have := Hn.out; omega), if_neg (by have := Hn.out; omega)]
        have HFn : Hid (Reach n (k + 1) s) := hst ▸ HF.out.step p
        have Htold := Lib.hid htold
        have Hst := Lib.hid hst
        have d0 := HP.out.c0
        have d1 := HP.out.c1
        have d2 := HP.out.c2
        have d3 := HP.out.c3
        clear htold hst
        go_wp2_with fail
        refine (inS_no (by have := Hn.out; omega)).mono ?_
        rintro e wi ⟨rfl, rfl⟩
        clear d0 d1 d2 d3
        go_wp2_with fail
        have HR0 := HR
        replace HR := Lib.hid (HR.out.keep (w' := wr.drew) (fun x hx => rfl))
        have s1 := HP.out.c1
        replace HP := Lib.hid HP.out.drew
        go_region_held3 (fun w' => w'.cell? ⟨T, 1, none⟩ = some (.slice (some ⟨b.bW, 0, none⟩) (3) b.cW))
          (first | (with_reducible exact s1) | (with_reducible exact HP.out.c1))
          (first
            | (go_at_call 25; refine (step_of (n := n) (fb := fb) HR.out HF.out (by omega) Htold.out Hst.out).mono ?_; rintro e w1 ⟨rfl, hb1, ho1⟩; replace HP := Lib.hid (HP.out.only ho1.grow Hfb.out); replace HR := Lib.hid hb1; clear hb1 ho1)
            | (go_at_call 18; refine (error_one _ (HP.out.laid HG.out)).mono ?_; rintro e w2 ⟨rfl, hbel⟩; replace HR := Lib.hid (HR.out.keep (fun x hx => hbel.block x (Nat.lt_of_lt_of_le (Hfb.out x hx).2 (by have := HP.out.lt; omega)))); replace HP := Lib.hid (HP.out.below hbel); clear hbel)
            | (go_at_call 26; refine (words_at (ow := ow) HR.out hn1 hn4).mono ?_; rintro e w3 ⟨g, cp, rfl, hg3, hlt3, hrow3, hbel⟩; have Hrow := Lib.hid hrow3; replace HR := Lib.hid (HR.out.keep (fun x hx => hbel.block x (Nat.lt_of_lt_of_le (Hfb.out x hx).2 (by have := HP.out.lt; omega)))); replace HP := Lib.hid (HP.out.below hbel); clear hbel hg3 hlt3 hrow3)
            | (go_at_call 20; refine (ints_same Hrow.out HP.out.mach.rW (by omega)).mono ?_; rintro e w4 ⟨rfl, kk, rfl⟩; replace HR := Lib.hid (HR.out.keep (w' := w3.drewN kk) (fun x hx => rfl)); replace HP := Lib.hid (HP.out.drewN kk)))
        go_wp2_with fail
        generalize w3.drewN kk = wz at HP HR ⊢
        go_loopw [8] (fun q wr => ∃ j mm : Nat, j ≤ 2 ∧ q = .int .i64 j ∧ wr = wz.drewN mm) (fun q _ => 2 - (intOf q).toNat)
        case atStart => exact ⟨0, 0, by omega, rfl, rfl⟩
        case round =>
          obtain ⟨j, mm, hj, rfl, rfl⟩ := hrel
          by_cases hj2 : j < 2
          · have a2 := HP.out.c2
            have aL := HP.out.mach.line j (by have := Hn.out; omega)
            have hlj : line n s (j : Int) = (mc s ow).at_ j := line_mc s ow hj2
            have Hlj := Lib.hid hlj
            have e0 : ((mc s ow).at_ j != (mc s ow).at_ j) = false := by simp
            generalize (mc s ow).at_ j = X at *
            obtain ⟨hjn, hjn'⟩ : (j : Int) < 2 ∧ (j : Int) < n := ⟨by omega, by have := Hn.out; omega⟩
            clear hlj
            go_wp2_with fail
            go_quiet ((go_at_call 27; exact at_q HR.out Hlj.out))
            go_wp2_with fail
            go_roundw
            case rel => exact ⟨j + 1, mm + nq, by omega, by go_num, rfl⟩
            case measure => simp [intOf]; omega
          · go_wp2_with fail
            go_roundw
            case rel => exact ⟨k + 1, s, ow, b, by omega, by go_num, HFn.out, HR.out.keep (fun x hx => rfl), HO.out, HP.out.drewN mm⟩
            case measure => simp [intOf]; omega
    · clear hat
      go_wp2_with fail
      all_goals
        refine (at_of (p := -1) (k := 0) HR.out (by simp [line])).mono ?_
        rintro e wi ⟨rfl, rfl⟩
        go_wp2_with fail
        refine (at_of (p := 2) (k := 0) HR.out (by simp [line])).mono ?_
        rintro e wi ⟨rfl, rfl⟩
        go_wp2_with fail
        go_ret
        exact ⟨rfl, HP.out.bel⟩


theorem plays_any (a0 : Option Addr) (len0 cap0 : Nat) (z0 : List Int) (w : World) (w0 : IsRow .i64 w a0 len0 cap0 z0) (hg : TypeLaid w) :
    Calls Tryd.prog 4 #[.slice a0 len0 cap0] w fun e w' => e = .returned (.bool true) ∧ Below w.heap.size w w' := plays_walk 2 rfl a0 len0 cap0 z0 w w0 hg
end Go.Proofs.YtgkfgijmccojjaaDoor.Dekker
