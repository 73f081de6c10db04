import Derived.Test.YtjjhchpdgompoaaPairFact
import Derived.Test.YtjjhchpdgompoaaIn2
namespace Go.Proofs.Ytjjhchpdgompoaa.Pair
open Go.RowKit
set_option linter.unusedVariables false

def passRow (f : Fst) : Array Value := #[.int .i64 f.x0, .int .i64 f.x1]
def FairRel (w : World) (L : Nat) (fb : List Nat) (B : Nat) (i : Value) (wr : World) : Prop :=
  ∃ (k : Nat) (f : Fst), k ≤ 400 ∧ i = .int .i64 k ∧ Fair f ∧ Rep wr 2 L fb f.s ∧ Below w.heap.size w wr ∧ Blk wr B (passRow f) 3

theorem moves0 (s : St) (h : 1 ≤ s.a0 ∧ s.a0 ≤ 6) :
    (s.a0 = 1 ∧ (step0 s).a0 = 2) ∨ (s.a0 = 2 ∧ (step0 s).a0 = 3) ∨ (s.a0 = 3 ∧ (step0 s).a0 = 4) ∨ (s.a0 = 4 ∧ (step0 s).a0 = 3) ∨ (s.a0 = 5 ∧ (step0 s).a0 = 6) ∨ (s.a0 = 6 ∧ (step0 s).a0 = 1) ∨
    (s.a0 = 3 ∧ (step0 s).a0 = 5) ∨ (s.a0 = 4 ∧ (step0 s).a0 = 5) := by
  obtain h | h | h | h | h | h : s.a0 = 1 ∨ s.a0 = 2 ∨ s.a0 = 3 ∨ s.a0 = 4 ∨ s.a0 = 5 ∨ s.a0 = 6 := by omega
  · simp [step0, h]
  · simp [step0, h]
  · by_cases g : s.f1 = 0 <;> simp [step0, h, g]
  · by_cases g : s.t = 1 <;> simp [step0, h, g]
  · simp [step0, h]
  · simp [step0, h]
theorem moves1 (s : St) (h : 1 ≤ s.a1 ∧ s.a1 ≤ 6) :
    (s.a1 = 1 ∧ (step1 s).a1 = 2) ∨ (s.a1 = 2 ∧ (step1 s).a1 = 3) ∨ (s.a1 = 3 ∧ (step1 s).a1 = 4) ∨ (s.a1 = 4 ∧ (step1 s).a1 = 3) ∨ (s.a1 = 5 ∧ (step1 s).a1 = 6) ∨ (s.a1 = 6 ∧ (step1 s).a1 = 1) ∨
    (s.a1 = 3 ∧ (step1 s).a1 = 5) ∨ (s.a1 = 4 ∧ (step1 s).a1 = 5) := by
  obtain h | h | h | h | h | h : s.a1 = 1 ∨ s.a1 = 2 ∨ s.a1 = 3 ∨ s.a1 = 4 ∨ s.a1 = 5 ∨ s.a1 = 6 := by omega
  · simp [step1, h]
  · simp [step1, h]
  · by_cases g : s.f0 = 0 <;> simp [step1, h, g]
  · by_cases g : s.t = 0 <;> simp [step1, h, g]
  · simp [step1, h]
  · simp [step1, h]

/-- A round of hand 0: what becomes of the state and of who was passed. -/
theorem fairs0 (f : Fst) (h : Fair f) : Reach 2 0 f.s ∧ 1 ≤ f.s.a0 ∧ f.s.a0 ≤ 6 ∧ Fair (fair0 f) := ⟨h.fine.1, h.fine.1.fine.1, h.fine.1.fine.2.1, h.step0⟩
/-- A round of hand 1: what becomes of the state and of who was passed. -/
theorem fairs1 (f : Fst) (h : Fair f) : Reach 2 0 f.s ∧ 1 ≤ f.s.a1 ∧ f.s.a1 ≤ 6 ∧ Fair (fair1 f) := ⟨h.fine.1, h.fine.1.fine.2.2.1, h.fine.1.fine.2.2.2, h.step1⟩

set_option maxHeartbeats 4000000 in
set_option maxRecDepth 100000 in
theorem fair_walk (a0 : Option Addr) (len0 cap0 : Nat) (z0 : List Int) (w : World) (w0 : IsRow .i64 w a0 len0 cap0 z0) :
    Calls Try.prog 5 #[.slice a0 len0 cap0] w fun e w' => e = .returned (.bool true) ∧ Below w.heap.size w w' := by
  have hle := w0.le
  have hat := Lib.hid (w0.at)
  clear w0
  unfold maxLen at hle
  go_enter Try.func5, Try.ntmps5
  go_wp2_with fail
  refine (fact_any _).mono ?_
  rintro e w1 ⟨rfl, h1⟩
  go_wp2_with fail
  refine (new_any 2 _).mono ?_
  rintro e w2 ⟨L, fb, rfl, hL, hbel0, hfb⟩
  have hbel1 := h1.trans (hbel0.mono h1.size)
  have Hfb : Hid (∀ k ∈ fb, w.heap.size ≤ k) := fun k hk => Nat.le_trans h1.size (hfb k hk).1
  have Hlt : Hid (∀ k ∈ fb, k < w2.heap.size) := fun k hk => (hfb k hk).2
  clear hfb hbel0 h1
  go_wp2_with fail
  have hB0 : Blk (w2.alloc (.cells #[.int .i64 0, .int .i64 0] 3)) w2.heap.size (passRow ⟨first 2, 0, 0⟩) 3 := Blk.new _ _ _
  have hL' := hL.keep (w' := w2.alloc (.cells #[.int .i64 0, .int .i64 0] 3)) (fun k hk => Below.heap_alloc _ _ _ (Hlt.out k hk))
  have hbel' := hbel1.alloc hbel1.size (.cells #[.int .i64 0, .int .i64 0] 3)
  have HB : Hid (w2.heap.size ∉ fb) := fun hm => Nat.lt_irrefl _ (Hlt.out _ hm)
  have HBw : Hid (w.heap.size ≤ w2.heap.size) := hbel1.size
  clear hL hbel1 Hlt
  generalize w2.alloc (.cells #[.int .i64 0, .int .i64 0] 3) = wq at hB0 hL' hbel' ⊢
  generalize w2.heap.size = B at hB0 HB HBw ⊢
  go_loopw [6] (fun i wr => FairRel w L fb B i wr) (fun i _ => 400 - (intOf i).toNat)
  case atStart => exact ⟨0, _, by omega, rfl, Fair.first, hL', hbel', hB0⟩
  case round =>
    obtain ⟨k, f, hk, rfl, hf, hb, hbel, hB⟩ := hrel
    clear hL' hbel' hB0
    by_cases hlt : k < len0 ∧ k < 400
    · obtain ⟨hk1, hk2⟩ := hlt
      obtain ⟨b, off, p, rfl, hb0, hc, -, -⟩ := hat.out k hk1
      have hc' : wr.cell? ⟨b, off + k, none⟩ = some (.int .i64 p) := by
        rw [hbel.cell (p := ⟨b, off + k, none⟩) hb0]; exact hc
      clear hat hc
      by_cases hp0 : p = 0
      · subst hp0
        obtain ⟨hre, ha1, ha6, hfn⟩ := fairs0 f hf
        have hbd := hf.fine
        have HX : Hid ((0 ≤ (fair0 f).x0 ∧ (fair0 f).x0 ≤ 1) ∧ 0 ≤ (fair0 f).x1 ∧ (fair0 f).x1 ≤ 1) := hfn.fine.2
        have hx0 := hbd.2.1.1
        have hx1 := hbd.2.2.1
        have hy0 := hbd.2.1.2
        have hy1 := hbd.2.2.2
        have hm := moves0 f.s ⟨ha1, ha6⟩
        have hc0 := hB.cell 0
        have hc1 := hB.cell 1
        simp only [passRow, List.getElem?_toArray, List.getElem?_cons_zero, List.getElem?_cons_succ] at hc0 hc1
        clear hbd ha1 ha6
        go_wp2_with fail
        refine (in2_yes (by omega) (by omega)).mono ?_
        rintro e w' ⟨rfl, rfl⟩
        rcases hm with ⟨g1, g2⟩ | ⟨g1, g2⟩ | ⟨g1, g2⟩ | ⟨g1, g2⟩ | ⟨g1, g2⟩ | ⟨g1, g2⟩ | ⟨g1, g2⟩ | ⟨g1, g2⟩
        iterate 6
          · have G1 := Lib.hid g1
            have G2 := Lib.hid g2
            clear g1 g2
            go_wp2_with fail
            refine (at_of (n := 2) (p := 0) hb G1.out).mono ?_
            rintro e w' ⟨rfl, rfl⟩
            go_wp2_with fail
            refine (step_of (n := 2) (fb := fb) (p := 0) (r := .nilIface) (s' := step0 f.s) hb hre (by omega) rfl rfl).mono ?_
            rintro e w' ⟨rfl, hb', ho⟩
            have hB' := ho.blk HB.out hB
            have hbel' := hbel.trans (ho.below Hfb.out)
            have hd0 := hB'.cell 0
            have hd1 := hB'.cell 1
            simp only [passRow, List.getElem?_toArray, List.getElem?_cons_zero, List.getElem?_cons_succ] at hd0 hd1
            have hf0 := hB'.free 0
            have hf1 := hB'.free 1
            clear hc0 hc1 hc'
            go_wp2_with fail
            refine (at_of (n := 2) (p := 0) hb' G2.out).mono ?_
            rintro e w' ⟨rfl, rfl⟩
            go_wp2_with fail
            go_roundw
            case rel =>
              refine ⟨k + 1, fair0 f, by omega, by go_num, hfn, by first | exact hb' | exact hb'.keep (fun k hk => Below.heap_setCell _ _ _ _ (fun e => HB.out (by subst e; exact hk))), by first | exact hbel' | exact hbel'.setCell HBw.out _, Blk.eq (by repeat (first | exact hB' | apply Blk.set)) ?_⟩
              simp [passRow, fair0, G1.out, G2.out]
            case measure => simp [intOf]; omega
        all_goals
          have G1 := Lib.hid g1
          have G2 := Lib.hid g2
          clear g1 g2
          go_wp2_with fail
          refine (at_of (n := 2) (p := 0) hb G1.out).mono ?_
          rintro e w' ⟨rfl, rfl⟩
          go_wp2_with fail
          refine (step_of (n := 2) (fb := fb) (p := 0) (r := .nilIface) (s' := step0 f.s) hb hre (by omega) rfl rfl).mono ?_
          rintro e w' ⟨rfl, hb', ho⟩
          have hB' := ho.blk HB.out hB
          have hbel' := hbel.trans (ho.below Hfb.out)
          have hd0 := hB'.cell 0
          have hd1 := hB'.cell 1
          simp only [passRow, List.getElem?_toArray, List.getElem?_cons_zero, List.getElem?_cons_succ] at hd0 hd1
          have hf0 := hB'.free 0
          have hf1 := hB'.free 1
          clear hc0 hc1 hc'
          go_wp2_with fail
          refine (at_of (n := 2) (p := 0) hb' G2.out).mono ?_
          rintro e w' ⟨rfl, rfl⟩
          have hb2 := hb'.keep (w' := w'.setCell ⟨B, 0, none⟩ (.int .i64 0)) (fun k hk => Below.heap_setCell _ _ _ _ (fun e => HB.out (by subst e; exact hk)))
          have hbel2 := hbel'.setCell (p := ⟨B, 0, none⟩) HBw.out (.int .i64 0)
          have hB2 := hB'.set 0 (.int .i64 0)
          go_wp2_with fail
          refine (at_of (n := 2) (p := 1) (k := (step0 f.s).a1) hb2 rfl).mono ?_
          rintro e w' ⟨rfl, rfl⟩
          by_cases hq : 3 ≤ (step0 f.s).a1 ∧ (step0 f.s).a1 ≤ 4
          · have HX1 : Hid (f.x1 + 1 ≤ 1) := by
              have := HX.out
              simp [fair0, G1.out, G2.out, hq] at this
              exact this.2
            have hx := HX1.out
            go_wp2_with fail
            refine (in2_yes hq.1 hq.2).mono ?_
            rintro e w' ⟨rfl, rfl⟩
            go_wp2_with fail
            go_roundw
            case rel =>
              refine ⟨k + 1, fair0 f, by omega, by go_num, hfn, hb2.keep (fun k hk => Below.heap_setCell _ _ _ _ (fun e => HB.out (by subst e; exact hk))), hbel2.setCell HBw.out _, Blk.eq (hB2.set _ _) ?_⟩
              simp [passRow, fair0, G1.out, G2.out, hq]
            case measure => simp [intOf]; omega
          · go_wp2_with fail
            refine (in2_no (by omega)).mono ?_
            rintro e w' ⟨rfl, rfl⟩
            go_wp2_with fail
            go_roundw
            case rel =>
              refine ⟨k + 1, fair0 f, by omega, by go_num, hfn, hb2, hbel2, Blk.eq hB2 ?_⟩
              simp [passRow, fair0, G1.out, G2.out, hq]
            case measure => simp [intOf]; omega
      by_cases hp1 : p = 1
      · subst hp1
        obtain ⟨hre, ha1, ha6, hfn⟩ := fairs1 f hf
        have hbd := hf.fine
        have HX : Hid ((0 ≤ (fair1 f).x0 ∧ (fair1 f).x0 ≤ 1) ∧ 0 ≤ (fair1 f).x1 ∧ (fair1 f).x1 ≤ 1) := hfn.fine.2
        have hx0 := hbd.2.1.1
        have hx1 := hbd.2.2.1
        have hy0 := hbd.2.1.2
        have hy1 := hbd.2.2.2
        have hm := moves1 f.s ⟨ha1, ha6⟩
        have hc0 := hB.cell 0
        have hc1 := hB.cell 1
        simp only [passRow, List.getElem?_toArray, List.getElem?_cons_zero, List.getElem?_cons_succ] at hc0 hc1
        clear hbd ha1 ha6
        go_wp2_with fail
        refine (in2_yes (by omega) (by omega)).mono ?_
        rintro e w' ⟨rfl, rfl⟩
        rcases hm with ⟨g1, g2⟩ | ⟨g1, g2⟩ | ⟨g1, g2⟩ | ⟨g1, g2⟩ | ⟨g1, g2⟩ | ⟨g1, g2⟩ | ⟨g1, g2⟩ | ⟨g1, g2⟩
        iterate 6
          · have G1 := Lib.hid g1
            have G2 := Lib.hid g2
            clear g1 g2
            go_wp2_with fail
            refine (at_of (n := 2) (p := 1) hb G1.out).mono ?_
            rintro e w' ⟨rfl, rfl⟩
            go_wp2_with fail
            refine (step_of (n := 2) (fb := fb) (p := 1) (r := .nilIface) (s' := step1 f.s) hb hre (by omega) rfl rfl).mono ?_
            rintro e w' ⟨rfl, hb', ho⟩
            have hB' := ho.blk HB.out hB
            have hbel' := hbel.trans (ho.below Hfb.out)
            have hd0 := hB'.cell 0
            have hd1 := hB'.cell 1
            simp only [passRow, List.getElem?_toArray, List.getElem?_cons_zero, List.getElem?_cons_succ] at hd0 hd1
            have hf0 := hB'.free 0
            have hf1 := hB'.free 1
            clear hc0 hc1 hc'
            go_wp2_with fail
            refine (at_of (n := 2) (p := 1) hb' G2.out).mono ?_
            rintro e w' ⟨rfl, rfl⟩
            go_wp2_with fail
            go_roundw
            case rel =>
              refine ⟨k + 1, fair1 f, by omega, by go_num, hfn, by first | exact hb' | exact hb'.keep (fun k hk => Below.heap_setCell _ _ _ _ (fun e => HB.out (by subst e; exact hk))), by first | exact hbel' | exact hbel'.setCell HBw.out _, Blk.eq (by repeat (first | exact hB' | apply Blk.set)) ?_⟩
              simp [passRow, fair1, G1.out, G2.out]
            case measure => simp [intOf]; omega
        all_goals
          have G1 := Lib.hid g1
          have G2 := Lib.hid g2
          clear g1 g2
          go_wp2_with fail
          refine (at_of (n := 2) (p := 1) hb G1.out).mono ?_
          rintro e w' ⟨rfl, rfl⟩
          go_wp2_with fail
          refine (step_of (n := 2) (fb := fb) (p := 1) (r := .nilIface) (s' := step1 f.s) hb hre (by omega) rfl rfl).mono ?_
          rintro e w' ⟨rfl, hb', ho⟩
          have hB' := ho.blk HB.out hB
          have hbel' := hbel.trans (ho.below Hfb.out)
          have hd0 := hB'.cell 0
          have hd1 := hB'.cell 1
          simp only [passRow, List.getElem?_toArray, List.getElem?_cons_zero, List.getElem?_cons_succ] at hd0 hd1
          have hf0 := hB'.free 0
          have hf1 := hB'.free 1
          clear hc0 hc1 hc'
          go_wp2_with fail
          refine (at_of (n := 2) (p := 1) hb' G2.out).mono ?_
          rintro e w' ⟨rfl, rfl⟩
          have hb2 := hb'.keep (w' := w'.setCell ⟨B, 1, none⟩ (.int .i64 0)) (fun k hk => Below.heap_setCell _ _ _ _ (fun e => HB.out (by subst e; exact hk)))
          have hbel2 := hbel'.setCell (p := ⟨B, 1, none⟩) HBw.out (.int .i64 0)
          have hB2 := hB'.set 1 (.int .i64 0)
          go_wp2_with fail
          refine (at_of (n := 2) (p := 0) (k := (step1 f.s).a0) hb2 rfl).mono ?_
          rintro e w' ⟨rfl, rfl⟩
          by_cases hq : 3 ≤ (step1 f.s).a0 ∧ (step1 f.s).a0 ≤ 4
          · have HX1 : Hid (f.x0 + 1 ≤ 1) := by
              have := HX.out
              simp [fair1, G1.out, G2.out, hq] at this
              exact this.2
            have hx := HX1.out
            go_wp2_with fail
            refine (in2_yes hq.1 hq.2).mono ?_
            rintro e w' ⟨rfl, rfl⟩
            go_wp2_with fail
            go_roundw
            case rel =>
              refine ⟨k + 1, fair1 f, by omega, by go_num, hfn, hb2.keep (fun k hk => Below.heap_setCell _ _ _ _ (fun e => HB.out (by subst e; exact hk))), hbel2.setCell HBw.out _, Blk.eq (hB2.set _ _) ?_⟩
              simp [passRow, fair1, G1.out, G2.out, hq]
            case measure => simp [intOf]; omega
          · go_wp2_with fail
            refine (in2_no (by omega)).mono ?_
            rintro e w' ⟨rfl, rfl⟩
            go_wp2_with fail
            go_roundw
            case rel =>
              refine ⟨k + 1, fair1 f, by omega, by go_num, hfn, hb2, hbel2, Blk.eq hB2 ?_⟩
              simp [passRow, fair1, G1.out, G2.out, hq]
            case measure => simp [intOf]; omega
      go_wp2_with fail
      refine (in2_no (by omega)).mono ?_
      rintro e w' ⟨rfl, rfl⟩
      go_wp2_with fail
      go_roundw
      case rel => exact ⟨k + 1, f, by omega, by go_num, hf, hb, hbel, hB⟩
      case measure => simp [intOf]; omega
    · clear hat
      go_wp2_with fail
      all_goals
        go_ret
        exact ⟨rfl, hbel⟩
end Go.Proofs.Ytjjhchpdgompoaa.Pair
