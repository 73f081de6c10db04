import Derived.Test.YtomkknmodekghaaBarFact
import Derived.Test.YtomkknmodekghaaIn2
namespace Go.Proofs.Ytomkknmodekghaa.Bar
open Go.RowKit
set_option linter.unusedVariables false

theorem phase_q {w : World} {n L : Nat} {fb : List Nat} {s : St} {p : Int} (h : Rep w n L fb s) (hn : n ≤ 4) (m : Nat) :
    Calls Try.prog 10 #[.pointer (some ⟨L, 0, none⟩), .int .i64 p] (w.drewN m) fun e w'' => e = .returned (.int .i64 (often n s p)) ∧ ∃ k, w'' = w.drewN k :=
  (phase_any p (h.keep (w' := w.drewN m) (fun _ _ => rfl)) hn).mono fun _ _ hx => ⟨hx.1, m, hx.2.symm⟩
theorem belowN {B : Nat} {a w : World} (h : Below B a w) (n : Nat) : Below B a (w.drewN n) := ⟨h.os, h.tape, h.output, h.size, h.block⟩
theorem rowN {w : World} {b n : Nat} {ad : Nat → Nat} {f : Nat → Int} (h : Row w b n ad f) (m : Nat) : Row (w.drewN m) b n ad f := h

/-- How often a hand came. -/
def came (s : St) (h : Nat) : Int := s.phase h + (if s.ln h = 1 then 0 else 1)
def AllRel (n L : Nat) (fb : List Nat) (w : World) (B : Nat) (i : Value) (wr : World) : Prop :=
  ∃ (k : Nat) (s : St), k ≤ 300 ∧ i = .int .i64 k ∧ Reach n k s ∧ Rep wr n L fb s ∧ Below w.heap.size w wr ∧ Row wr B n (fun j => j) (came s)
def InRel (n L : Nat) (fb : List Nat) (w : World) (B : Nat) (s : St) (q : Value) (wr : World) : Prop :=
  ∃ j : Nat, j ≤ n ∧ q = .int .i64 j ∧ Rep wr n L fb s ∧ Below w.heap.size w wr ∧ Row wr B n (fun j => j) (came s)

set_option maxHeartbeats 4000000 in
set_option maxRecDepth 100000 in
theorem all_walk (n : Nat) (hn1 : 1 ≤ n) (hn4 : n ≤ 4) (a0 : Option Addr) (len0 cap0 : Nat) (z0 : List Int) (w : World) (w0 : IsRow .i64 w a0 len0 cap0 z0) :
    Calls Try.prog 3 #[.int .i64 n, .slice a0 len0 cap0] w fun e w' => e = .returned (.bool true) ∧ Below w.heap.size w w' := by
  have hle := w0.le
  have hat := Lib.hid (w0.at)
  clear w0
  unfold maxLen at hle
  have hnn : 0 ≤ (n : Int) := by omega
  have hmk := fun w => make_ints (n : Int) (by omega) (by omega) w
  simp only [Int.toNat_natCast] at hmk
  go_enter Try.func3, Try.ntmps3
  go_wp2_with fail
  refine (fact_any _).mono ?_
  rintro e w1 ⟨rfl, h1⟩
  go_wp2_with fail
  refine (new_any n hn1 hn4 _).mono ?_
  rintro e w2 ⟨L, fb, rfl, hL, hbel0, hfb⟩
  have hbel1 := h1.trans (hbel0.mono h1.size)
  have Hfb : Hid (∀ k ∈ fb, w.heap.size ≤ k) := fun k hk => Nat.le_trans h1.size (hfb k hk).1
  have HB : Hid (w2.heap.size ∉ fb) := fun hm => Nat.lt_irrefl _ (hfb _ hm).2
  have HBw : Hid (w.heap.size ≤ w2.heap.size) := hbel1.size
  have hL' := hL.keep (w' := w2.alloc (.cells (zeros n) 3)) (fun k hk => Below.heap_alloc _ _ _ (hfb k hk).2)
  have hbel' := hbel1.alloc hbel1.size (.cells (zeros n) 3)
  have hB : Row (w2.alloc (.cells (zeros n) 3)) w2.heap.size n (fun j => j) (came (first n)) := (zeros_row (Blk.new _ _ _)).eq (fun j _ => by simp [came, first])
  clear hfb hbel0 h1 hL hbel1
  go_wp2_with fail
  generalize w2.alloc (.cells (zeros n) 3) = wq at hB hL' hbel' ⊢
  generalize w2.heap.size = B at hB HB HBw ⊢
  go_loopw [9] (fun i wr => AllRel n L fb w B i wr) (fun i _ => 300 - (intOf i).toNat)
  case atStart => exact ⟨0, first n, by omega, rfl, Reach.first n hn1 hn4, hL', hbel', hB⟩
  case round =>
    obtain ⟨k, s, hk, rfl, hf, hb, hbel, hrow⟩ := hrel
    clear hL' hbel' hB hmk
    by_cases hlt : k < len0 ∧ k < 300
    · obtain ⟨hk1, hk2⟩ := hlt
      obtain ⟨b, off, p, rfl, hb0, hc, -, -⟩ := hat.out k hk1
      have hc' : wr.cell? ⟨b, off + k, none⟩ = some (.int .i64 p) := by
        rw [hbel.cell (p := ⟨b, off + k, none⟩) hb0]; exact hc
      clear hat hc hb0
      go_wp2_with fail
      refine (at_of (hn := hn4) (p := p) (k := line n s p) hb rfl).mono ?_
      rintro e w' ⟨rfl, rfl⟩
      go_wp2_with fail
      refine (step_any p hb hf (by omega)).mono ?_
      rintro e w' ⟨rfl, hb', ho⟩
      have hr := hf.step p
      have hbel' := hbel.trans (ho.below Hfb.out)
      have hrow' : Row w' B n (fun j => j) (came s) := hrow.keep (ho.block B HB.out)
      clear ho hb hbel hrow hc'
      by_cases hp : 0 ≤ p ∧ p < n
      · obtain ⟨m, rfl⟩ := Int.eq_ofNat_of_zero_le hp.1
        have hm : m < n := by omega
        have et : told n (m : Int) = .nilIface := told_nil hm
        have el : line n s (m : Int) = s.ln m := line_nat s hm
        have hcs : ∀ r, r < n → came (stepN n s m) r = came s r + (if r = m ∧ s.ln m = 1 then 1 else 0) := fun r _ => came_step hf hm r
        have hfine := hf.fine hm
        rw [step_nat s hm] at hb' hr
        rw [et, el]
        clear et el
        have Hcs := Lib.hid hcs
        have hall := fun (q r : Nat) (h1 : q < n) (h2 : r < n) => hr.all h1 h2
        have hfin := fun (q : Nat) (h1 : q < n) => hr.fine h1
        have Hall := Lib.hid hall
        have Hfin := Lib.hid hfin
        clear hcs hall hfin
        generalize stepN n s m = s' at hb' hr Hcs Hall Hfin
        go_wp2_with fail
        refine (in2_yes (by omega) (by omega)).mono ?_
        rintro e w'' ⟨rfl, rfl⟩
        have hcm := (hrow' m hm).1
        have hcf := (hrow' m hm).2
        have hcb0 : -1 ≤ came s m := by unfold came; split <;> omega
        have hcb1 : came s m ≤ 302 := by unfold came; split <;> omega
        clear hp hfine
        have hfill : ∀ (wx : World), Row wx B n (fun j => j) (came s') → Rep wx n L fb s' → Below w.heap.size w wx →
            InRel n L fb w B s' (.int .i64 0) wx := fun wx h1 h2 h3 => ⟨0, by omega, rfl, h2, h3, h1⟩
        have Hfill := Lib.hid hfill
        clear hfill
        by_cases ht : s.ln m = 1
        · have t1 : (s.ln m == 1) = true := by simp [ht]
          have hnew : Row (w'.setCell ⟨B, m, none⟩ (.int .i64 (came s m + 1))) B n (fun j => j) (came s') :=
            (hrow'.set (i := m) hm (fun j _ e => e) (came s m + 1)).eq (fun j hj => by
              rw [Hcs.out j hj]
              by_cases c : j = m
              · subst c; simp [upd, ht]
              · simp [upd, c])
          have hbn := hb'.keep (w' := w'.setCell ⟨B, m, none⟩ (.int .i64 (came s m + 1))) (fun x hx => Below.heap_setCell _ _ _ _ (fun e => HB.out (by subst e; exact hx)))
          have hbeln := hbel'.setCell (p := ⟨B, m, none⟩) HBw.out (.int .i64 (came s m + 1))
          clear ht hrow' hbel' hb'
          go_wp2_with fail
          go_loopw [12] (fun q wr => InRel n L fb w B s' q wr) (fun q _ => n - (intOf q).toNat)
          case atStart => exact Hfill.out _ hnew hbn hbeln
          case round =>
            obtain ⟨q, hq, rfl, hbq, hbelq, hrowq⟩ := hrel
            by_cases hq2 : q < n
            · have hqI : (q : Int) < n := by omega
              go_wp2_with fail
              go_loopw [13] (fun r wr => InRel n L fb w B s' r wr) (fun r _ => n - (intOf r).toNat)
              case atStart => exact ⟨0, by omega, rfl, hbq, hbelq, hrowq⟩
              case round =>
                obtain ⟨r, hrr, rfl, hbr, hbelr, hrowr⟩ := hrel
                by_cases hr2 : r < n
                · have hcr := (hrowr r hr2).1
                  have hab := Hall.out q r hq2 hr2
                  have hfr := (Hfin.out r hr2).2.2.1
                  have eq := often_nat s' hq2
                  have er := often_nat s' hr2
                  have t1 : decide (came s' r < often n s' (q : Int)) = false := by
                    rw [eq]; unfold came; simp; exact hab.1
                  have t2 : decide (often n s' (r : Int) + 1 < often n s' (q : Int)) = false := by
                    rw [eq, er]; simp; exact hab.2
                  have b1 : -1 ≤ often n s' (r : Int) := by rw [er]; exact hfr.1
                  have b2 : often n s' (r : Int) ≤ 400 := by rw [er]; omega
                  clear hab hfr eq er
                  go_wp2_with fail
                  go_quiet ((go_at_call 10; exact phase_q hbr hn4 _))
                  go_wp2_with fail
                  go_roundw
                  case rel => exact ⟨r + 1, by omega, by go_num, hbr.keep (fun _ _ => rfl), belowN hbelr _, rowN hrowr _⟩
                  case measure => simp [intOf]; omega
                · go_wp2_with fail
                  go_roundw
                  case rel => exact ⟨q + 1, by omega, by go_num, hbr, hbelr, hrowr⟩
                  case measure => simp [intOf]; omega
            · go_wp2_with fail
              go_roundw
              case rel => exact ⟨k + 1, s', by omega, by go_num, hr, hbq, hbelq, hrowq⟩
              case measure => simp [intOf]; omega
        · have t1 : (s.ln m == 1) = false := by simp [ht]
          have hnew : Row w' B n (fun j => j) (came s') := hrow'.eq (fun j hj => by rw [Hcs.out j hj]; simp [ht])
          clear ht hrow'
          go_wp2_with fail
          go_loopw [12] (fun q wr => InRel n L fb w B s' q wr) (fun q _ => n - (intOf q).toNat)
          case atStart => exact Hfill.out _ hnew hb' hbel'
          case round =>
            obtain ⟨q, hq, rfl, hbq, hbelq, hrowq⟩ := hrel
            by_cases hq2 : q < n
            · have hqI : (q : Int) < n := by omega
              go_wp2_with fail
              go_loopw [13] (fun r wr => InRel n L fb w B s' r wr) (fun r _ => n - (intOf r).toNat)
              case atStart => exact ⟨0, by omega, rfl, hbq, hbelq, hrowq⟩
              case round =>
                obtain ⟨r, hrr, rfl, hbr, hbelr, hrowr⟩ := hrel
                by_cases hr2 : r < n
                · have hcr := (hrowr r hr2).1
                  have hab := Hall.out q r hq2 hr2
                  have hfr := (Hfin.out r hr2).2.2.1
                  have eq := often_nat s' hq2
                  have er := often_nat s' hr2
                  have t1 : decide (came s' r < often n s' (q : Int)) = false := by
                    rw [eq]; unfold came; simp; exact hab.1
                  have t2 : decide (often n s' (r : Int) + 1 < often n s' (q : Int)) = false := by
                    rw [eq, er]; simp; exact hab.2
                  have b1 : -1 ≤ often n s' (r : Int) := by rw [er]; exact hfr.1
                  have b2 : often n s' (r : Int) ≤ 400 := by rw [er]; omega
                  clear hab hfr eq er
                  go_wp2_with fail
                  go_quiet ((go_at_call 10; exact phase_q hbr hn4 _))
                  go_wp2_with fail
                  go_roundw
                  case rel => exact ⟨r + 1, by omega, by go_num, hbr.keep (fun _ _ => rfl), belowN hbelr _, rowN hrowr _⟩
                  case measure => simp [intOf]; omega
                · go_wp2_with fail
                  go_roundw
                  case rel => exact ⟨q + 1, by omega, by go_num, hbr, hbelr, hrowr⟩
                  case measure => simp [intOf]; omega
            · go_wp2_with fail
              go_roundw
              case rel => exact ⟨k + 1, s', by omega, by go_num, hr, hbq, hbelq, hrowq⟩
              case measure => simp [intOf]; omega
      · have et : told n p = .iface 38 (.int .i64 1) := by unfold told; rw [if_neg hp]
        have es : step n s p = s := by unfold step; rw [if_neg hp]
        rw [es] at hb' hr
        rw [et]
        clear et es hp
        go_wp2_with fail
        go_roundw
        case rel => exact ⟨k + 1, s, by omega, by go_num, hr, hb', hbel', hrow'⟩
        case measure => simp [intOf]; omega
    · clear hat
      go_wp2_with fail
      all_goals
        go_ret
        exact ⟨rfl, hbel⟩

set_option maxHeartbeats 1000000 in
set_option maxRecDepth 100000 in
theorem all_bad (n : Int) (h : n < 1 ∨ 4 < n) (v : Value) (w : World) :
    Calls Try.prog 3 #[.int .i64 n, v] w fun e w' => e = .returned (.bool true) ∧ Below w.heap.size w w' := by
  by_cases h1 : n < 1
  · clear h
    have H := Lib.hid h1
    go_enter Try.func3, Try.ntmps3
    go_wp2_with fail
    refine (fact_any _).mono ?_
    rintro e w1 ⟨rfl, hb⟩
    go_wp2_with fail
    refine (new_no _ (.inl H.out) _).mono ?_
    rintro e w2 ⟨rfl, rfl⟩
    go_wp2_with fail
    go_ret
    exact ⟨rfl, hb⟩
  · have h2 : 4 < n := by omega
    have h3 : 1 ≤ n := by omega
    have H := Lib.hid h2
    clear h h1
    go_enter Try.func3, Try.ntmps3
    go_wp2_with fail
    refine (fact_any _).mono ?_
    rintro e w1 ⟨rfl, hb⟩
    go_wp2_with fail
    refine (new_no _ (.inr H.out) _).mono ?_
    rintro e w2 ⟨rfl, rfl⟩
    go_wp2_with fail
    go_ret
    exact ⟨rfl, hb⟩

theorem all_any (n : Int) (a0 : Option Addr) (len0 cap0 : Nat) (z0 : List Int) (w : World) (w0 : IsRow .i64 w a0 len0 cap0 z0) :
    Calls Try.prog 3 #[.int .i64 n, .slice a0 len0 cap0] w fun e w' => e = .returned (.bool true) ∧ Below w.heap.size w w' := by
  by_cases h : 1 ≤ n ∧ n ≤ 4
  · obtain ⟨m, rfl⟩ := Int.eq_ofNat_of_zero_le (show 0 ≤ n by omega)
    exact all_walk m (by omega) (by omega) a0 len0 cap0 z0 w w0
  · exact all_bad n (by omega) _ w
end Go.Proofs.Ytomkknmodekghaa.Bar
