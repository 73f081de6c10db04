import Derived.Test.YtaodmfmpdcamkaaCountPlain
import Derived.Test.YtaodmfmpdcamkaaInT
import Derived.Test.YtaodmfmpdcamkaaTicketNew
import Derived.Test.YtaodmfmpdcamkaaBakeryNew
import Derived.Test.YtaodmfmpdcamkaaMcsNew
import Derived.Test.YtaodmfmpdcamkaaClhNew
import Derived.Test.YtaodmfmpdcamkaaFilterNew
import Derived.IntWalk
namespace Go.Proofs.Ytaodmfmpdcamkaa.Count3
open Go.RowKit
set_option linter.unusedVariables false

theorem ln_other {n : Nat} {s : Filter.St} {p q : Nat} (hp : p < n) (hl : 1 ≤ s.ln p ∧ s.ln p ≤ 6) (h : q ≠ p) : (Filter.stepN n s p).ln q = s.ln q := by
  unfold Filter.stepN Filter.pass
  repeat' split
  all_goals (first | rfl | simp [upd_other h])
/-- The rounds: number, went, i. -/
def Rel (n L : Nat) (fb : List Nat) (w : World) (B : Nat) (a b i : Value) (wr : World) : Prop :=
  ∃ (k N : Nat) (s : Filter.St) (had : Nat → Int), k ≤ 400 ∧ N ≤ k ∧ a = .int .i64 N ∧ b = .int .i64 N ∧ i = .int .i64 k ∧ Filter.Reach n k s ∧ Count.In n 5 s.ln had N ∧
    Filter.Rep wr n L fb s ∧ Below w.heap.size w wr ∧ Row wr B n (fun j => j) had ∧ (∀ k ∈ fb, k < wr.heap.size) ∧ B < wr.heap.size

set_option maxHeartbeats 4000000 in
set_option maxRecDepth 100000 in
theorem walk (n : Nat) (hn1 : 1 ≤ n) (hn4 : n ≤ 4) (a0 : Option Addr) (len0 cap0 : Nat) (z0 : List Int) (w : World) (w0 : IsRow .i64 w a0 len0 cap0 z0) :
    Calls Try.prog 3 #[.int .i64 3, .int .i64 n, .slice a0 len0 cap0] w fun e w' => e = .returned (.bool true) ∧ Below w.heap.size w w' := by
  have hle := w0.le
  have hat := Lib.hid (w0.at)
  clear w0
  unfold maxLen at hle
  have hnn : 0 ≤ (n : Int) := by omega
  have hmk := fun w => make_ints (n : Int) (by omega) (by omega) w
  simp only [Int.toNat_natCast] at hmk
  go_enter Try.func3, Try.ntmps3
  go_wp2_with fail
  refine (Ticket.new_any 1 (by omega) (by omega) _).mono ?_
  rintro e u1 ⟨LT, fbT, rfl, hT, hbT, hfT⟩
  go_wp2_with fail
  refine (Ticket.step_of (n := 1) (fb := fbT) (p := 0) (r := .nilIface) (s' := Ticket.step 1 (Ticket.first 1) 0) hT (Ticket.Reach.first 1 (by omega) (by omega)) (by omega) rfl rfl).mono ?_
  rintro e u2 ⟨rfl, hT2, hoT⟩
  have hbT2 := hbT.trans (hoT.below (fun k hk => (hfT k hk).1))
  clear hT hbT hfT hoT
  go_wp2_with fail
  refine (Ticket.at_of (hn := by omega) (p := 0) (k := 2) hT2 rfl).mono ?_
  rintro e u3 ⟨rfl, rfl⟩
  clear hT2
  go_wp2_with fail
  refine (Bakery.new_any n hn1 hn4 _).mono ?_
  rintro e v0 ⟨L0, fb0, rfl, h0, b0, f0⟩
  go_wp2_with fail
  refine (Mcs.new_any n hn1 hn4 _).mono ?_
  rintro e v1 ⟨L1, fb1, rfl, h1, b1, f1⟩
  go_wp2_with fail
  refine (Clh.new_any n hn1 hn4 _).mono ?_
  rintro e v2 ⟨L2, fb2, rfl, h2, b2, f2⟩
  go_wp2_with fail
  refine (Filter.new_any n hn1 hn4 _).mono ?_
  rintro e v3 ⟨L3, fb3, rfl, h3, b3, f3⟩
  have z0 := hbT2.size
  have z1 := b0.size
  have z2 := b1.size
  have z3 := b2.size
  have z4 := b3.size
  have hbel : Below w.heap.size w v3 := (((hbT2.trans (b0.mono z0)).trans (b1.mono (by omega))).trans (b2.mono (by omega))).trans (b3.mono (by omega))
  have hL : Filter.Rep v3 n L3 fb3 (Filter.first n) := h3.keep (fun k hk => by
    have := (f3 k hk).2
    exact rfl)
  have Hfb : Hid (∀ k ∈ fb3, w.heap.size ≤ k) := fun k hk => by have := (f3 k hk).1; omega
  have Hlt : Hid (∀ k ∈ fb3, k < v3.heap.size) := fun k hk => by have := (f3 k hk).2; omega
  have Hw3 : Hid (w.heap.size ≤ v3.heap.size) := hbel.size
  clear h0 h1 h2 h3 b0 b1 b2 b3 f0 f1 f2 f3 z0 z1 z2 z3 z4 hbT2
  go_wp2_with fail
  refine (inT_yes (by omega) (by omega)).mono ?_
  rintro e v4 ⟨rfl, rfl⟩
  go_wp2_with fail
  have hsz1 : v3.heap.size < (v3.alloc (.cells #[.int .i64 7, .int .i64 6, .int .i64 4, .int .i64 5] 3)).heap.size := by show _ < _; simp
  have hl1 : Filter.Rep (v3.alloc (.cells #[.int .i64 7, .int .i64 6, .int .i64 4, .int .i64 5] 3)) n L3 fb3 (Filter.first n) := hL.keep (fun k hk => Below.heap_alloc _ _ _ (Hlt.out k hk))
  have hb1 := hbel.alloc Hw3.out (.cells #[.int .i64 7, .int .i64 6, .int .i64 4, .int .i64 5] 3)
  have hlt1 : ∀ k ∈ fb3, k < (v3.alloc (.cells #[.int .i64 7, .int .i64 6, .int .i64 4, .int .i64 5] 3)).heap.size := fun k hk => Nat.lt_trans (Hlt.out k hk) hsz1
  have HB : Hid (v3.heap.size + 1 ∉ fb3) := fun hm => by have := Hlt.out _ hm; omega
  have HBw : Hid (w.heap.size ≤ v3.heap.size + 1) := by have := Hw3.out; show _ ≤ _; omega
  have hes : v3.heap.size + 1 = (v3.alloc (.cells #[.int .i64 7, .int .i64 6, .int .i64 4, .int .i64 5] 3)).heap.size := by simp
  rw [hes] at HB HBw ⊢
  clear hL hbel Hlt Hw3 hes hsz1
  generalize v3.alloc (.cells #[.int .i64 7, .int .i64 6, .int .i64 4, .int .i64 5] 3) = v5 at *
  have hB : Row (v5.alloc (.cells (zeros n) 3)) v5.heap.size n (fun j => j) (fun _ => 0) := zeros_row (Blk.new _ _ _)
  have hl2 := hl1.keep (w' := v5.alloc (.cells (zeros n) 3)) (fun k hk => Below.heap_alloc _ _ _ (hlt1 k hk))
  have hb2 := hb1.alloc hb1.size (.cells (zeros n) 3)
  have Hlt2 : Hid (∀ k ∈ fb3, k < (v5.alloc (.cells (zeros n) 3)).heap.size) := fun k hk => by have := hlt1 k hk; simp; omega
  have HBl : Hid (v5.heap.size < (v5.alloc (.cells (zeros n) 3)).heap.size) := by show _ < _; simp
  clear hl1 hb1 hlt1 hmk
  generalize v5.alloc (.cells (zeros n) 3) = v6 at *
  generalize v5.heap.size = B at *
  go_loopw [18, 19, 21] (fun a b i wr => Rel n L3 fb3 w B a b i wr) (fun _ _ i _ => 400 - (intOf i).toNat)
  case atStart => exact ⟨0, 0, Filter.first n, _, by omega, by omega, rfl, rfl, rfl, Filter.Reach.first n hn1 hn4, fun q _ _ => rfl, hl2, hb2, hB, Hlt2.out, HBl.out⟩
  case round =>
    obtain ⟨k, N, s, had, hk, hN, rfl, rfl, rfl, hf, hin, hb, hbel, hrow, hsz, hbl⟩ := hrel
    have Hsz := Lib.hid hsz
    have Hbl := Lib.hid hbl
    clear hl2 hb2 hB Hlt2 HBl hsz hbl
    by_cases hlt : k < len0 ∧ k < 400
    · obtain ⟨hk1, hk2⟩ := hlt
      obtain ⟨b, off, p, rfl, hb0, hc, -, -⟩ := hat.out k hk1
      have hc' : wr.cell? ⟨b, off + k, none⟩ = some (.int .i64 p) := by
        rw [hbel.cell (p := ⟨b, off + k, none⟩) hb0]; exact hc
      clear hat hc hb0
      go_wp2_with fail
      by_cases hp : 0 ≤ p ∧ p < n
      · obtain ⟨m, rfl⟩ := Int.eq_ofNat_of_zero_le hp.1
        have hm : m < n := by omega
        refine (inT_yes (by omega) (by omega)).mono ?_
        rintro e w'' ⟨rfl, rfl⟩
        clear hp hc'
        go_wp2_with fail
        refine (Filter.at_of (hn := hn4) (p := m) (k := s.ln m) hb (Filter.line_nat s hm)).mono ?_
        rintro e w' ⟨rfl, rfl⟩
        go_wp2_with fail
        refine (Filter.step_any m hb hf (by omega)).mono ?_
        rintro e w' ⟨rfl, hb', ho⟩
        have hr := hf.step (m : Int)
        rw [Filter.told_nil hm]
        rw [Filter.step_nat s hm] at hb' hr
        have hbel' := hbel.trans (ho.below Hfb.out)
        have Hsz' : Hid (∀ k ∈ fb3, k < w'.heap.size) := fun k hk => Nat.lt_of_lt_of_le (Hsz.out k hk) ho.size_le
        have Hbl' : Hid (B < w'.heap.size) := Nat.lt_of_lt_of_le Hbl.out ho.size_le
        have hrow' : Row w' B n (fun j => j) had := hrow.keep (ho.block B HB.out)
        have hother : ∀ q, q < n → q ≠ m → (Filter.stepN n s m).ln q = s.ln q := fun q _ h => ln_other hm (hf.fine hm) h
        have hone : ∀ q, q < n → s.ln q = 5 → s.ln m = 5 → q = m := fun q hq h1 h2 => hf.one q m hq hm (by unfold Filter.isIn; rw [Filter.line_nat s hq, h1]; rfl) (by unfold Filter.isIn; rw [Filter.line_nat s hm, h2]; rfl)
        clear ho hb hbel hrow Hsz Hbl
        have Hother := Lib.hid hother
        have Hone := Lib.hid hone
        clear hother hone
        generalize Filter.stepN n s m = s' at hb' hr Hother ⊢
        go_wp2_with fail
        refine (Filter.at_of (hn := hn4) (p := m) (k := s'.ln m) hb' (Filter.line_nat s' hm)).mono ?_
        rintro e w'' ⟨rfl, rfl⟩
        have hcell := (hrow' m hm).1
        have hfree := (hrow' m hm).2
        simp only at hcell hfree
        by_cases a : s.ln m = 5
        · have t1 : (s.ln m != 5) = false := by simp [a]
          have t2 : (s.ln m == 5) = true := by simp [a]
          by_cases c : s'.ln m = 5
          · have t3 : (s'.ln m == 5) = true := by simp [c]
            have t4 : (s'.ln m != 5) = false := by simp [c]
            have hin2 := hin.stays (p := m) (ln' := s'.ln) Hother.out (fun _ => a)
            clear a c
            generalize s.ln m = was at t1 t2 ⊢
            generalize s'.ln m = now at t3 t4 ⊢
            go_wp2_with fail
            go_roundw
            case rel => (first | exact ⟨k + 1, N, s', had, by omega, by omega, rfl, rfl, by go_num, hr, hin2, hb', hbel', hrow', Hsz'.out, Hbl'.out⟩ | ((repeat apply Exists.intro); exact ⟨⟨k + 1, N, s', had, by omega, by omega, rfl, rfl, by go_num, hr, hin2, hb', hbel', hrow', Hsz'.out, Hbl'.out⟩, rfl⟩))
            case measure => simp [intOf]; omega
          · have t3 : (s'.ln m == 5) = false := by simp [c]
            have t4 : (s'.ln m != 5) = true := by simp [c]
            have hhad : had m = N := hin m hm a
            have hin2 : Count.In n 5 s'.ln had ((N + 1 : Nat) : Int) := Count.goes (p := m) (ln := s.ln) Hother.out (fun q hq h => Hone.out q hq h a) c
            rw [hhad] at hcell
            clear a c hhad hin
            generalize s.ln m = was at t1 t2 ⊢
            generalize s'.ln m = now at t3 t4 ⊢
            go_wp2_with fail
            go_roundw
            case rel => (first | exact ⟨k + 1, N + 1, s', had, by omega, by omega, by go_num, by go_num, by go_num, hr, hin2, hb', hbel', hrow', Hsz'.out, Hbl'.out⟩ | ((repeat apply Exists.intro); exact ⟨⟨k + 1, N + 1, s', had, by omega, by omega, by go_num, by go_num, by go_num, hr, hin2, hb', hbel', hrow', Hsz'.out, Hbl'.out⟩, rfl⟩))
            case measure => simp [intOf]; omega
        · have t1 : (s.ln m != 5) = true := by simp [a]
          have t2 : (s.ln m == 5) = false := by simp [a]
          by_cases c : s'.ln m = 5
          · have t3 : (s'.ln m == 5) = true := by simp [c]
            have hin2 := hin.comes (p := m) (ln' := s'.ln) Hother.out
            have hnew : Row (w'.setCell ⟨B, m, none⟩ (.int .i64 N)) B n (fun j => j) (upd had m N) := hrow'.set (i := m) hm (fun j _ e => e) N
            have hbn := hb'.keep (w' := w'.setCell ⟨B, m, none⟩ (.int .i64 N)) (fun x hx => Below.heap_setCell _ _ _ _ (fun e => HB.out (by subst e; exact hx)))
            have hbeln := hbel'.setCell (p := ⟨B, m, none⟩) HBw.out (.int .i64 N)
            have Hszn : Hid (∀ k ∈ fb3, k < (w'.setCell ⟨B, m, none⟩ (.int .i64 N)).heap.size) := fun x hx => by simpa using Hsz'.out x hx
            have Hbln : Hid (B < (w'.setCell ⟨B, m, none⟩ (.int .i64 N)).heap.size) := by have := Hbl'.out; show _ < _; simpa using this
            clear a c hin hb' hbel' hrow'
            generalize s.ln m = was at t1 t2 ⊢
            generalize s'.ln m = now at t3 ⊢
            go_wp2_with fail
            go_roundw
            case rel => (first | exact ⟨k + 1, N, s', _, by omega, by omega, rfl, rfl, by go_num, hr, hin2, hbn, hbeln, hnew, Hszn.out, Hbln.out⟩ | ((repeat apply Exists.intro); exact ⟨⟨k + 1, N, s', _, by omega, by omega, rfl, rfl, by go_num, hr, hin2, hbn, hbeln, hnew, Hszn.out, Hbln.out⟩, rfl⟩))
            case measure => simp [intOf]; omega
          · have t3 : (s'.ln m == 5) = false := by simp [c]
            have hin2 := hin.stays (p := m) (ln' := s'.ln) Hother.out (fun x => absurd x c)
            clear a c
            generalize s.ln m = was at t1 t2 ⊢
            generalize s'.ln m = now at t3 ⊢
            go_wp2_with fail
            go_roundw
            case rel => (first | exact ⟨k + 1, N, s', had, by omega, by omega, rfl, rfl, by go_num, hr, hin2, hb', hbel', hrow', Hsz'.out, Hbl'.out⟩ | ((repeat apply Exists.intro); exact ⟨⟨k + 1, N, s', had, by omega, by omega, rfl, rfl, by go_num, hr, hin2, hb', hbel', hrow', Hsz'.out, Hbl'.out⟩, rfl⟩))
            case measure => simp [intOf]; omega
      · refine (inT_no (by omega)).mono ?_
        rintro e w'' ⟨rfl, rfl⟩
        have hr := hf.step p
        have es : Filter.step n s p = s := by unfold Filter.step; rw [if_neg hp]
        rw [es] at hr
        clear hp hc' es
        go_wp2_with fail
        go_roundw
        case rel => (first | exact ⟨k + 1, N, s, had, by omega, by omega, rfl, rfl, by go_num, hr, hin, hb, hbel, hrow, Hsz.out, Hbl.out⟩ | ((repeat apply Exists.intro); exact ⟨⟨k + 1, N, s, had, by omega, by omega, rfl, rfl, by go_num, hr, hin, hb, hbel, hrow, Hsz.out, Hbl.out⟩, rfl⟩))
        case measure => simp [intOf]; omega
    · clear hat
      go_wp2_with fail
      all_goals
        go_ret
        exact ⟨rfl, hbel⟩
end Go.Proofs.Ytaodmfmpdcamkaa.Count3
