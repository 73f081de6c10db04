import Derived.Test.YtpnjmaoacnkjkaaSplitFact
import Derived.Test.YtpnjmaoacnkjkaaIn2
namespace Go.Proofs.Ytpnjmaoacnkjkaa.Split
open Go.RowKit
set_option linter.unusedVariables false

def NamesRel (n L : Nat) (fb : List Nat) (w : World) (B : Nat) (i : Value) (wr : World) : Prop :=
  ∃ (k : Nat) (s : St), k ≤ 200 ∧ i = .int .i64 k ∧ Reach n k s ∧ Rep wr n L fb s ∧ Below w.heap.size w wr ∧ Row wr B n (fun j => j) s.did ∧ ∀ h, h < n → s.did h ≤ k
def NamesIn (n L : Nat) (fb : List Nat) (w : World) (B : Nat) (s : St) (wr : World) : Prop :=
  Rep wr n L fb s ∧ Below w.heap.size w wr ∧ Row wr B n (fun j => j) s.did
theorem NamesIn.drewN {n L : Nat} {fb : List Nat} {w : World} {B : Nat} {s : St} {wr : World} (h : NamesIn n L fb w B s wr) (m : Nat) : NamesIn n L fb w B s (wr.drewN m) :=
  ⟨h.1.keep (fun _ _ => rfl), belowN h.2.1 m, h.2.2.drewN m⟩

set_option maxHeartbeats 4000000 in
set_option maxRecDepth 100000 in
theorem names_walk (n : Nat) (hn1 : 1 ≤ n) (hn4 : n ≤ 4) (a0 : Option Addr) (len0 cap0 : Nat) (z0 : List Int) (w : World) (w0 : IsRow .i64 w a0 len0 cap0 z0) :
    Calls Try.prog 3 #[.int .i64 n, .slice a0 len0 cap0] w fun e w' => e = .returned (.bool true) ∧ Below w.heap.size w w' := by
  have hle := w0.le
  have hat := Lib.hid (w0.at)
  clear w0
  unfold maxLen at hle
  have hnn : 0 ≤ (n : Int) := by omega
  have hmk := fun w => make_ints (n : Int) (by omega) (by omega) w
  simp only [Int.toNat_natCast] at hmk
  go_enter Try.func3, Try.ntmps3
  go_wp2_with fail
  refine (fact_any _).mono ?_
  rintro e w1 ⟨rfl, h1⟩
  go_wp2_with fail
  refine (new_any n hn1 hn4 _).mono ?_
  rintro e w2 ⟨L, fb, rfl, hL, hbel0, hfb⟩
  have hbel1 := h1.trans (hbel0.mono h1.size)
  have Hfb : Hid (∀ k ∈ fb, w.heap.size ≤ k) := fun k hk => Nat.le_trans h1.size (hfb k hk).1
  have HB : Hid (w2.heap.size ∉ fb) := fun hm => Nat.lt_irrefl _ (hfb _ hm).2
  have HBw : Hid (w.heap.size ≤ w2.heap.size) := hbel1.size
  have hL' := hL.keep (w' := w2.alloc (.cells (zeros n) 3)) (fun k hk => Below.heap_alloc _ _ _ (hfb k hk).2)
  have hbel' := hbel1.alloc hbel1.size (.cells (zeros n) 3)
  have hB : Row (w2.alloc (.cells (zeros n) 3)) w2.heap.size n (fun j => j) (first n).did := zeros_row (Blk.new _ _ _)
  clear hfb hbel0 h1 hL hbel1
  go_wp2_with fail
  generalize w2.alloc (.cells (zeros n) 3) = wq at hB hL' hbel' ⊢
  generalize w2.heap.size = B at hB HB HBw ⊢
  go_loopw [9] (fun i wr => NamesRel n L fb w B i wr) (fun i _ => 200 - (intOf i).toNat)
  case atStart => exact ⟨0, first n, by omega, rfl, Reach.first n hn1 hn4, hL', hbel', hB, fun h _ => by simp [first]⟩
  case round =>
    obtain ⟨k, s, hk, rfl, hf, hb, hbel, hrow, hdk⟩ := hrel
    have Hdk := Lib.hid hdk
    clear hL' hbel' hB hmk hdk
    by_cases hlt : k < len0 ∧ k < 200
    · obtain ⟨hk1, hk2⟩ := hlt
      obtain ⟨b, off, p, rfl, hb0, hc, -, -⟩ := hat.out k hk1
      have hc' : wr.cell? ⟨b, off + k, none⟩ = some (.int .i64 p) := by
        rw [hbel.cell (p := ⟨b, off + k, none⟩) hb0]; exact hc
      clear hat hc hb0
      go_wp2_with fail
      refine (step_any p hb hf).mono ?_
      rintro e w' ⟨rfl, hb', ho⟩
      have hr := hf.step p
      have hbel' := hbel.trans (ho.below Hfb.out)
      have hrow' : Row w' B n (fun j => j) s.did := hrow.keep (ho.block B HB.out)
      clear ho hb hbel hrow hc'
      by_cases hp : 0 ≤ p ∧ p < n
      · obtain ⟨m, rfl⟩ := Int.eq_ofNat_of_zero_le hp.1
        have hm : m < n := by omega
        have et : told n (m : Int) = .nilIface := told_nil hm
        rw [step_nat s hm] at hb' hr
        rw [et]
        clear et
        have hpos := hf.2.2.pos m hm
        have hdm := Hdk.out m hm
        have hcm := (hrow' m hm).1
        have hcf := (hrow' m hm).2
        simp only at hcm hcf
        have hd0 : 0 ≤ s.did m := hpos.2.2
        have hd1 : s.did m ≤ 200 := by omega
        have Hdk' : Hid (∀ h, h < n → (stepN s m).did h ≤ k + 1) := fun h hh => by
          rw [did_step]
          have := Hdk.out h hh
          split <;> omega
        have hnew : Row (w'.setCell ⟨B, m, none⟩ (.int .i64 (s.did m + 1))) B n (fun j => j) (stepN s m).did :=
          (hrow'.set (i := m) hm (fun j _ e => e) (s.did m + 1)).eq (fun j hj => by rw [did_step]; rfl)
        have hbn := hb'.keep (w' := w'.setCell ⟨B, m, none⟩ (.int .i64 (s.did m + 1))) (fun x hx => Below.heap_setCell _ _ _ _ (fun e => HB.out (by subst e; exact hx)))
        have hbeln := hbel'.setCell (p := ⟨B, m, none⟩) HBw.out (.int .i64 (s.did m + 1))
        have hin0 : NamesIn n L fb w B (stepN s m) (w'.setCell ⟨B, m, none⟩ (.int .i64 (s.did m + 1))) := ⟨hbn, hbeln, hnew⟩
        have Hm1 : Hid (1 ≤ many n (stepN s m)) := (show 1 ≤ many n (stepN s m) from by
          have := cnt_pos (f := fun h => decide (1 ≤ (stepN s m).did h)) (n := n) hm (by rw [decide_eq_true_eq, did_step, if_pos rfl]; omega)
          unfold many; omega)
        clear hpos hdm hb' hbel' hrow' hnew hbn hbeln
        generalize hsd : (stepN s m) = s' at hr Hdk' hin0 Hm1
        clear hsd
        go_wp2_with fail
        refine (in2_yes (by omega) (by omega)).mono ?_
        rintro e w'' ⟨rfl, rfl⟩
        clear hp
        go_wp2_with fail
        clear hcm hcf hd0 hd1
        generalize w'.setCell ⟨B, m, none⟩ (.int .i64 (s.did m + 1)) = wz at hin0 ⊢
        go_loop [11, 12] (fun m q => ∃ j : Nat, j ≤ n ∧ q = .int .i64 j ∧ m = .int .i64 (cnt (fun h => decide (1 ≤ s'.did h)) j)) (fun _ q => n - (intOf q).toNat)
        case atStart => exact ⟨0, by omega, rfl, rfl⟩
        case round =>
          obtain ⟨j, hj, rfl, rfl⟩ := hrel
          have hbd := cnt_bd (fun h => decide (1 ≤ s'.did h)) j
          by_cases hj2 : j < n
          · have hcell := (hin0.2.2 j hj2).1
            simp only at hcell
            by_cases h1 : 1 ≤ s'.did j
            · have Hk := Lib.hid (cnt_hit (f := fun h => decide (1 ≤ s'.did h)) (j := j) (by simpa using h1))
              have ht : decide (0 < s'.did j) = true := by simp; omega
              clear h1
              go_wp2_with fail
              go_round
              case rel => exact ⟨j + 1, by omega, by go_num, by rw [Hk.out]⟩
              case measure => simp [intOf]; omega
            · have Hk := Lib.hid (cnt_miss (f := fun h => decide (1 ≤ s'.did h)) (j := j) (by simpa using h1))
              have ht : decide (0 < s'.did j) = false := by simp; omega
              clear h1
              go_wp2_with fail
              go_round
              case rel => exact ⟨j + 1, by omega, by go_num, by rw [Hk.out]⟩
              case measure => simp [intOf]; omega
          · obtain rfl : j = n := by omega
            obtain ⟨M, hM⟩ : ∃ M : Nat, many j s' = M := ⟨(many j s').toNat, by have := many_bd j s'; omega⟩
            have hM' : cnt (fun h => decide (1 ≤ s'.did h)) j = (M : Int) := hM
            have hM4 : M ≤ 4 := by have := many_bd j s'; omega
            have HM := Lib.hid hM
            have hM1 : 1 ≤ M := by have := Hm1.out; omega
            rw [hM']
            have hw2 : 0 ≤ (M : Int) * ((M : Int) + 1) ∧ (M : Int) * ((M : Int) + 1) ≤ 20 ∧ (M : Int) * ((M : Int) + 1) / 2 = ((M * (M + 1) / 2 : Nat) : Int) := by
              clear hM hM' HM Hm1
              obtain rfl | rfl | rfl | rfl : M = 1 ∨ M = 2 ∨ M = 3 ∨ M = 4 := by omega
              all_goals decide
            have hw0 : IntKind.i64.wrap ((M : Int) + 1) = (M : Int) + 1 := IntWalk.i64_in _ (by omega)
            have hw3 := hw2.1
            have hw4 := hw2.2.1
            have hw5 := hw2.2.2
            have hw6 : IntKind.i64.wrap ((M : Int) * ((M : Int) + 1)) = (M : Int) * ((M : Int) + 1) := IntWalk.i64_in _ (by omega)
            have hw7 : IntKind.i64.wrap (4 * (M : Int)) = 4 * (M : Int) := IntWalk.i64_in _ (by omega)
            obtain ⟨T, hT⟩ : ∃ T : Nat, T = M * (M + 1) / 2 := ⟨_, rfl⟩
            rw [← hT] at hw5
            have HT := Lib.hid hT
            clear hw2 hM hM' hbd hj2 hj hT
            go_wp2_with fail
            go_loopw [13] (fun q wr => ∃ i : Nat, i ≤ j ∧ q = .int .i64 i ∧ NamesIn j L fb w B s' wr) (fun q _ => j - (intOf q).toNat)
            case atStart => exact ⟨0, by omega, rfl, hin0⟩
            case round =>
              obtain ⟨q, hq, rfl, hin⟩ := hrel
              clear hin0
              by_cases hq2 : q < j
              · have hi := hr.2.2
                have hin2 := hin
                obtain ⟨hb3, hbel3, hrow3⟩ := hin
                go_wp2_with fail
                by_cases h5 : s'.ln q = 5
                · refine (name_of (k := (pl (s'.row q) (s'.col q) : Int)) hb3 hn4 hi (by rw [name_nat s' hq2, if_pos h5])).mono ?_
                  rintro e w3 ⟨rfl, x, rfl⟩
                  obtain ⟨M2, e1, -, e2⟩ := hr.few hq2 h5
                  have eM : M2 = M := by have := HM.out; omega
                  subst eM
                  rw [← HT.out] at e2
                  have hin3 := hin2.drewN x
                  have hown := Lib.hid (fun r (hr2 : r < j) (hne : r ≠ q) (g5 : s'.ln r = 5) => hr.own hq2 hr2 (fun e => hne e.symm) h5 g5)
                  generalize pl (s'.row q) (s'.col q) = a at e2 hown ⊢
                  have t1 : decide ((a : Int) < -1) = false := by first | (simp; done) | (simp; omega)
                  have t2 : decide ((T : Int) ≤ (a : Int)) = false := by simp; omega
                  have t2' : decide (T ≤ a) = false := by simp; omega
                  have t3 : decide ((a : Int) < 0) = false := by simp
                  have t4 : decide (0 ≤ (a : Int)) = true := by simp
                  clear hin2 hb3 hbel3 hrow3 e1 e2
                  generalize wr.drewN x = wy at hin3 ⊢
                  go_wp2_with fail
                  clear hw0 hw3 hw4 hw5 hw6 hw7
                  go_loopw [15] (fun rv wr2 => ∃ r : Nat, r ≤ q ∧ rv = .int .i64 r ∧ NamesIn j L fb w B s' wr2) (fun rv _ => q - (intOf rv).toNat)
                  case atStart => exact ⟨0, by omega, rfl, hin3⟩
                  case round =>
                    obtain ⟨r, hr3, rfl, hin4⟩ := hrel
                    clear hin3
                    by_cases hr4 : r < q
                    · have hrj : r < j := by omega
                      by_cases g5 : s'.ln r = 5
                      · have Hne := Lib.hid (hown.out r hrj (by omega) g5)
                        go_wp2_with fail
                        refine (name_of (k := (pl (s'.row r) (s'.col r) : Int)) hin4.1 hn4 hi (by rw [name_nat s' hrj, if_pos g5])).mono ?_
                        rintro e w3 ⟨rfl, y, rfl⟩
                        have t5 : ((pl (s'.row r) (s'.col r) : Int) == (a : Int)) = false := by have := Hne.out; rw [beq_eq_false_iff_ne]; omega
                        have t5' : (pl (s'.row r) (s'.col r) == a) = false := by have := Hne.out; rw [beq_eq_false_iff_ne]; omega
                        have hin5 := hin4.drewN y
                        clear hin4 g5
                        generalize pl (s'.row r) (s'.col r) = c at t5 t5' Hne ⊢
                        go_wp2_with fail
                        go_roundw
                        case rel => (first | exact ⟨r + 1, by omega, by go_num, hin5⟩ | ((repeat apply Exists.intro); exact ⟨⟨r + 1, by omega, by go_num, hin5⟩, rfl⟩))
                        case measure => simp [intOf]; omega
                      · go_wp2_with fail
                        refine (name_of (k := -1) hin4.1 hn4 hi (by rw [name_nat s' hrj, if_neg g5])).mono ?_
                        rintro e w3 ⟨rfl, y, rfl⟩
                        have t5 : ((-1 : Int) == (a : Int)) = false := by rw [beq_eq_false_iff_ne]; omega
                        have hin5 := hin4.drewN y
                        clear hin4 g5
                        go_wp2_with fail
                        go_roundw
                        case rel => (first | exact ⟨r + 1, by omega, by go_num, hin5⟩ | ((repeat apply Exists.intro); exact ⟨⟨r + 1, by omega, by go_num, hin5⟩, rfl⟩))
                        case measure => simp [intOf]; omega
                    · go_wp2_with fail
                      go_roundw
                      case rel => exact ⟨q + 1, by omega, by go_num, hin4⟩
                      case measure => simp [intOf]; omega
                · refine (name_of (k := -1) hb3 hn4 hi (by rw [name_nat s' hq2, if_neg h5])).mono ?_
                  rintro e w3 ⟨rfl, x, rfl⟩
                  have hsoon := hr.soon hq2 Hm1.out h5
                  rw [HM.out] at hsoon
                  have hin3 := hin2.drewN x
                  have hcell := (hin3.2.2 q hq2).1
                  simp only at hcell
                  have t1 : decide ((T : Int) ≤ -1) = false := by simp; omega
                  have t2 : decide (4 * (M : Int) ≤ s'.did q) = false := by simp; omega
                  clear hin2 hb3 hbel3 hrow3 h5 hsoon
                  generalize wr.drewN x = wy at hin3 hcell ⊢
                  go_wp2_with fail
                  clear hw0 hw3 hw4 hw5 hw6 hw7
                  go_loopw [15] (fun rv wr2 => ∃ r : Nat, r ≤ q ∧ rv = .int .i64 r ∧ NamesIn j L fb w B s' wr2) (fun rv _ => q - (intOf rv).toNat)
                  case atStart => exact ⟨0, by omega, rfl, hin3⟩
                  case round =>
                    obtain ⟨r, hr3, rfl, hin4⟩ := hrel
                    clear hin3 hcell
                    by_cases hr4 : r < q
                    · go_wp2_with fail
                      go_roundw
                      case rel => exact ⟨r + 1, by omega, by go_num, hin4⟩
                      case measure => simp [intOf]; omega
                    · go_wp2_with fail
                      go_roundw
                      case rel => exact ⟨q + 1, by omega, by go_num, hin4⟩
                      case measure => simp [intOf]; omega
              · go_wp2_with fail
                go_roundw
                case rel => exact ⟨k + 1, s', by omega, by go_num, hr, hin.1, hin.2.1, hin.2.2, Hdk'.out⟩
                case measure => simp [intOf]; omega
      · have et : told n p = .iface 42 (.int .i64 1) := by unfold told; rw [if_neg hp]
        have es : step n s p = s := by unfold step; rw [if_neg hp]
        rw [es] at hb' hr
        rw [et]
        clear et es
        go_wp2_with fail
        go_roundw
        case rel => exact ⟨k + 1, s, by omega, by go_num, hr, hb', hbel', hrow', fun h hh => by have := Hdk.out h hh; omega⟩
        case measure => simp [intOf]; omega
    · clear hat
      go_wp2_with fail
      all_goals
        go_ret
        exact ⟨rfl, hbel⟩

set_option maxHeartbeats 1000000 in
set_option maxRecDepth 100000 in
theorem names_bad (n : Int) (h : n < 1 ∨ 4 < n) (v : Value) (w : World) :
    Calls Try.prog 3 #[.int .i64 n, v] w fun e w' => e = .returned (.bool true) ∧ Below w.heap.size w w' := by
  by_cases h1 : n < 1
  · clear h
    have H := Lib.hid h1
    go_enter Try.func3, Try.ntmps3
    go_wp2_with fail
    refine (fact_any _).mono ?_
    rintro e w1 ⟨rfl, hb⟩
    go_wp2_with fail
    refine (new_no _ (.inl H.out) _).mono ?_
    rintro e w2 ⟨rfl, rfl⟩
    go_wp2_with fail
    go_ret
    exact ⟨rfl, hb⟩
  · have h2 : 4 < n := by omega
    have h3 : 1 ≤ n := by omega
    have H := Lib.hid h2
    clear h h1
    go_enter Try.func3, Try.ntmps3
    go_wp2_with fail
    refine (fact_any _).mono ?_
    rintro e w1 ⟨rfl, hb⟩
    go_wp2_with fail
    refine (new_no _ (.inr H.out) _).mono ?_
    rintro e w2 ⟨rfl, rfl⟩
    go_wp2_with fail
    go_ret
    exact ⟨rfl, hb⟩

theorem names_any (n : Int) (a0 : Option Addr) (len0 cap0 : Nat) (z0 : List Int) (w : World) (w0 : IsRow .i64 w a0 len0 cap0 z0) :
    Calls Try.prog 3 #[.int .i64 n, .slice a0 len0 cap0] w fun e w' => e = .returned (.bool true) ∧ Below w.heap.size w w' := by
  by_cases h : 1 ≤ n ∧ n ≤ 4
  · obtain ⟨m, rfl⟩ := Int.eq_ofNat_of_zero_le (show 0 ≤ n by omega)
    exact names_walk m (by omega) (by omega) a0 len0 cap0 z0 w w0
  · exact names_bad n (by omega) _ w
end Go.Proofs.Ytpnjmaoacnkjkaa.Split
