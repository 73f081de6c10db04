import Derived.Test.YtgolkmddncanhaaBakeryFact
import Derived.Test.YtgolkmddncanhaaBakeryLive
import Derived.Test.YtgolkmddncanhaaBools
namespace Go.Proofs.Ytgolkmddncanhaa.Bakery
open Go.RowKit
set_option linter.unusedVariables false

/-- The row that says who was in. -/
def wasRow (n : Nat) (s : St) (t : Nat) : Array Value := ((List.range n).map fun q => Value.bool (was n s q t)).toArray
def GoRel (n L : Nat) (fb : List Nat) (w : World) (i : Value) (wr : World) : Prop :=
  ∃ (k : Nat) (s : St), k ≤ 200 ∧ i = .int .i64 k ∧ Reach n k s ∧ Rep wr n L fb s ∧ Below w.heap.size w wr ∧ (∀ k ∈ fb, k < wr.heap.size)
def RoundRel (n L : Nat) (fb : List Nat) (w : World) (s : St) (B : Nat) (r : Value) (wr : World) : Prop :=
  ∃ k : Nat, k ≤ 200 ∧ r = .int .i64 k ∧ Rep wr n L fb (turns n s (k * n)) ∧ Below w.heap.size w wr ∧ Blk wr B (wasRow n s (k * n)) 4
def HandRel (n L : Nat) (fb : List Nat) (w : World) (s : St) (B t : Nat) (q : Value) (wr : World) : Prop :=
  ∃ j : Nat, j ≤ n ∧ q = .int .i64 j ∧ Rep wr n L fb (turns n s (t + j)) ∧ Below w.heap.size w wr ∧ Blk wr B (wasRow n s (t + j)) 4

theorem falses_row (n : Nat) (s : St) : falses n = wasRow n s 0 := by
  unfold falses wasRow
  congr 1
  apply List.ext_getElem (by simp)
  intro i h1 h2
  simp [was]
theorem wasRow_cell {n q : Nat} {s : St} {t : Nat} (h : q < n) : (wasRow n s t)[q]? = some (.bool (was n s q t)) := by simp [wasRow, h]
theorem wasRow_hit {n j : Nat} {s : St} {k : Nat} (hj : j < n) (h : isIn n (turns n s (k * n + j + 1)) j = true) :
    (wasRow n s (k * n + j)).setIfInBounds j (.bool true) = wasRow n s (k * n + j + 1) := by
  have e : (k * n + j) % n = j := by rw [Nat.add_comm, Nat.add_mul_mod_self_right, Nat.mod_eq_of_lt hj]
  apply Array.ext (by simp [wasRow])
  intro q h1 h2
  simp only [wasRow, List.size_toArray, List.length_map, List.length_range, Array.size_setIfInBounds] at h1 h2
  simp only [wasRow, List.getElem_toArray, List.getElem_map, List.getElem_range, was, e]
  by_cases hq : j = q
  · subst hq; simp [h]
  · simp [hq]
theorem wasRow_miss {n j : Nat} {s : St} {k : Nat} (hj : j < n) (h : isIn n (turns n s (k * n + j + 1)) j = false) :
    wasRow n s (k * n + j) = wasRow n s (k * n + j + 1) := by
  have e : (k * n + j) % n = j := by rw [Nat.add_comm, Nat.add_mul_mod_self_right, Nat.mod_eq_of_lt hj]
  unfold wasRow
  congr 1
  apply List.map_congr_left
  intro q _
  simp only [was, e]
  by_cases hq : j = q
  · subst hq; simp [h]
  · simp [hq]

theorem turns_succ {n j c : Nat} {s : St} (hj : j < n) : step n (turns n s (c * n + j)) (j : Int) = turns n s (c * n + j + 1) := by
  have e : (c * n + j) % n = j := by rw [Nat.add_comm, Nat.add_mul_mod_self_right, Nat.mod_eq_of_lt hj]
  show _ = step n (turns n s (c * n + j)) (((c * n + j) % n : Nat) : Int)
  rw [e]

set_option maxHeartbeats 4000000 in
set_option maxRecDepth 100000 in
theorem goes_walk (n : Nat) (hn1 : 1 ≤ n) (hn4 : n ≤ 4) (a0 : Option Addr) (len0 cap0 : Nat) (z0 : List Int) (w : World) (w0 : IsRow .i64 w a0 len0 cap0 z0) :
    Calls Try.prog 4 #[.int .i64 n, .slice a0 len0 cap0] w fun e w' => e = .returned (.bool true) ∧ Below w.heap.size w w' := by
  have hle := w0.le
  have hat := Lib.hid (w0.at)
  clear w0
  unfold maxLen at hle
  have hnn : 0 ≤ (n : Int) := by omega
  go_enter Try.func4, Try.ntmps4
  go_wp2_with fail
  refine (fact_any _).mono ?_
  rintro e w1 ⟨rfl, h1⟩
  go_wp2_with fail
  refine (new_any n hn1 hn4 _).mono ?_
  rintro e w2 ⟨L, fb, rfl, hL, hbel0, hfb⟩
  have hbel1 := h1.trans (hbel0.mono h1.size)
  have Hfb : Hid (∀ k ∈ fb, w.heap.size ≤ k) := fun k hk => Nat.le_trans h1.size (hfb k hk).1
  have Hlt : Hid (∀ k ∈ fb, k < w2.heap.size) := fun k hk => (hfb k hk).2
  clear hfb hbel0 h1
  go_wp2_with fail
  go_loopw [8] (fun i wr => GoRel n L fb w i wr) (fun i _ => 200 - (intOf i).toNat)
  case atStart => exact ⟨0, first n, by omega, rfl, Reach.first n hn1 hn4, hL, hbel1, Hlt.out⟩
  case round =>
    obtain ⟨k, s, hk, rfl, hf, hb, hbel, hsz⟩ := hrel
    have Hsz := Lib.hid hsz
    clear hL hbel1 Hlt hsz
    by_cases hlt : k < len0 ∧ k < 200
    · obtain ⟨hk1, hk2⟩ := hlt
      obtain ⟨b, off, p, rfl, hb0, hc, -, -⟩ := hat.out k hk1
      have hc' : wr.cell? ⟨b, off + k, none⟩ = some (.int .i64 p) := by
        rw [hbel.cell (p := ⟨b, off + k, none⟩) hb0]; exact hc
      clear hat hc
      go_wp2_with fail
      refine (step_any p hb hf (by omega)).mono ?_
      rintro e w' ⟨rfl, hb', ho⟩
      have hr := hf.step p
      have hbel' := hbel.trans (ho.bel Hfb.out hbel.size)
      have Hsz' : Hid (∀ k ∈ fb, k < w'.heap.size) := fun k hk => Nat.lt_of_lt_of_le (Hsz.out k hk) ho.size_le
      clear ho hb hf hc' hbel
      go_wp2_with fail
      go_roundw
      case rel => exact ⟨k + 1, _, by omega, by go_num, hr, hb', hbel', Hsz'.out⟩
      case measure => simp [intOf]; omega
    · clear hat
      have hsize := hbel.size
      have hmk : ∀ w : World, (Instr.makeSlice 32 (.int .i64 (n : Int)) (.int .i64 (n : Int))).run Try.prog w = .ok (.slice (some ⟨w.heap.size, 0, none⟩) n n) (w.alloc (.cells (falses n) 4)) := fun w => make_bools n (by omega) w
      have hgo := Lib.hid (fun q hq => hf.goes (n := n) q hq)
      go_wp2_with fail
      all_goals
        clear hle hlt hmk
        have hB : Blk (wr.alloc (.cells (falses n) 4)) wr.heap.size (wasRow n s 0) 4 := (Blk.new _ _ _).eq (falses_row n s)
        have hb' := hb.keep (w' := wr.alloc (.cells (falses n) 4)) (fun k hk => Below.heap_alloc _ _ _ (Hsz.out k hk))
        have hbel' := hbel.alloc hsize (.cells (falses n) 4)
        have HB : Hid (wr.heap.size ∉ fb) := fun hm => Nat.lt_irrefl _ (Hsz.out _ hm)
        have HBw : Hid (w.heap.size ≤ wr.heap.size) := hsize
        clear hb hbel Hsz hsize
        generalize wr.alloc (.cells (falses n) 4) = wq at hB hb' hbel' ⊢
        generalize wr.heap.size = B at hB HB HBw ⊢
        go_loopw [10] (fun r wr => RoundRel n L fb w s B r wr) (fun r _ => 200 - (intOf r).toNat)
        case atStart => exact ⟨0, by omega, rfl, by simpa [turns] using hb', hbel', by simpa using hB⟩
        case round =>
          rename World => wo
          obtain ⟨c, hc, rfl, hb, hbel, hB⟩ := hrel
          by_cases hcR : c < 200
          · have hcI : (c : Int) < 200 := by omega
            go_wp2_with fail
            go_loopw [11] (fun q wr => HandRel n L fb w s B (c * n) q wr) (fun q _ => n - (intOf q).toNat)
            case atStart => exact ⟨0, by omega, rfl, by simpa using hb, hbel, by simpa using hB⟩
            case round =>
              obtain ⟨j, hj, rfl, hb, hbel, hB⟩ := hrel
              by_cases hj2 : j < n
              · have hr := hf.turns (c * n + j)
                have hcn : c * n ≤ 200 * 4 := Nat.mul_le_mul (by omega) (by omega)
                have hsmall : k + (c * n + j) ≤ 100000 := by omega
                clear hcn
                go_wp2_with fail
                refine (step_of (n := n) (fb := fb) (p := j) (r := .nilIface) (s' := turns n s (c * n + j + 1)) hb hr hsmall (told_nil hj2) (turns_succ hj2)).mono ?_
                rintro e w' ⟨rfl, hb', ho⟩
                have hB' := ho.blk HB.out hB
                have hbel' := hbel.trans (ho.bel Hfb.out hbel.size)
                go_wp2_with fail
                refine (at_of (hn := hn4) (p := j) (k := line n (turns n s (c * n + j + 1)) j) hb' rfl).mono ?_
                rintro e w' ⟨rfl, rfl⟩
                have hcell := hB'.cell j
                rw [wasRow_cell hj2] at hcell
                have hfree := hB'.free j
                go_wp2_with fail
                · have hh : isIn n (turns n s (c * n + j + 1)) j = true := by unfold isIn; assumption
                  go_roundw
                  case rel => exact ⟨j + 1, by omega, by go_num, hb'.keep (fun k hk => Below.heap_setCell _ _ _ _ (fun e => HB.out (by subst e; exact hk))), hbel'.setCell HBw.out _, (hB'.set j _).eq (wasRow_hit hj2 hh)⟩
                  case measure => simp [intOf]; omega
                · have hh : isIn n (turns n s (c * n + j + 1)) j = false := by unfold isIn; assumption
                  go_roundw
                  case rel => exact ⟨j + 1, by omega, by go_num, hb', hbel', hB'.eq (wasRow_miss hj2 hh)⟩
                  case measure => simp [intOf]; omega
              · obtain rfl : n = j := by omega
                have ee : c * n + n = (c + 1) * n := (Nat.succ_mul _ _).symm
                rw [ee] at hb hB
                go_wp2_with fail
                go_roundw
                case rel => exact ⟨c + 1, by omega, by go_num, hb, hbel, hB⟩
                case measure => simp [intOf]; omega
          · obtain rfl : c = 200 := by omega
            go_wp2_with fail
            go_loop [12] (fun q => ∃ j : Nat, j ≤ n ∧ q = .int .i64 j) (fun q => n - (intOf q).toNat)
            case atStart => exact ⟨0, by omega, rfl⟩
            case round =>
              obtain ⟨j, hj, rfl⟩ := hrel
              by_cases hj2 : j < n
              · have hcell := hB.cell j
                rw [wasRow_cell hj2, hgo.out j hj2] at hcell
                go_wp2_with fail
                go_round
                case rel => exact ⟨j + 1, by omega, by go_num⟩
                case measure => simp [intOf]; omega
              · go_wp2_with fail
                go_ret
                exact ⟨rfl, hbel⟩

set_option maxHeartbeats 1000000 in
set_option maxRecDepth 100000 in
theorem goes_bad (n : Int) (h : n < 1 ∨ 4 < n) (v : Value) (w : World) :
    Calls Try.prog 4 #[.int .i64 n, v] w fun e w' => e = .returned (.bool true) ∧ Below w.heap.size w w' := by
  by_cases h1 : n < 1
  · clear h
    have H := Lib.hid h1
    go_enter Try.func4, Try.ntmps4
    go_wp2_with fail
    refine (fact_any _).mono ?_
    rintro e w1 ⟨rfl, hb⟩
    go_wp2_with fail
    refine (new_no _ (.inl H.out) _).mono ?_
    rintro e w2 ⟨rfl, rfl⟩
    go_wp2_with fail
    go_ret
    exact ⟨rfl, hb⟩
  · have h2 : 4 < n := by omega
    have h3 : 1 ≤ n := by omega
    have H := Lib.hid h2
    clear h h1
    go_enter Try.func4, Try.ntmps4
    go_wp2_with fail
    refine (fact_any _).mono ?_
    rintro e w1 ⟨rfl, hb⟩
    go_wp2_with fail
    refine (new_no _ (.inr H.out) _).mono ?_
    rintro e w2 ⟨rfl, rfl⟩
    go_wp2_with fail
    go_ret
    exact ⟨rfl, hb⟩

theorem goes_any (n : Int) (a0 : Option Addr) (len0 cap0 : Nat) (z0 : List Int) (w : World) (w0 : IsRow .i64 w a0 len0 cap0 z0) :
    Calls Try.prog 4 #[.int .i64 n, .slice a0 len0 cap0] w fun e w' => e = .returned (.bool true) ∧ Below w.heap.size w w' := by
  by_cases h : 1 ≤ n ∧ n ≤ 4
  · obtain ⟨m, rfl⟩ := Int.eq_ofNat_of_zero_le (show 0 ≤ n by omega)
    exact goes_walk m (by omega) (by omega) a0 len0 cap0 z0 w w0
  · exact goes_bad n (by omega) _ w
end Go.Proofs.Ytgolkmddncanhaa.Bakery
