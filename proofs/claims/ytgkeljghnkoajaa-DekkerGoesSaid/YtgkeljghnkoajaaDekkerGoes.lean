import Derived.Test.YtgkeljghnkoajaaDekkerFact
import Derived.Test.YtgkeljghnkoajaaBools
namespace Go.Proofs.Ytgkeljghnkoajaa.Dekker
open Go.RowKit
set_option linter.unusedVariables false

/-- The row that says who was in. -/
def wasRow (n : Nat) (s : St) (t : Nat) : Array Value := ((List.range n).map fun q => Value.bool (was n s q t)).toArray
def GoRel (n L : Nat) (fb : List Nat) (w : World) (i : Value) (wr : World) : Prop :=
  ∃ (k : Nat) (s : St), k ≤ 200 ∧ i = .int .i64 k ∧ Reach n k s ∧ Rep wr n L fb s ∧ Below w.heap.size w wr ∧ (∀ k ∈ fb, k < wr.heap.size)
def RoundRel (n L : Nat) (fb : List Nat) (w : World) (s : St) (B : Nat) (r : Value) (wr : World) : Prop :=
  ∃ k : Nat, k ≤ 60 ∧ r = .int .i64 k ∧ Rep wr n L fb (turns n s (k * n)) ∧ Below w.heap.size w wr ∧ Blk wr B (wasRow n s (k * n)) 4
def HandRel (n L : Nat) (fb : List Nat) (w : World) (s : St) (B t : Nat) (q : Value) (wr : World) : Prop :=
  ∃ j : Nat, j ≤ n ∧ q = .int .i64 j ∧ Rep wr n L fb (turns n s (t + j)) ∧ Below w.heap.size w wr ∧ Blk wr B (wasRow n s (t + j)) 4

theorem falses_row (n : Nat) (s : St) : falses n = wasRow n s 0 := by
  unfold falses wasRow
  congr 1
  apply List.ext_getElem (by simp)
  intro i h1 h2
  simp [was]
theorem wasRow_cell {n q : Nat} {s : St} {t : Nat} (h : q < n) : (wasRow n s t)[q]? = some (.bool (was n s q t)) := by simp [wasRow, h]
theorem wasRow_hit {n j : Nat} {s : St} {k : Nat} (hj : j < n) (h : isIn n (turns n s (k * n + j + 1)) j = true) :
    (wasRow n s (k * n + j)).setIfInBounds j (.bool true) = wasRow n s (k * n + j + 1) := by
  have e : (k * n + j) % n = j := by rw [Nat.add_comm, Nat.add_mul_mod_self_right, Nat.mod_eq_of_lt hj]
  apply Array.ext (by simp [wasRow])
  intro q h1 h2
  simp only [wasRow, List.size_toArray, List.length_map, List.length_range, Array.size_setIfInBounds] at h1 h2
  simp only [wasRow, List.getElem_toArray, List.getElem_map, List.getElem_range, was, e]
  by_cases hq : j = q
  · subst hq; simp [h]
  · simp [hq]
theorem wasRow_miss {n j : Nat} {s : St} {k : Nat} (hj : j < n) (h : isIn n (turns n s (k * n + j + 1)) j = false) :
    wasRow n s (k * n + j) = wasRow n s (k * n + j + 1) := by
  have e : (k * n + j) % n = j := by rw [Nat.add_comm, Nat.add_mul_mod_self_right, Nat.mod_eq_of_lt hj]
  unfold wasRow
  congr 1
  apply List.map_congr_left
  intro q _
  simp only [was, e]
  by_cases hq : j = q
  · subst hq; simp [h]
  · simp [hq]

theorem turns_succ {n j c : Nat} {s : St} (hj : j < n) : step n (turns n s (c * n + j)) (j : Int) = turns n s (c * n + j + 1) := by
  have e : (c * n + j) % n = j := by rw [Nat.add_comm, Nat.add_mul_mod_self_right, Nat.mod_eq_of_lt hj]
  show _ = step n (turns n s (c * n + j)) (((c * n + j) % n : Nat) : Int)
  rw [e]

set_option maxHeartbeats 4000000 in
set_option maxRecDepth 100000 in
theorem goes_walk (a0 : Option Addr) (len0 cap0 : Nat) (z0 : List Int) (w : World) (w0 : IsRow .i64 w a0 len0 cap0 z0) :
    Calls Try.prog 4 #[.slice a0 len0 cap0] w fun e w' => e = .returned (.bool true) ∧ Below w.heap.size w w' := by
  have hle := w0.le
  have hat := Lib.hid (w0.at)
  clear w0
  unfold maxLen at hle
  go_enter Try.func4, Try.ntmps4
  go_wp2_with fail
  refine (fact_any _).mono ?_
  rintro e w1 ⟨rfl, h1⟩
  go_wp2_with fail
  refine (new_any 2 _).mono ?_
  rintro e w2 ⟨L, fb, rfl, hL, hbel0, hfb⟩
  have hbel1 := h1.trans (hbel0.mono h1.size)
  have Hfb : Hid (∀ k ∈ fb, w.heap.size ≤ k) := fun k hk => Nat.le_trans h1.size (hfb k hk).1
  have Hlt : Hid (∀ k ∈ fb, k < w2.heap.size) := fun k hk => (hfb k hk).2
  clear hfb hbel0 h1
  go_wp2_with fail
  go_loopw [5] (fun i wr => GoRel 2 L fb w i wr) (fun i _ => 200 - (intOf i).toNat)
  case atStart => exact ⟨0, first 2, by omega, rfl, Reach.first, hL, hbel1, Hlt.out⟩
  case round =>
    obtain ⟨k, s, hk, rfl, hf, hb, hbel, hsz⟩ := hrel
    have Hsz := Lib.hid hsz
    clear hL hbel1 Hlt hsz
    by_cases hlt : k < len0 ∧ k < 200
    · obtain ⟨hk1, hk2⟩ := hlt
      obtain ⟨b, off, p, rfl, hb0, hc, -, -⟩ := hat.out k hk1
      have hc' : wr.cell? ⟨b, off + k, none⟩ = some (.int .i64 p) := by
        rw [hbel.cell (p := ⟨b, off + k, none⟩) hb0]; exact hc
      clear hat hc
      go_wp2_with fail
      refine (step_any p hb hf (by omega)).mono ?_
      rintro e w' ⟨rfl, hb', ho⟩
      have hr := hf.step p
      have hbel' := hbel.trans (ho.below Hfb.out)
      have Hsz' : Hid (∀ k ∈ fb, k < w'.heap.size) := by rw [ho.size]; exact Hsz.out
      clear ho hb hf hc' hbel
      go_wp2_with fail
      go_roundw
      case rel => exact ⟨k + 1, _, by omega, by go_num, hr, hb', hbel', Hsz'.out⟩
      case measure => simp [intOf]; omega
    · clear hat
      have hsize := hbel.size
      have hmk : ∀ w : World, (Instr.makeSlice 31 (.int .i64 2) (.int .i64 2)).run Try.prog w = .ok (.slice (some ⟨w.heap.size, 0, none⟩) 2 2) (w.alloc (.cells (falses 2) 4)) := fun w => make_bools 2 (by omega) w
      have hgo := Lib.hid (fun q hq => hf.goes (n := 2) q hq)
      go_wp2_with fail
      all_goals
        clear hle hlt hmk
        have hB : Blk (wr.alloc (.cells (falses 2) 4)) wr.heap.size (wasRow 2 s 0) 4 := (Blk.new _ _ _).eq (falses_row 2 s)
        have hb' := hb.keep (w' := wr.alloc (.cells (falses 2) 4)) (fun k hk => Below.heap_alloc _ _ _ (Hsz.out k hk))
        have hbel' := hbel.alloc hsize (.cells (falses 2) 4)
        have HB : Hid (wr.heap.size ∉ fb) := fun hm => Nat.lt_irrefl _ (Hsz.out _ hm)
        have HBw : Hid (w.heap.size ≤ wr.heap.size) := hsize
        clear hb hbel Hsz hsize
        generalize wr.alloc (.cells (falses 2) 4) = wq at hB hb' hbel' ⊢
        generalize wr.heap.size = B at hB HB HBw ⊢
        go_loopw [7] (fun r wr => RoundRel 2 L fb w s B r wr) (fun r _ => 60 - (intOf r).toNat)
        case atStart => exact ⟨0, by omega, rfl, by simpa [turns] using hb', hbel', by simpa using hB⟩
        case round =>
          rename World => wo
          obtain ⟨c, hc, rfl, hb, hbel, hB⟩ := hrel
          by_cases hcR : c < 60
          · have hcI : (c : Int) < 60 := by omega
            go_wp2_with fail
            go_loopw [8] (fun q wr => HandRel 2 L fb w s B (c * 2) q wr) (fun q _ => 2 - (intOf q).toNat)
            case atStart => exact ⟨0, by omega, rfl, by simpa using hb, hbel, by simpa using hB⟩
            case round =>
              obtain ⟨j, hj, rfl, hb, hbel, hB⟩ := hrel
              by_cases hj2 : j < 2
              · have hr := hf.turns (c * 2 + j)
                have hsmall : k + (c * 2 + j) ≤ 100000 := by omega
                go_wp2_with fail
                refine (step_of (n := 2) (fb := fb) (p := j) (r := .nilIface) (s' := turns 2 s (c * 2 + j + 1)) hb hr hsmall (told_nil rfl hj2) (turns_succ hj2)).mono ?_
                rintro e w' ⟨rfl, hb', ho⟩
                have hB' := ho.blk HB.out hB
                have hbel' := hbel.trans (ho.below Hfb.out)
                go_wp2_with fail
                refine (at_of (p := j) (k := line 2 (turns 2 s (c * 2 + j + 1)) j) hb' rfl).mono ?_
                rintro e w' ⟨rfl, rfl⟩
                have hcell := hB'.cell j
                rw [wasRow_cell hj2] at hcell
                have hfree := hB'.free j
                go_wp2_with fail
                · have hh : isIn 2 (turns 2 s (c * 2 + j + 1)) j = true := by unfold isIn; assumption
                  go_roundw
                  case rel => exact ⟨j + 1, by omega, by go_num, hb'.keep (fun k hk => Below.heap_setCell _ _ _ _ (fun e => HB.out (by subst e; exact hk))), hbel'.setCell HBw.out _, (hB'.set j _).eq (wasRow_hit hj2 hh)⟩
                  case measure => simp [intOf]; omega
                · have hh : isIn 2 (turns 2 s (c * 2 + j + 1)) j = false := by unfold isIn; assumption
                  go_roundw
                  case rel => exact ⟨j + 1, by omega, by go_num, hb', hbel', hB'.eq (wasRow_miss hj2 hh)⟩
                  case measure => simp [intOf]; omega
              · obtain rfl : j = 2 := by omega
                have ee : c * 2 + 2 = (c + 1) * 2 := (Nat.succ_mul _ _).symm
                rw [ee] at hb hB
                go_wp2_with fail
                go_roundw
                case rel => exact ⟨c + 1, by omega, by go_num, hb, hbel, hB⟩
                case measure => simp [intOf]; omega
          · obtain rfl : c = 60 := by omega
            go_wp2_with fail
            go_loop [9] (fun q => ∃ j : Nat, j ≤ 2 ∧ q = .int .i64 j) (fun q => 2 - (intOf q).toNat)
            case atStart => exact ⟨0, by omega, rfl⟩
            case round =>
              obtain ⟨j, hj, rfl⟩ := hrel
              by_cases hj2 : j < 2
              · have hcell := hB.cell j
                rw [wasRow_cell hj2, hgo.out j hj2] at hcell
                go_wp2_with fail
                go_round
                case rel => exact ⟨j + 1, by omega, by go_num⟩
                case measure => simp [intOf]; omega
              · go_wp2_with fail
                go_ret
                exact ⟨rfl, hbel⟩
end Go.Proofs.Ytgkeljghnkoajaa.Dekker
