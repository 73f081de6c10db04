import Derived.Test.YtjjhchpdgompoaaPairFact
import Derived.Test.YtjjhchpdgompoaaIn2
namespace Go.Proofs.Ytjjhchpdgompoaa.Pair
open Go.RowKit
set_option linter.unusedVariables false

def LaidRel (w : World) (L : Nat) (fb : List Nat) (i : Value) (wr : World) : Prop :=
  ∃ (k : Nat) (s : St), k ≤ 200 ∧ i = .int .i64 k ∧ Reach 2 k s ∧ Rep wr 2 L fb s ∧ Below w.heap.size w wr
/-- Hand p alone: behind k lines. -/
def mine (s : St) (p : Int) : Nat → St
  | 0 => s
  | k + 1 => step 2 (mine s p k) p
theorem mine_reach {s : St} {k : Nat} (h : Reach 2 k s) (p : Int) (j : Nat) : Reach 2 (k + j) (mine s p j) := by
  induction j with
  | zero => exact h
  | succ j ih => exact ih.step p
def MineRel (w : World) (L : Nat) (fb : List Nat) (s : St) (p : Int) (i : Value) (wr : World) : Prop :=
  ∃ k : Nat, k ≤ 3 ∧ i = .int .i64 k ∧ Rep wr 2 L fb (mine s p k) ∧ Below w.heap.size w wr

set_option maxHeartbeats 4000000 in
set_option maxRecDepth 100000 in
theorem alone_walk (a0 : Option Addr) (len0 cap0 : Nat) (z0 : List Int) (p : Int) (w : World) (w0 : IsRow .i64 w a0 len0 cap0 z0) :
    Calls Try.prog 6 #[.slice a0 len0 cap0, .int .i64 p] w fun e w' => e = .returned (.bool true) ∧ Below w.heap.size w w' := by
  have hle := w0.le
  have hat := Lib.hid (w0.at)
  clear w0
  unfold maxLen at hle
  go_enter Try.func6, Try.ntmps6
  go_wp2_with fail
  refine (fact_any _).mono ?_
  rintro e w1 ⟨rfl, h1⟩
  go_wp2_with fail
  refine (new_any 2 _).mono ?_
  rintro e w2 ⟨L, fb, rfl, hL, hbel0, hfb⟩
  have hbel1 := h1.trans (hbel0.mono h1.size)
  have Hfb : Hid (∀ k ∈ fb, w.heap.size ≤ k) := fun k hk => Nat.le_trans h1.size (hfb k hk).1
  clear hfb hbel0 h1
  go_wp2_with fail
  go_loopw [7] (fun i wr => LaidRel w L fb i wr) (fun i _ => 200 - (intOf i).toNat)
  case atStart => exact ⟨0, first 2, by omega, rfl, Reach.first, hL, hbel1⟩
  case round =>
    obtain ⟨k, s, hk, rfl, hf, hb, hbel⟩ := hrel
    clear hL hbel1
    by_cases hlt : k < len0 ∧ k < 200
    · obtain ⟨hk1, hk2⟩ := hlt
      obtain ⟨b, off, q, rfl, hb0, hc, -, -⟩ := hat.out k hk1
      have hc' : wr.cell? ⟨b, off + k, none⟩ = some (.int .i64 q) := by
        rw [hbel.cell (p := ⟨b, off + k, none⟩) hb0]; exact hc
      clear hat hc
      go_wp2_with fail
      refine (step_any q hb hf (by omega)).mono ?_
      rintro e w' ⟨rfl, hb', ho⟩
      have hr := hf.step q
      have hbel' := hbel.trans (ho.below Hfb.out)
      clear ho hb hf hc' hbel
      go_wp2_with fail
      go_roundw
      case rel => exact ⟨k + 1, _, by omega, by go_num, hr, hb', hbel'⟩
      case measure => simp [intOf]; omega
    · clear hat
      go_wp2_with fail
      all_goals
        clear hlt hle
        by_cases hp : 0 ≤ p ∧ p ≤ 1
        · refine (in2_yes hp.1 hp.2).mono ?_
          rintro e w' ⟨rfl, rfl⟩
          go_wp2_with fail
          refine (at_of (n := 2) (p := 0) (k := line 2 s 0) hb rfl).mono ?_
          rintro e w' ⟨rfl, rfl⟩
          by_cases g0 : line 2 s 0 = 1
          · have G0 := Lib.hid g0
            have t0 : (line 2 s 0 != 1) = false := by simp [g0]
            clear g0
            go_wp2_with fail
            refine (at_of (n := 2) (p := 1) (k := line 2 s 1) hb rfl).mono ?_
            rintro e w' ⟨rfl, rfl⟩
            by_cases g1 : line 2 s 1 = 1
            · have hin := hf.alone G0.out g1 p (by omega)
              have t1 : (line 2 s 1 != 1) = false := by simp [g1]
              have Hin := Lib.hid hin
              clear g1 hin
              go_wp2_with fail
              go_loopw [8] (fun i wr => MineRel w L fb s p i wr) (fun i _ => 3 - (intOf i).toNat)
              case atStart => exact ⟨0, by omega, rfl, hb, hbel⟩
              case round =>
                obtain ⟨j, hj, rfl, hb', hbel'⟩ := hrel
                by_cases hj3 : j < 3
                · have hr := mine_reach hf p j
                  have ht : told 2 p = .nilIface := by
                    unfold told; rw [if_pos (by omega)]
                  have Ht := Lib.hid ht
                  clear ht
                  go_wp2_with fail
                  refine (step_of (n := 2) (fb := fb) (p := p) (r := .nilIface) (s' := mine s p (j + 1)) hb' hr (by omega) Ht.out rfl).mono ?_
                  rintro e w'' ⟨rfl, hb'', ho⟩
                  go_wp2_with fail
                  go_roundw
                  case rel => exact ⟨j + 1, by omega, by go_num, hb'', hbel'.trans (ho.below Hfb.out)⟩
                  case measure => simp [intOf]; omega
                · obtain rfl : j = 3 := by omega
                  go_wp2_with fail
                  refine (at_of (n := 2) (p := p) (k := 5) hb' Hin.out).mono ?_
                  rintro e w' ⟨rfl, rfl⟩
                  go_wp2_with fail
                  go_ret
                  exact ⟨rfl, hbel'⟩
            · have t1 : (line 2 s 1 != 1) = true := by simp [g1]
              clear g1
              go_wp2_with fail
              go_ret
              exact ⟨rfl, hbel⟩
          · have t0 : (line 2 s 0 != 1) = true := by simp [g0]
            clear g0
            go_wp2_with fail
            go_ret
            exact ⟨rfl, hbel⟩
        · refine (in2_no (by omega)).mono ?_
          rintro e w' ⟨rfl, rfl⟩
          go_wp2_with fail
          go_ret
          exact ⟨rfl, hbel⟩
end Go.Proofs.Ytjjhchpdgompoaa.Pair
