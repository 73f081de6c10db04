import Derived.Test.YtndpimcidnakbaaMcsFact
import Derived.Test.YtndpimcidnakbaaMid
import Derived.Test.YtndpimcidnakbaaIn2
namespace Go.Proofs.Ytndpimcidnakbaa.Mcs
open Go.RowKit
set_option linter.unusedVariables false

def ints (l : List Nat) : List Int := l.map fun (x : Nat) => (x : Int)
def FirstRel (n L : Nat) (fb : List Nat) (w : World) (B : Nat) (v i : Value) (wr : World) : Prop :=
  ∃ (k : Nat) (s : St), k ≤ 400 ∧ i = .int .i64 k ∧ Reach n k s ∧ Rep wr n L fb s ∧ Below w.heap.size w wr ∧ Mid wr B v (ints (row s)) ∧ B ≤ wr.heap.size

set_option maxHeartbeats 4000000 in
set_option maxRecDepth 100000 in
theorem first_walk (n : Nat) (hn1 : 1 ≤ n) (hn4 : n ≤ 4) (a0 : Option Addr) (len0 cap0 : Nat) (z0 : List Int) (w : World) (w0 : IsRow .i64 w a0 len0 cap0 z0) :
    Calls Try.prog 5 #[.int .i64 n, .slice a0 len0 cap0] w fun e w' => e = .returned (.bool true) ∧ Below w.heap.size w w' := by
  have hle := w0.le
  have hat := Lib.hid (w0.at)
  clear w0
  unfold maxLen at hle
  have hnn : 0 ≤ (n : Int) := by omega
  go_enter Try.func5, Try.ntmps5
  go_wp2_with fail
  refine (fact_any _).mono ?_
  rintro e w1 ⟨rfl, h1⟩
  go_wp2_with fail
  refine (new_any n hn1 hn4 _).mono ?_
  rintro e w2 ⟨L, fb, rfl, hL, hbel0, hfb⟩
  have hbel1 := h1.trans (hbel0.mono h1.size)
  have Hfb : Hid (∀ k ∈ fb, w.heap.size ≤ k) := fun k hk => Nat.le_trans h1.size (hfb k hk).1
  have Hlt : Hid (∀ k ∈ fb, k < w2.heap.size) := fun k hk => (hfb k hk).2
  have Hw : Hid (w.heap.size ≤ w2.heap.size) := hbel1.size
  clear hfb hbel0 h1
  go_wp2_with fail
  obtain ⟨B, hB⟩ : ∃ B, B = w2.heap.size := ⟨_, rfl⟩
  rw [← hB] at Hlt Hw
  have HB : Hid (B ≤ w2.heap.size) := Nat.le_of_eq hB
  clear hB
  go_loopw [8, 9] (fun v i wr => FirstRel n L fb w B v i wr) (fun _ i _ => 400 - (intOf i).toNat)
  case atStart => exact ⟨0, first n, by omega, rfl, Reach.first n hn1 hn4, hL, hbel1, .inl ⟨rfl, rfl⟩, HB.out⟩
  case round =>
    obtain ⟨k, s, hk, rfl, hf, hb, hbel, hmid, hsz⟩ := hrel
    have Hsz := Lib.hid hsz
    clear hL hbel1 HB hsz
    by_cases hlt : k < len0 ∧ k < 400
    · obtain ⟨hk1, hk2⟩ := hlt
      obtain ⟨b, off, p, rfl, hb0, hc, -, -⟩ := hat.out k hk1
      have hc' : wr.cell? ⟨b, off + k, none⟩ = some (.int .i64 p) := by
        rw [hbel.cell (p := ⟨b, off + k, none⟩) hb0]; exact hc
      clear hat hc hb0
      go_wp2_with fail
      refine (at_of (hn := hn4) (p := p) (k := line n s p) hb rfl).mono ?_
      rintro e w' ⟨rfl, rfl⟩
      go_wp2_with fail
      refine (step_any p hb hf (by omega)).mono ?_
      rintro e w' ⟨rfl, hb', ho⟩
      have hr := hf.step p
      have hbel' := hbel.trans (ho.bel Hfb.out hbel.size)
      have hmid' : Mid w' B u8 (ints (row s)) := hmid.same ho.size_le (fun g hg hlt => ho.blo hlt (fun hm => by have := Hlt.out g hm; omega))
      have Hsz' : Hid (B ≤ w'.heap.size) := Nat.le_trans Hsz.out ho.size_le
      have Hst := Lib.hid ho
      clear ho hb hbel hmid hc'
      by_cases hp : 0 ≤ p ∧ p < n
      · obtain ⟨m, rfl⟩ := Int.eq_ofNat_of_zero_le hp.1
        have hm : m < n := by omega
        have et : told n (m : Int) = .nilIface := told_nil hm
        have el : line n s (m : Int) = s.ln m := line_nat s hm
        have el' : line n (step n s (m : Int)) (m : Int) = (stepN n s m).ln m := by rw [line_nat _ hm, step_nat s hm]
        have hrow := row_rule hf hm
        have hlen := row_len hf
        rw [step_nat s hm] at hb' hr el'
        rw [et, el]
        clear et el hp
        generalize stepN n s m = s' at hb' hr el' hrow
        go_wp2_with fail
        refine (at_of (hn := hn4) (p := (m : Int)) (k := s'.ln m) hb' el').mono ?_
        rintro e w'' ⟨rfl, rfl⟩
        clear el'
        rcases hrow with ⟨g1, g2, g3⟩ | ⟨g1, g2, g4, g3⟩ | ⟨g1, g2, g3⟩ | ⟨g1, g2, g3, g4⟩
        · have t1 : (s.ln m == 2) = true := by simp [g1]
          have t2 : (s'.ln m == 6) = false := by simp [g2]
          have t3 : (s.ln m != 6) = true := by simp [g1]
          have G3 := Lib.hid g3
          clear g1 g2 g3
          go_wp2_with (at_builtin; refine wpList_append_mid rfl _ _ rfl B _ (ints (row s)) rfl (hmid'.same (by simp) (fun g _ hg => Below.heap_alloc _ _ _ hg)) ⟨w'.heap.size, 0, none⟩ (m : Int) 1 rfl ?c1 ?c2 ?c3 ?_)
          case c1 => simp [(Blk.new w' #[.int .i64 m] 3).cell 0]
          case c2 => simp [ints]; omega
          case c3 => have := Hsz'.out; simp; omega
          intro v' w3 hmid3 hbel3
          have hbelA : Below B w' w3 := ((Below.refl _ _).alloc Hsz'.out _).trans hbel3
          have hb3 := hb'.keep (w' := w3) (fun x hx => hbelA.block x (Hlt.out x hx))
          have hbel4 := hbel'.trans (hbelA.mono Hw.out)
          have Hsz3 : Hid (B ≤ w3.heap.size) := Nat.le_trans Hsz'.out hbelA.size
          clear hb' hbel' hmid' hbel3 hbelA
          go_wp2_with fail
          go_roundw
          case rel => exact ⟨k + 1, s', by omega, by go_num, hr, hb3, hbel4, by rw [G3.out]; simpa [ints] using hmid3, Hsz3.out⟩
          case measure => simp [intOf]; omega
        · have t1 : (s.ln m == 2) = false := by simp [g1]
          have t2 : (s'.ln m == 6) = true := by simp [g4]
          have t3 : (s.ln m != 6) = true := by simp [g2]
          rw [g3] at hmid'
          have hlen' : ints (m :: row s') = (m : Int) :: ints (row s') := rfl
          rw [hlen'] at hmid'
          clear g1 g2 g4 g3 hlen' hlen
          rcases hmid' with ⟨-, hx⟩ | ⟨g, o, cap, rfl, h2, h3, h4, h5, h6⟩
          · simp at hx
          have e0 := h6 0 _ rfl
          have elen : (((m : Int) :: ints (row s')).length) = (ints (row s')).length + 1 := rfl
          rw [Nat.add_zero] at e0
          rw [elen] at h4 ⊢
          have tl : ((((ints (row s')).length + 1 : Nat) : Int) == 0) = false := by simp; omega
          have hl0 : 0 < (ints (row s')).length + 1 := by omega
          have hnew : ∀ cap2 o2, (cap = 1 → o2 = o ∧ cap2 = 0) → (cap ≠ 1 → o2 = o + 1 ∧ cap2 = cap - 1) → Mid w' B (.slice (some ⟨g, o2, none⟩) (ints (row s')).length cap2) (ints (row s')) := by
            intro cap2 o2 c1 c2
            by_cases hc1 : cap = 1
            · obtain ⟨rfl, rfl⟩ := c1 hc1
              have : (ints (row s')).length = 0 := by omega
              refine .inr ⟨g, o2, 0, rfl, h2, h3, by omega, fun j hj => by omega, fun j u hu => ?_⟩
              have := (List.getElem?_eq_some_iff.1 hu).1
              omega
            · obtain ⟨rfl, rfl⟩ := c2 hc1
              refine .inr ⟨g, o + 1, cap - 1, rfl, h2, h3, by omega, fun j hj => ?_, fun j u hu => ?_⟩
              · have := h5 (j + 1) (by omega)
                rw [show o + 1 + j = o + (j + 1) from by omega]; exact this
              · rw [show o + 1 + j = o + (j + 1) from by omega]; exact h6 (j + 1) u (by simpa using hu)
          have Hnew := Lib.hid hnew
          clear hnew h5 h6 elen
          by_cases hc1 : cap = 1
          · subst hc1
            have hl1 : (ints (row s')).length = 0 := by omega
            go_wp2_with fail
            go_roundw
            case rel => exact ⟨k + 1, s', by omega, by go_num, hr, hb', hbel', (by have hx := Hnew.out 0 o (fun _ => ⟨rfl, rfl⟩) (fun x => absurd rfl x); rw [hl1] at hx; exact hx), Hsz'.out⟩
            case measure => simp [intOf]; omega
          · go_wp2_with fail
            go_roundw
            case rel => exact ⟨k + 1, s', by omega, by go_num, hr, hb', hbel', Hnew.out _ _ (fun x => absurd x hc1) (fun _ => ⟨rfl, rfl⟩), Hsz'.out⟩
            case measure => simp [intOf]; omega
        · have t1 : (s.ln m == 2) = false := by simp [g1]
          have tt : ((s.ln m != 6) = false) ∨ ((s.ln m != 6) = true ∧ (s'.ln m == 6) = false) := by
            by_cases hx : s.ln m = 6
            · left; simp [hx]
            · right; rcases g2 with g2 | g2
              · exact absurd g2 hx
              · simp [hx, g2]
          have G3 := Lib.hid g3
          clear g1 g2 g3
          rcases tt with t3 | ⟨t3, t2⟩
          all_goals
            go_wp2_with fail
            go_roundw
            case rel => exact ⟨k + 1, s', by omega, by go_num, hr, hb', hbel', by rw [G3.out]; exact hmid', Hsz'.out⟩
            case measure => simp [intOf]; omega
        · have t1 : (s.ln m == 2) = true := by simp [g1]
          have t2 : (s'.ln m == 6) = true := by simp [g2]
          have t3 : (s.ln m != 6) = true := by simp [g1]
          rw [g3] at hmid'
          have G4 := Lib.hid g4
          clear g1 g2 g3 g4
          go_wp2_with (at_builtin; refine wpList_append_mid rfl _ _ rfl B _ (ints []) rfl (hmid'.same (by simp) (fun g _ hg => Below.heap_alloc _ _ _ hg)) ⟨w'.heap.size, 0, none⟩ (m : Int) 1 rfl ?d1 ?d2 ?d3 ?_)
          case d1 => simp [(Blk.new w' #[.int .i64 m] 3).cell 0]
          case d2 => simp [ints]
          case d3 => have := Hsz'.out; simp; omega
          intro v' w3 hmid3 hbel3
          have hbelA : Below B w' w3 := ((Below.refl _ _).alloc Hsz'.out _).trans hbel3
          have hb3 := hb'.keep (w' := w3) (fun x hx => hbelA.block x (Hlt.out x hx))
          have hbel4 := hbel'.trans (hbelA.mono Hw.out)
          have Hsz3 : Hid (B ≤ w3.heap.size) := Nat.le_trans Hsz'.out hbelA.size
          clear hb' hbel' hmid' hbel3 hbelA
          have hm1 : Mid w3 B v' [(m : Int)] := by simpa [ints] using hmid3
          clear hmid3
          rcases hm1 with ⟨-, hx⟩ | ⟨g, o, cap, rfl, h2, h3, h4, h5, h6⟩
          · simp at hx
          have e0 := h6 0 _ rfl
          have elen : ([(m : Int)].length) = 1 := rfl
          rw [Nat.add_zero] at e0
          rw [elen] at h4 ⊢
          have H5 := Lib.hid h5
          clear h5 h6 elen
          by_cases hc1 : cap = 1
          · subst hc1
            go_wp2_with fail
            go_roundw
            case rel => exact ⟨k + 1, s', by omega, by go_num, hr, hb3, hbel4, by rw [G4.out]; exact .inr ⟨g, o, 0, rfl, h2, h3, by simp [ints], fun j hj => by omega, fun j u hu => by simp [ints] at hu⟩, Hsz3.out⟩
            case measure => simp [intOf]; omega
          · go_wp2_with fail
            go_roundw
            case rel => exact ⟨k + 1, s', by omega, by go_num, hr, hb3, hbel4, by rw [G4.out]; exact .inr ⟨g, o + 1, cap - 1, rfl, h2, h3, by simp [ints], fun j hj => (by have := H5.out (j + 1) (by omega); rw [show o + 1 + j = o + (j + 1) from by omega]; exact this), fun j u hu => by simp [ints] at hu⟩, Hsz3.out⟩
            case measure => simp [intOf]; omega
      · have et : told n p = .iface 41 (.int .i64 1) := by unfold told; rw [if_neg hp]
        have es : step n s p = s := by unfold step; rw [if_neg hp]
        rw [es] at hb' hr
        rw [et]
        clear et es
        go_wp2_with fail
        refine (in2_no (by omega)).mono ?_
        rintro e w'' ⟨rfl, rfl⟩
        clear hp
        go_wp2_with fail
        go_roundw
        case rel => exact ⟨k + 1, s, by omega, by go_num, hr, hb', hbel', hmid', Hsz'.out⟩
        case measure => simp [intOf]; omega
    · clear hat
      go_wp2_with fail
      all_goals
        go_ret
        exact ⟨rfl, hbel⟩

set_option maxHeartbeats 1000000 in
set_option maxRecDepth 100000 in
theorem first_bad (n : Int) (h : n < 1 ∨ 4 < n) (v : Value) (w : World) :
    Calls Try.prog 5 #[.int .i64 n, v] w fun e w' => e = .returned (.bool true) ∧ Below w.heap.size w w' := by
  by_cases h1 : n < 1
  · clear h
    have H := Lib.hid h1
    go_enter Try.func5, Try.ntmps5
    go_wp2_with fail
    refine (fact_any _).mono ?_
    rintro e w1 ⟨rfl, hb⟩
    go_wp2_with fail
    refine (new_no _ (.inl H.out) _).mono ?_
    rintro e w2 ⟨rfl, rfl⟩
    go_wp2_with fail
    go_ret
    exact ⟨rfl, hb⟩
  · have h2 : 4 < n := by omega
    have h3 : 1 ≤ n := by omega
    have H := Lib.hid h2
    clear h h1
    go_enter Try.func5, Try.ntmps5
    go_wp2_with fail
    refine (fact_any _).mono ?_
    rintro e w1 ⟨rfl, hb⟩
    go_wp2_with fail
    refine (new_no _ (.inr H.out) _).mono ?_
    rintro e w2 ⟨rfl, rfl⟩
    go_wp2_with fail
    go_ret
    exact ⟨rfl, hb⟩

theorem first_any (n : Int) (a0 : Option Addr) (len0 cap0 : Nat) (z0 : List Int) (w : World) (w0 : IsRow .i64 w a0 len0 cap0 z0) :
    Calls Try.prog 5 #[.int .i64 n, .slice a0 len0 cap0] w fun e w' => e = .returned (.bool true) ∧ Below w.heap.size w w' := by
  by_cases h : 1 ≤ n ∧ n ≤ 4
  · obtain ⟨m, rfl⟩ := Int.eq_ofNat_of_zero_le (show 0 ≤ n by omega)
    exact first_walk m (by omega) (by omega) a0 len0 cap0 z0 w w0
  · exact first_bad n (by omega) _ w
end Go.Proofs.Ytndpimcidnakbaa.Mcs
