import Derived.Test.YtgolkmddncanhaaBakeryFact
import Derived.Test.YtgolkmddncanhaaBools
import Derived.Test.YtgolkmddncanhaaIn2
import Derived.IntWalk
namespace Go.Proofs.Ytgolkmddncanhaa.Bakery
open Go.RowKit
set_option linter.unusedVariables false

/-- The square of truths in block B. -/
def Sq (w : World) (B n : Nat) (f : Nat → Nat → Bool) : Prop :=
  ∀ a b, a < n → b < n → w.cell? ⟨B, a * n + b, none⟩ = some (.bool (f a b)) ∧ w.frozen? ⟨B, a * n + b, none⟩ = false
theorem sq_inj {n a b c d : Nat} (hb : b < n) (hd : d < n) (e : a * n + b = c * n + d) : a = c ∧ b = d := by
  have h1 : a = c := by
    have x1 : (a * n + b) / n = a := by rw [Nat.mul_comm, Nat.mul_add_div (by omega), Nat.div_eq_of_lt hb]; rfl
    have x2 : (c * n + d) / n = c := by rw [Nat.mul_comm, Nat.mul_add_div (by omega), Nat.div_eq_of_lt hd]; rfl
    rw [← x1, e, x2]
  subst h1
  exact ⟨rfl, by omega⟩
theorem Sq.keep {w w' : World} {B n : Nat} {f : Nat → Nat → Bool} (h : Sq w B n f) (hk : w'.heap[B]? = w.heap[B]?) : Sq w' B n f := by
  intro a b ha hb
  rw [World.cell?_of_block (w := w) hk, World.frozen?_of_block (w := w) hk]
  exact h a b ha hb
theorem Sq.set {w : World} {B n : Nat} {f g : Nat → Nat → Bool} (h : Sq w B n f) {a b : Nat} (ha : a < n) (hb : b < n) (v : Bool) (hv : g a b = v) (hg : ∀ c d, c < n → d < n → ¬ (c = a ∧ d = b) → g c d = f c d) :
    Sq (w.setCell ⟨B, a * n + b, none⟩ (.bool v)) B n g := by
  intro c d hc hd
  refine ⟨?_, by rw [World.frozen?_setCell]; exact (h c d hc hd).2⟩
  by_cases e : c = a ∧ d = b
  · obtain ⟨rfl, rfl⟩ := e
    rw [hv]; exact World.cell?_setCell_same w _ _ (h c d hc hd).1
  · rw [hg c d hc hd e, World.cell?_setCell_other]
    · exact (h c d hc hd).1
    · intro x; exact e (sq_inj hd hb (by simpa using (congrArg Addr.off x).symm))
theorem Sq.first {w : World} {B n M : Nat} {T : TypeId} (h : Blk w B (falses M) T) (hM : M = n * n) : Sq w B n (fun _ _ => false) := by
  intro a b ha hb
  have hlt : a * n + b < M := by
    have : (a + 1) * n ≤ n * n := Nat.mul_le_mul_right n (by omega)
    rw [Nat.succ_mul] at this; omega
  refine ⟨?_, h.free _⟩
  rw [h.cell]; simp [falses, hlt]
theorem Sq.eq {w : World} {B n : Nat} {f g : Nat → Nat → Bool} (h : Sq w B n f) (e : ∀ a b, a < n → b < n → f a b = g a b) : Sq w B n g := fun a b ha hb => by rw [← e a b ha hb]; exact h a b ha hb

def FirstRel (n L : Nat) (fb : List Nat) (w : World) (B : Nat) (i : Value) (wr : World) : Prop :=
  ∃ (k : Nat) (s : St) (ah : Nat → Nat → Bool), k ≤ 400 ∧ i = .int .i64 k ∧ Reach n k s ∧ FI n s ah ∧ Rep wr n L fb s ∧ Below w.heap.size w wr ∧ Sq wr B n ah ∧ (∀ k ∈ fb, k < wr.heap.size) ∧ B < wr.heap.size
def FirstIn (n L : Nat) (fb : List Nat) (w : World) (B : Nat) (s : St) (ah : Nat → Nat → Bool) (wr : World) : Prop :=
  Rep wr n L fb s ∧ Below w.heap.size w wr ∧ Sq wr B n ah ∧ (∀ k ∈ fb, k < wr.heap.size) ∧ B < wr.heap.size
theorem FirstIn.put {n L : Nat} {fb : List Nat} {w : World} {B : Nat} {s : St} {f g : Nat → Nat → Bool} {wr : World} (h : FirstIn n L fb w B s f wr) (HB : B ∉ fb) (HBw : w.heap.size ≤ B) {a b : Nat} (ha : a < n) (hb : b < n) (v : Bool) (hv : g a b = v) (hg : ∀ c d, c < n → d < n → ¬ (c = a ∧ d = b) → g c d = f c d) {j : Nat} (hj : j = a * n + b) :
    FirstIn n L fb w B s g (wr.setCell ⟨B, j, none⟩ (.bool v)) := by
  subst hj
  exact ⟨h.1.keep (fun x hx => Below.heap_setCell _ _ _ _ (fun e => HB (by subst e; exact hx))), h.2.1.setCell (p := ⟨B, a * n + b, none⟩) HBw _, h.2.2.1.set ha hb v hv hg, fun x hx => by simpa using h.2.2.2.1 x hx, by simpa using h.2.2.2.2⟩
/-- Up to j. -/
def begTo (s : St) (p j : Nat) (ah : Nat → Nat → Bool) : Nat → Nat → Bool := fun a b => if a = p ∧ b < j then decide (b ≠ p) && decide (4 ≤ s.ln b) && decide (s.ln b ≤ 6) else ah a b
def comTo (p j : Nat) (ah : Nat → Nat → Bool) : Nat → Nat → Bool := fun a b => if b = p ∧ a < j then false else ah a b
theorem begTo_zero (s : St) (p : Nat) (ah : Nat → Nat → Bool) : begTo s p 0 ah = ah := by funext a b; simp [begTo]
theorem comTo_zero (p : Nat) (ah : Nat → Nat → Bool) : comTo p 0 ah = ah := by funext a b; simp [comTo]
theorem begTo_next (s : St) (p j : Nat) (ah : Nat → Nat → Bool) : ∀ c d, ¬ (c = p ∧ d = j) → begTo s p (j + 1) ah c d = begTo s p j ah c d := by
  intro c d h; unfold begTo
  by_cases e : c = p ∧ d < j
  · rw [if_pos e, if_pos ⟨e.1, by omega⟩]
  · rw [if_neg e, if_neg (fun x => by omega)]
theorem begTo_at (s : St) (p j : Nat) (ah : Nat → Nat → Bool) : begTo s p (j + 1) ah p j = (decide (j ≠ p) && decide (4 ≤ s.ln j) && decide (s.ln j ≤ 6)) := by
  unfold begTo; rw [if_pos ⟨rfl, by omega⟩]
theorem begTo_all (s : St) (p n : Nat) (ah : Nat → Nat → Bool) : ∀ a b, a < n → b < n → begTo s p n ah a b = begins s p ah a b := by
  intro a b ha hb; unfold begTo begins
  by_cases e : a = p
  · rw [if_pos ⟨e, hb⟩, if_pos e]
  · rw [if_neg (fun x => e x.1), if_neg e]
theorem comTo_next (p j : Nat) (ah : Nat → Nat → Bool) : ∀ c d, ¬ (c = j ∧ d = p) → comTo p (j + 1) ah c d = comTo p j ah c d := by
  intro c d h; unfold comTo
  by_cases e : d = p ∧ c < j
  · rw [if_pos e, if_pos ⟨e.1, by omega⟩]
  · rw [if_neg e, if_neg (fun x => by omega)]
theorem comTo_at (p j : Nat) (ah : Nat → Nat → Bool) : comTo p (j + 1) ah j p = false := by
  unfold comTo; rw [if_pos ⟨rfl, by omega⟩]
theorem comTo_all (p n : Nat) (ah : Nat → Nat → Bool) : ∀ a b, a < n → b < n → comTo p n ah a b = comes p ah a b := by
  intro a b ha hb; unfold comTo comes
  by_cases e : b = p
  · rw [if_pos ⟨e, ha⟩, if_pos e]
  · rw [if_neg (fun x => e x.1), if_neg e]
theorem comTo_row (p j : Nat) (ah : Nat → Nat → Bool) {q : Nat} (h : ah p q = false) : comTo p j ah p q = false := by
  unfold comTo; split
  · rfl
  · exact h

set_option maxHeartbeats 4000000 in
set_option maxRecDepth 100000 in
theorem first_walk (n : Nat) (hn1 : 1 ≤ n) (hn4 : n ≤ 4) (a0 : Option Addr) (len0 cap0 : Nat) (z0 : List Int) (w : World) (w0 : IsRow .i64 w a0 len0 cap0 z0) :
    Calls Try.prog 5 #[.int .i64 n, .slice a0 len0 cap0] w fun e w' => e = .returned (.bool true) ∧ Below w.heap.size w w' := by
  have hle := w0.le
  have hat := Lib.hid (w0.at)
  clear w0
  unfold maxLen at hle
  have hnn : 0 ≤ (n : Int) := by omega
  have hnn4 : (n : Int) ≤ 4 := by omega
  obtain ⟨M, hM⟩ : ∃ M : Nat, M = n * n := ⟨_, rfl⟩
  have hM16 : M ≤ 16 := by subst hM; exact Nat.mul_le_mul hn4 hn4
  have hw5 : (n : Int) * (n : Int) = (M : Int) := by rw [hM]; simp
  have HM := Lib.hid hM
  clear hM
  go_enter Try.func5, Try.ntmps5
  go_wp2_with fail
  refine (fact_any _).mono ?_
  rintro e w1 ⟨rfl, h1⟩
  go_wp2_with fail
  refine (new_any n hn1 hn4 _).mono ?_
  rintro e w2 ⟨L, fb, rfl, hL, hbel0, hfb⟩
  have hbel1 := h1.trans (hbel0.mono h1.size)
  have Hfb : Hid (∀ k ∈ fb, w.heap.size ≤ k) := fun k hk => Nat.le_trans h1.size (hfb k hk).1
  have HB : Hid (w2.heap.size ∉ fb) := fun hm => Nat.lt_irrefl _ (hfb _ hm).2
  have HBw : Hid (w.heap.size ≤ w2.heap.size) := hbel1.size
  have hL' := hL.keep (w' := w2.alloc (.cells (falses M) 4)) (fun k hk => Below.heap_alloc _ _ _ (hfb k hk).2)
  have hbel' := hbel1.alloc hbel1.size (.cells (falses M) 4)
  have hB : Sq (w2.alloc (.cells (falses M) 4)) w2.heap.size n (fun _ _ => false) := Sq.first (Blk.new _ _ _) HM.out
  have Hlt : Hid (∀ k ∈ fb, k < (w2.alloc (.cells (falses M) 4)).heap.size) := fun k hk => by have := (hfb k hk).2; simp; omega
  have HBl : Hid (w2.heap.size < (w2.alloc (.cells (falses M) 4)).heap.size) := by show _ < _; simp
  have hmk : ∀ w : World, (Instr.makeSlice 32 (.int .i64 (M : Int)) (.int .i64 (M : Int))).run Try.prog w = .ok (.slice (some ⟨w.heap.size, 0, none⟩) M M) (w.alloc (.cells (falses M) 4)) := fun w => make_bools M (by omega) w
  clear hfb hbel0 h1 hL hbel1
  go_wp2_with fail
  generalize w2.alloc (.cells (falses M) 4) = wq at hB hL' hbel' Hlt HBl ⊢
  generalize w2.heap.size = B at hB HB HBw HBl ⊢
  clear hw5 hmk
  go_loopw [9] (fun i wr => FirstRel n L fb w B i wr) (fun i _ => 400 - (intOf i).toNat)
  case atStart => exact ⟨0, first n, _, by omega, rfl, Reach.first n hn1 hn4, FI.first n, hL', hbel', hB, Hlt.out, HBl.out⟩
  case round =>
    obtain ⟨k, s, ah, hk, rfl, hf, hfi, hb, hbel, hsq, hsz, hbl⟩ := hrel
    have Hsz := Lib.hid hsz
    have Hbl := Lib.hid hbl
    clear hL' hbel' hB Hlt HBl hsz hbl
    by_cases hlt : k < len0 ∧ k < 400
    · obtain ⟨hk1, hk2⟩ := hlt
      obtain ⟨b, off, p, rfl, hb0, hc, -, -⟩ := hat.out k hk1
      have hc' : wr.cell? ⟨b, off + k, none⟩ = some (.int .i64 p) := by
        rw [hbel.cell (p := ⟨b, off + k, none⟩) hb0]; exact hc
      clear hat hc hb0
      go_wp2_with fail
      by_cases hp : 0 ≤ p ∧ p < n
      · obtain ⟨m, rfl⟩ := Int.eq_ofNat_of_zero_le hp.1
        have hm : m < n := by omega
        refine (in2_yes (by omega) (by omega)).mono ?_
        rintro e w'' ⟨rfl, rfl⟩
        have el : line n s (m : Int) = s.ln m := line_nat s hm
        clear hp hc'
        go_wp2_with fail
        refine (at_of (hn := hn4) (p := m) (k := s.ln m) hb el).mono ?_
        rintro e w' ⟨rfl, rfl⟩
        clear el
        go_wp2_with fail
        refine (step_any m hb hf (by omega)).mono ?_
        rintro e w' ⟨rfl, hb', ho⟩
        rw [told_nil hm]
        rw [step_nat s hm] at hb'
        have hr := hf.step (m : Int)
        rw [step_nat s hm] at hr
        have hbel' := hbel.trans (ho.bel Hfb.out hbel.size)
        have Hsz' : Hid (∀ k ∈ fb, k < w'.heap.size) := fun k hk => Nat.lt_of_lt_of_le (Hsz.out k hk) ho.size_le
        have Hbl' : Hid (B < w'.heap.size) := Nat.lt_of_lt_of_le Hbl.out ho.size_le
        have hsq' : Sq w' B n ah := hsq.keep (ho.block B Hbl.out HB.out)
        have Hfi2 := Lib.hid (FI.step hf hfi hm)
        have Hcom := Lib.hid (fun (q : Nat) (hq : q < n) => FI.comes hf hfi hm hq)
        have hin0 : FirstIn n L fb w B (stepN n s m) ah w' := ⟨hb', hbel', hsq', Hsz'.out, Hbl'.out⟩
        clear ho hb hbel hsq hsq' hbel' hb' Hsz Hsz' Hbl Hbl' hfi
        go_wp2_with fail
        refine (at_of (hn := hn4) (p := m) (k := (stepN n s m).ln m) hin0.1 (line_nat _ hm)).mono ?_
        rintro e w'' ⟨rfl, rfl⟩
        have hlm := hf.fine hm
        have Hline : Hid (∀ q, q < n → q ≠ m → line n (stepN n s m) (q : Int) = s.ln q) := fun q hq hne => by rw [line_nat _ hq]; exact (moves (n := n) hm hlm).1.ln q hne
        obtain ⟨P, hP⟩ : ∃ P : Nat, P = m * n := ⟨_, rfl⟩
        have hPM : P + n ≤ M := by
          have : (m + 1) * n ≤ n * n := Nat.mul_le_mul_right n (by omega)
          rw [Nat.succ_mul] at this; have := HM.out; omega
        have hPw : (m : Int) * (n : Int) = (P : Int) := by rw [hP]; simp
        have HP := Lib.hid hP
        clear hf hP
        by_cases h1 : s.ln m = 1
        · have Hfi3 : Hid (FI n (stepN n s m) (begins s m ah)) := by
            have := Hfi2.out; unfold ahead at this; rw [if_pos h1] at this; exact this
          rw [h1]
          clear Hfi2 Hcom h1 hlm
          generalize stepN n s m = s' at hr Hfi3 hin0 Hline ⊢
          generalize s'.ln m = now
          go_wp2_with fail
          go_loopw [13] (fun qv wr => ∃ q : Nat, q ≤ n ∧ qv = .int .i64 q ∧ FirstIn n L fb w B s' (begTo s m q ah) wr) (fun qv _ => n - (intOf qv).toNat)
          case atStart => exact ⟨0, by omega, rfl, by rw [begTo_zero]; exact hin0⟩
          case round =>
            obtain ⟨q, hq, rfl, hin⟩ := hrel
            clear hin0
            by_cases hq2 : q < n
            · have hsqc := hin.2.2.1 m q hm hq2
              rw [← HP.out] at hsqc
              have hcell := hsqc.1
              have hfree := hsqc.2
              have hput : ∀ v, begTo s m (q + 1) ah m q = v → FirstIn n L fb w B s' (begTo s m (q + 1) ah) (wr.setCell ⟨B, P + q, none⟩ (.bool v)) := fun v hv =>
                hin.put HB.out HBw.out hm hq2 v hv (fun c d _ _ h => begTo_next s m q ah c d h) (by rw [HP.out])
              rw [begTo_at] at hput
              have Hput := Lib.hid hput
              clear hsqc hput
              by_cases hqm : q = m
              · have t1 : ((q : Int) != (m : Int)) = false := by rw [hqm]; simp
                have t2 : (q != m) = false := by rw [hqm]; simp
                have hnew := Hput.out false (by simp [hqm])
                clear hqm
                go_wp2_with fail
                go_roundw
                case rel => (first | exact ⟨q + 1, by omega, by go_num, hnew⟩ | ((repeat apply Exists.intro); exact ⟨⟨q + 1, by omega, by go_num, hnew⟩, rfl⟩))
                case measure => simp [intOf]; omega
              · have t1 : ((q : Int) != (m : Int)) = true := by simp; omega
                have t2 : (q != m) = true := by simp; omega
                have hlq := Hline.out q hq2 hqm
                have hnew := Hput.out (decide (4 ≤ s.ln q) && decide (s.ln q ≤ 6)) (by simp [hqm])
                go_wp2_with fail
                refine (at_of (hn := hn4) (p := q) (k := s.ln q) hin.1 hlq).mono ?_
                rintro e w'' ⟨rfl, rfl⟩
                generalize s.ln q = lq at hnew hlq ⊢
                clear hlq hqm
                by_cases g : 4 ≤ lq ∧ lq ≤ 6
                · rw [show (decide (4 ≤ lq) && decide (lq ≤ 6)) = true from by simp; omega] at hnew
                  go_wp2_with fail
                  refine (in2_yes (by omega) (by omega)).mono ?_
                  rintro e w'' ⟨rfl, rfl⟩
                  go_wp2_with fail
                  go_roundw
                  case rel => (first | exact ⟨q + 1, by omega, by go_num, hnew⟩ | ((repeat apply Exists.intro); exact ⟨⟨q + 1, by omega, by go_num, hnew⟩, rfl⟩))
                  case measure => simp [intOf]; omega
                · rw [show (decide (4 ≤ lq) && decide (lq ≤ 6)) = false from by simp; omega] at hnew
                  go_wp2_with fail
                  refine (in2_no (by omega)).mono ?_
                  rintro e w'' ⟨rfl, rfl⟩
                  go_wp2_with fail
                  go_roundw
                  case rel => (first | exact ⟨q + 1, by omega, by go_num, hnew⟩ | ((repeat apply Exists.intro); exact ⟨⟨q + 1, by omega, by go_num, hnew⟩, rfl⟩))
                  case measure => simp [intOf]; omega
            · obtain rfl : q = n := by omega
              have hsqn := hin.2.2.1.eq (begTo_all s m q ah)
              obtain ⟨g1, g2, -, g4, g5⟩ := hin
              go_wp2_with fail
              go_roundw
              case rel => (first | exact ⟨k + 1, s', _, by omega, by go_num, hr, Hfi3.out, g1, g2, hsqn, g4, g5⟩ | ((repeat apply Exists.intro); exact ⟨⟨k + 1, s', _, by omega, by go_num, hr, Hfi3.out, g1, g2, hsqn, g4, g5⟩, rfl⟩))
              case measure => simp [intOf]; omega
        · by_cases h67 : s.ln m = 6 ∧ (stepN n s m).ln m = 7
          · have Hfi3 : Hid (FI n (stepN n s m) (comes m ah)) := by
              have := Hfi2.out; unfold ahead at this; rw [if_neg h1, if_pos h67] at this; exact this
            have Hno : Hid (∀ q, q < n → ah m q = false) := fun q hq => Hcom.out q hq h67.1 h67.2
            rw [h67.1, h67.2]
            clear Hfi2 Hcom h1 hlm h67
            generalize stepN n s m = s' at hr Hfi3 hin0 Hline ⊢
            go_wp2_with fail
            go_loopw [13] (fun qv wr => ∃ q : Nat, q ≤ n ∧ qv = .int .i64 q ∧ FirstIn n L fb w B s' (comTo m q ah) wr) (fun qv _ => n - (intOf qv).toNat)
            case atStart => exact ⟨0, by omega, rfl, by rw [comTo_zero]; exact hin0⟩
            case round =>
              obtain ⟨q, hq, rfl, hin⟩ := hrel
              clear hin0
              by_cases hq2 : q < n
              · have hsqc := hin.2.2.1 m q hm hq2
                rw [← HP.out, comTo_row m q ah (Hno.out q hq2)] at hsqc
                have hcell := hsqc.1
                obtain ⟨Q, hQ⟩ : ∃ Q : Nat, Q = q * n := ⟨_, rfl⟩
                have hQM : Q + n ≤ M := by
                  have : (q + 1) * n ≤ n * n := Nat.mul_le_mul_right n (by omega)
                  rw [Nat.succ_mul] at this; have := HM.out; omega
                have hQw : (q : Int) * (n : Int) = (Q : Int) := by rw [hQ]; simp
                have hsqd := hin.2.2.1 q m hq2 hm
                rw [← hQ] at hsqd
                have hcell2 := hsqd.1
                have hfree2 := hsqd.2
                have hnew : FirstIn n L fb w B s' (comTo m (q + 1) ah) (wr.setCell ⟨B, Q + m, none⟩ (.bool false)) :=
                  hin.put HB.out HBw.out hq2 hm false (comTo_at m q ah) (fun c d _ _ h => comTo_next m q ah c d h) (by rw [hQ])
                clear hsqc hsqd hQ
                go_wp2_with fail
                go_roundw
                case rel => (first | exact ⟨q + 1, by omega, by go_num, hnew⟩ | ((repeat apply Exists.intro); exact ⟨⟨q + 1, by omega, by go_num, hnew⟩, rfl⟩))
                case measure => simp [intOf]; omega
              · obtain rfl : q = n := by omega
                have hsqn := hin.2.2.1.eq (comTo_all m q ah)
                obtain ⟨g1, g2, -, g4, g5⟩ := hin
                go_wp2_with fail
                go_roundw
                case rel => (first | exact ⟨k + 1, s', _, by omega, by go_num, hr, Hfi3.out, g1, g2, hsqn, g4, g5⟩ | ((repeat apply Exists.intro); exact ⟨⟨k + 1, s', _, by omega, by go_num, hr, Hfi3.out, g1, g2, hsqn, g4, g5⟩, rfl⟩))
                case measure => simp [intOf]; omega
          · have Hfi3 : Hid (FI n (stepN n s m) ah) := by
              have := Hfi2.out; unfold ahead at this; rw [if_neg h1, if_neg h67] at this; exact this
            have t1 : (s.ln m == 1) = false := by simp [h1]
            clear Hfi2 Hcom h1 hlm hPw
            generalize stepN n s m = s' at hr Hfi3 hin0 Hline h67 ⊢
            generalize s.ln m = was at t1 h67 ⊢
            generalize s'.ln m = now at h67 ⊢
            go_wp2_with fail
            go_loopw [13] (fun qv wr => ∃ q : Nat, q ≤ n ∧ qv = .int .i64 q ∧ FirstIn n L fb w B s' ah wr) (fun qv _ => n - (intOf qv).toNat)
            case atStart => exact ⟨0, by omega, rfl, hin0⟩
            case round =>
              obtain ⟨q, hq, rfl, hin⟩ := hrel
              clear hin0
              by_cases hq2 : q < n
              · by_cases g6 : was = 6
                · have t2 : (was == 6) = true := by simp [g6]
                  have t3 : (now == 7) = false := by simp; intro x; exact h67 ⟨g6, x⟩
                  clear h67 g6
                  go_wp2_with fail
                  go_roundw
                  case rel => (first | exact ⟨q + 1, by omega, by go_num, hin⟩ | ((repeat apply Exists.intro); exact ⟨⟨q + 1, by omega, by go_num, hin⟩, rfl⟩))
                  case measure => simp [intOf]; omega
                · have t2 : (was == 6) = false := by simp [g6]
                  clear h67 g6
                  go_wp2_with fail
                  go_roundw
                  case rel => (first | exact ⟨q + 1, by omega, by go_num, hin⟩ | ((repeat apply Exists.intro); exact ⟨⟨q + 1, by omega, by go_num, hin⟩, rfl⟩))
                  case measure => simp [intOf]; omega
              · obtain rfl : q = n := by omega
                obtain ⟨g1, g2, g3, g4, g5⟩ := hin
                clear h67
                go_wp2_with fail
                go_roundw
                case rel => (first | exact ⟨k + 1, s', _, by omega, by go_num, hr, Hfi3.out, g1, g2, g3, g4, g5⟩ | ((repeat apply Exists.intro); exact ⟨⟨k + 1, s', _, by omega, by go_num, hr, Hfi3.out, g1, g2, g3, g4, g5⟩, rfl⟩))
                case measure => simp [intOf]; omega
      · refine (in2_no (by omega)).mono ?_
        rintro e w'' ⟨rfl, rfl⟩
        have hr := hf.step p
        have es : step n s p = s := by unfold step; rw [if_neg hp]
        rw [es] at hr
        clear hp hc' es
        go_wp2_with fail
        go_roundw
        case rel => exact ⟨k + 1, s, ah, by omega, by go_num, hr, hfi, hb, hbel, hsq, Hsz.out, Hbl.out⟩
        case measure => simp [intOf]; omega
    · clear hat
      go_wp2_with fail
      all_goals
        go_ret
        exact ⟨rfl, hbel⟩

set_option maxHeartbeats 1000000 in
set_option maxRecDepth 100000 in
theorem first_bad (n : Int) (h : n < 1 ∨ 4 < n) (v : Value) (w : World) :
    Calls Try.prog 5 #[.int .i64 n, v] w fun e w' => e = .returned (.bool true) ∧ Below w.heap.size w w' := by
  by_cases h1 : n < 1
  · clear h
    have H := Lib.hid h1
    go_enter Try.func5, Try.ntmps5
    go_wp2_with fail
    refine (fact_any _).mono ?_
    rintro e w1 ⟨rfl, hb⟩
    go_wp2_with fail
    refine (new_no _ (.inl H.out) _).mono ?_
    rintro e w2 ⟨rfl, rfl⟩
    go_wp2_with fail
    go_ret
    exact ⟨rfl, hb⟩
  · have h2 : 4 < n := by omega
    have h3 : 1 ≤ n := by omega
    have H := Lib.hid h2
    clear h h1
    go_enter Try.func5, Try.ntmps5
    go_wp2_with fail
    refine (fact_any _).mono ?_
    rintro e w1 ⟨rfl, hb⟩
    go_wp2_with fail
    refine (new_no _ (.inr H.out) _).mono ?_
    rintro e w2 ⟨rfl, rfl⟩
    go_wp2_with fail
    go_ret
    exact ⟨rfl, hb⟩

theorem first_any (n : Int) (a0 : Option Addr) (len0 cap0 : Nat) (z0 : List Int) (w : World) (w0 : IsRow .i64 w a0 len0 cap0 z0) :
    Calls Try.prog 5 #[.int .i64 n, .slice a0 len0 cap0] w fun e w' => e = .returned (.bool true) ∧ Below w.heap.size w w' := by
  by_cases h : 1 ≤ n ∧ n ≤ 4
  · obtain ⟨m, rfl⟩ := Int.eq_ofNat_of_zero_le (show 0 ≤ n by omega)
    exact first_walk m (by omega) (by omega) a0 len0 cap0 z0 w w0
  · exact first_bad n (by omega) _ w
end Go.Proofs.Ytgolkmddncanhaa.Bakery
