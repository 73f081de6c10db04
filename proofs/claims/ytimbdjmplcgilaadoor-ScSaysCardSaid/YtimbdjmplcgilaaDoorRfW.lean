import Derived.Test.YtimbdjmplcgilaaDoorRfPlain
import Derived.Test.YtimbdjmplcgilaaDoorScLaw
namespace Go.Proofs.YtimbdjmplcgilaaDoor.Rf
open Pr Tso
set_option linter.unusedVariables false
set_option linter.unusedSimpArgs false

/-! The document's search: what is stored waits (W), or not. -/
def canW (W : Bool) (p : List (List Ln)) (h : Nat) (x : Tso.Loc) : Bool := mor p h x && (!W || x.b.isEmpty || !((nxt p h x).k == 3 || (nxt p h x).k == 4))
def stepW (W : Bool) (p : List (List Ln)) (s : TS) (h : Nat) : TS := if W then step p s h else dstep s h (nxt p h (s.l h))
inductive ReachW (W : Bool) (p : List (List Ln)) : TS → Prop
  | zero : ReachW W p TS.zero
  | step {s : TS} {h : Nat} : ReachW W p s → h < p.length → canW W p h (s.l h) = true → ReachW W p (stepW W p s h)
  | flush {s : TS} {h : Nat} : ReachW W p s → h < p.length → (s.l h).b ≠ [] → ReachW W p (flush s h)
theorem canW_mor {W : Bool} {p : List (List Ln)} {h : Nat} {x : Tso.Loc} (hc : canW W p h x = true) : mor p h x = true := by
  unfold canW at hc; simp only [Bool.and_eq_true] at hc; exact hc.1
theorem canW_true (p : List (List Ln)) (h : Nat) (x : Tso.Loc) : canW true p h x = can p h x := by unfold canW can; simp
theorem dstep_other {s : TS} {p : List (List Ln)} {h : Nat} (hb : (s.l h).b = []) (k2 : (nxt p h (s.l h)).k ≠ 2) : dstep s h (nxt p h (s.l h)) = step p s h := by
  unfold dstep step mstep dmem lstep dloc
  generalize nxt p h (s.l h) = l at *
  rw [hb]
  simp [k2, look_nil]
theorem dstep_store {s : TS} {p : List (List Ln)} {h : Nat} (hb : (s.l h).b = []) (k2 : (nxt p h (s.l h)).k = 2) : dstep s h (nxt p h (s.l h)) = flush (step p s h) h := by
  have e : (step p s h).l h = { s.l h with at' := (s.l h).at' + 1, b := [((nxt p h (s.l h)).w, rg (s.l h) (nxt p h (s.l h)))] } := by
    show put _ _ _ h = _
    rw [put_same]
    unfold lstep
    rw [hb]
    simp [k2]
  rw [flush_cons (x := ((nxt p h (s.l h)).w, rg (s.l h) (nxt p h (s.l h)))) (r := []) (by rw [e]), e]
  have em : (step p s h).m = s.m := by show mstep _ _ _ = _; unfold mstep; rw [if_neg (by omega)]
  have el : (step p s h).l = put s.l h (lstep s.m (s.l h) (nxt p h (s.l h))) := rfl
  rw [em, el, put_put]
  unfold dstep dmem dloc
  rw [if_pos (.inl k2), if_neg (by omega), if_neg (by omega), if_neg (by omega), if_neg (by omega)]
  congr 2
  rw [← hb]
theorem reachW_tso {W : Bool} {p : List (List Ln)} {s : TS} (h : ReachW W p s) : Tso.Reach p s ∧ (W = false → ∀ k, (s.l k).b = []) := by
  induction h with
  | zero => exact ⟨.zero, fun _ k => rfl⟩
  | @step s h hr hh hc ih =>
    have hm := canW_mor hc
    cases W with
    | true =>
      rw [canW_true] at hc
      exact ⟨.step ih.1 hh hc, fun x => by cases x⟩
    | false =>
      have hb := ih.2 rfl
      have hcn : can p h (s.l h) = true := by unfold can; rw [hm, hb h]; rfl
      have e : stepW false p s h = dstep s h (nxt p h (s.l h)) := rfl
      rw [e]
      refine ⟨?_, fun _ k => ?_⟩
      · by_cases k2 : (nxt p h (s.l h)).k = 2
        · rw [dstep_store (hb h) k2]
          refine .flush (.step ih.1 hh hcn) hh ?_
          show (put _ _ _ h).b ≠ []
          rw [put_same, lstep_b, if_pos k2]; simp
        · rw [dstep_other (hb h) k2]; exact .step ih.1 hh hcn
      · show (put _ _ _ k).b = []
        unfold put; split
        · rw [dloc_b]; exact hb h
        · exact hb k
  | @flush s h hr hh hb ih =>
    refine ⟨.flush ih.1 hh hb, fun hw => ?_⟩
    exact absurd (ih.2 hw h) hb
theorem ReachW.ok {W : Bool} {words : Int} {p : List (List Ln)} (hf : Fine words p) {s : TS} (h : ReachW W p s) : Tso.Ok words p s := (reachW_tso h).1.ok hf
theorem reachW_true {p : List (List Ln)} {s : TS} : ReachW true p s ↔ Tso.Reach p s := by
  refine ⟨fun h => (reachW_tso h).1, fun h => ?_⟩
  induction h with
  | zero => exact .zero
  | step hr hh hc ih => exact .step (W := true) ih hh (by rw [canW_true]; exact hc)
  | flush hr hh hb ih => exact .flush ih hh hb

/-! As numbers. -/
def succ1 (W : Bool) (p : List (List Ln)) (v : List Int) (h : Nat) : List (List Int) :=
  (if canW W p h ((dec v).l h) then [vec (stepW W p (dec v) h)] else []) ++ (if ((dec v).l h).b.isEmpty then [] else [vec (flush (dec v) h)])
def succTo (W : Bool) (p : List (List Ln)) (v : List Int) (k : Nat) : List (List Int) := (List.range k).flatMap (succ1 W p v)
def succ (W : Bool) (p : List (List Ln)) (v : List Int) : List (List Int) := succTo W p v p.length
theorem succTo_succ (W : Bool) (p : List (List Ln)) (v : List Int) (k : Nat) : succTo W p v (k + 1) = succTo W p v k ++ succ1 W p v k := by simp [succTo, List.range_succ]
theorem succTo_mem {W : Bool} {p : List (List Ln)} {v b : List Int} {k : Nat} (hk : k ≤ p.length) (h : b ∈ succTo W p v k) : b ∈ succ W p v := by
  unfold succTo at h
  obtain ⟨i, hi, hb⟩ := List.mem_flatMap.1 h
  exact List.mem_flatMap.2 ⟨i, by simp at hi ⊢; omega, hb⟩
def sA (W : Bool) (p : List (List Ln)) (s : TS) (h : Nat) : List (List Int) := if canW W p h (s.l h) then [vec (stepW W p s h)] else []
def sB (s : TS) (h : Nat) : List (List Int) := if (s.l h).b.isEmpty then [] else [vec (flush s h)]
theorem succ1_two {W : Bool} {words : Int} {p : List (List Ln)} (hf : Fine words p) {s : TS} (hr : ReachW W p s) (h : Nat) : succ1 W p (vec s) h = sA W p s h ++ sB s h := by
  unfold succ1 sA sB
  rw [dec_vec hf.n.2 (hr.ok hf)]
theorem mem_succ {W : Bool} {p : List (List Ln)} {v b : List Int} : b ∈ succ W p v ↔ ∃ h, h < p.length ∧ ((canW W p h ((dec v).l h) = true ∧ b = vec (stepW W p (dec v) h)) ∨ (((dec v).l h).b ≠ [] ∧ b = vec (flush (dec v) h))) := by
  unfold succ succTo
  rw [List.mem_flatMap]
  constructor
  · rintro ⟨h, hh, hb⟩
    refine ⟨h, by simpa using hh, ?_⟩
    unfold succ1 at hb
    rcases List.mem_append.1 hb with hb | hb
    · split at hb
      · exact .inl ⟨by assumption, by simpa using hb⟩
      · simp at hb
    · split at hb
      · simp at hb
      · exact .inr ⟨by simp_all, by simpa using hb⟩
  · rintro ⟨h, hh, hx⟩
    refine ⟨h, by simpa using hh, ?_⟩
    unfold succ1
    rcases hx with ⟨h1, rfl⟩ | ⟨h1, rfl⟩
    · rw [if_pos h1]; simp
    · rw [if_neg (show ¬ ((dec v).l h).b.isEmpty = true by simpa using h1)]; simp
theorem succ_nil {W : Bool} {p : List (List Ln)} {v : List Int} : succ W p v = [] ↔ Term p (dec v) := by
  unfold succ succTo Term
  rw [List.flatMap_eq_nil_iff]
  have key : ∀ h, succ1 W p v h = [] ↔ mor p h ((dec v).l h) = false ∧ ((dec v).l h).b = [] := by
    intro h
    unfold succ1
    rw [List.append_eq_nil_iff]
    constructor
    · rintro ⟨h1, h2⟩
      have hb : ((dec v).l h).b = [] := by
        split at h2
        · simp_all
        · simp at h2
      refine ⟨?_, hb⟩
      split at h1
      · simp at h1
      · rename_i hc
        unfold canW at hc
        rw [hb] at hc
        simpa using hc
    · rintro ⟨h1, h2⟩
      constructor
      · rw [if_neg]; unfold canW; rw [h1]; simp
      · rw [h2]; simp
  constructor
  · intro h i hi
    exact (key i).1 (h i (by simpa using hi))
  · intro h i hi
    exact (key i).2 (h i (by simpa using hi))
theorem reach_iff {W : Bool} {words : Int} {p : List (List Ln)} (hf : Fine words p) {v : List Int} : Bfs.Reach (vec TS.zero) (succ W p) v ↔ ∃ s, ReachW W p s ∧ v = vec s := by
  have hn := hf.n.2
  constructor
  · intro h
    induction h with
    | zero => exact ⟨_, .zero, rfl⟩
    | step _ hb ih =>
      obtain ⟨s, hr, rfl⟩ := ih
      obtain ⟨h, hh, hx⟩ := mem_succ.1 hb
      rw [dec_vec hn (hr.ok hf)] at hx
      rcases hx with ⟨hc, rfl⟩ | ⟨hc, rfl⟩
      · exact ⟨_, .step hr hh hc, rfl⟩
      · exact ⟨_, .flush hr hh hc, rfl⟩
  · rintro ⟨s, hr, rfl⟩
    induction hr with
    | zero => exact .zero
    | step hr hh hc ih =>
      refine .step ih (mem_succ.2 ⟨_, hh, .inl ?_⟩)
      rw [dec_vec hn (hr.ok hf)]; exact ⟨hc, rfl⟩
    | flush hr hh hc ih =>
      refine .step ih (mem_succ.2 ⟨_, hh, .inr ?_⟩)
      rw [dec_vec hn (hr.ok hf)]; exact ⟨hc, rfl⟩
theorem bound {W : Bool} {words : Int} {p : List (List Ln)} (hf : Fine words p) {l : List (List Int)} {i : Nat} (h : Bfs.Inv (vec TS.zero) (succ W p) l i) : l.length ≤ 72832127856 :=
  Nat.le_trans (h.bound (fun a ha => by
    obtain ⟨s, hr, rfl⟩ := (reach_iff hf).1 ha
    exact mem_cov hf ((Tso.reach_iff hf).2 ⟨s, (reachW_tso hr).1, rfl⟩))) (Nat.le_trans (cov_len p 16 (fun _ => 5) TS.zero (by omega) (by omega) (by omega)) (by decide +kernel))

/-! What comes of it. -/
def EndsW (W : Bool) (words : Int) (p : List (List Ln)) (x : List Int) : Prop := ∃ s, ReachW W p s ∧ Term p s ∧ x = result words p (enc s)
/-- What the ended states among the first i tell. -/
def Outs (W : Bool) (words : Int) (p : List (List Ln)) (l : List (List Int)) (i : Nat) (x : List Int) : Prop := ∃ v ∈ l.take i, succ W p v = [] ∧ x = resV words p v
theorem outs_next {W : Bool} {words : Int} {p : List (List Ln)} {l xs : List (List Int)} {i : Nat} {v : List Int} (h : l[i]? = some v) (x : List Int) : Outs W words p (Bfs.addAll l xs) (i + 1) x ↔ Outs W words p l i x ∨ (succ W p v = [] ∧ x = resV words p v) := by
  have hi := (List.getElem?_eq_some_iff.1 h).1
  unfold Outs
  rw [Bfs.addAll_take (by omega), List.take_add_one, h]
  constructor
  · rintro ⟨u, hu, h1, h2⟩
    rcases List.mem_append.1 hu with hu | hu
    · exact .inl ⟨u, hu, h1, h2⟩
    · simp at hu; subst hu; exact .inr ⟨h1, h2⟩
  · rintro (⟨u, hu, h1, h2⟩ | ⟨h1, h2⟩)
    · exact ⟨u, List.mem_append_left _ hu, h1, h2⟩
    · exact ⟨v, List.mem_append_right _ (by simp), h1, h2⟩
theorem outs_all {W : Bool} {words : Int} {p : List (List Ln)} (hf : Fine words p) {l : List (List Int)} (h : Bfs.Inv (vec TS.zero) (succ W p) l l.length) (x : List Int) : Outs W words p l l.length x ↔ EndsW W words p x := by
  have hn := hf.n.2
  unfold Outs
  rw [List.take_length]
  constructor
  · rintro ⟨v, hv, h2, rfl⟩
    obtain ⟨s, hr, rfl⟩ := (reach_iff hf).1 (h.all.1 hv)
    have h3 := succ_nil.1 h2
    rw [dec_vec hn (hr.ok hf)] at h3
    exact ⟨s, hr, h3, by unfold resV; rw [dec_vec hn (hr.ok hf)]⟩
  · rintro ⟨s, hr, ht, rfl⟩
    exact ⟨vec s, h.all.2 ((reach_iff hf).2 ⟨s, hr, rfl⟩), succ_nil.2 (by rw [dec_vec hn (hr.ok hf)]; exact ht), by unfold resV; rw [dec_vec hn (hr.ok hf)]⟩
/-- A result put into a list that rises. -/
def putL (R : List (List Int)) (x : List Int) : List (List Int) := R.filter (fun a => Bfs.ltL a x) ++ [x] ++ R.filter (fun a => Bfs.ltL x a)
theorem mem_putL {R : List (List Int)} {x y : List Int} : y ∈ putL R x ↔ y ∈ R ∨ y = x := by
  unfold putL
  simp only [List.mem_append, List.mem_filter, List.mem_singleton]
  constructor
  · rintro ((⟨h, _⟩ | h) | ⟨h, _⟩)
    · exact .inl h
    · exact .inr h
    · exact .inl h
  · rintro (h | h)
    · cases h1 : Bfs.ltL y x with
      | true => exact .inl (.inl ⟨h, rfl⟩)
      | false => cases h2 : Bfs.ltL x y with
        | true => exact .inr ⟨h, rfl⟩
        | false => exact .inl (.inr (Bfs.ltL_total h1 h2))
    · exact .inl (.inr h)
theorem rise_putL {R : List (List Int)} (hR : Bfs.Rise R) (x : List Int) : Bfs.Rise (putL R x) := by
  unfold putL Bfs.Rise
  rw [List.append_assoc, List.pairwise_append]
  refine ⟨List.Pairwise.filter _ hR, ?_, fun a ha b hb => ?_⟩
  · rw [List.singleton_append, List.pairwise_cons]
    exact ⟨fun b hb => (List.mem_filter.1 hb).2, List.Pairwise.filter _ hR⟩
  · have h1 := (List.mem_filter.1 ha).2
    rcases List.mem_append.1 hb with hb | hb
    · simp at hb; subst hb; exact h1
    · exact Bfs.ltL_trans h1 (List.mem_filter.1 hb).2
theorem putL_len (R : List (List Int)) (x : List Int) : (putL R x).length ≤ R.length + 1 := by
  unfold putL
  have key : ∀ R : List (List Int), (R.filter (fun a => Bfs.ltL a x)).length + (R.filter (fun a => Bfs.ltL x a)).length ≤ R.length := by
    intro R
    induction R with
    | nil => simp
    | cons a r ih =>
      cases h1 : Bfs.ltL a x with
      | true =>
        have h2 := Bfs.ltL_asymm h1
        simp only [List.filter_cons, h1, h2, if_true, Bool.false_eq_true, if_false, List.length_cons]; omega
      | false =>
        simp only [List.filter_cons, h1, Bool.false_eq_true, if_false, List.length_cons]
        split
        · simp only [List.length_cons]; omega
        · omega
  have := key R
  simp only [List.length_append, List.length_cons, List.length_nil]; omega

/-! Where nothing waits it is the program as it is done line by line. -/
theorem sc_of {words : Int} {p : List (List Ln)} (hf : Fine words p) {s : TS} (h : ReachW false p s) : ∃ D, Sc.Reach p D ∧ s.m = memOf D ∧ ∀ h, h < p.length → s.l h = locOf D h := by
  have hn := hf.n
  induction h with
  | zero => exact ⟨_, .zero, by funext j; rfl, fun h _ => rfl⟩
  | @step s h hr hh hc ih =>
    obtain ⟨D, hD, hm, hl⟩ := ih
    have hb : (s.l h).b = [] := (reachW_tso hr).2 rfl h
    have e : nxt p h (s.l h) = line p D h := nxt_of p h (by rw [hl h hh]; rfl)
    have hmo : more p D h = true := by rw [← mor_of p h (x := s.l h) (by rw [hl h hh]; rfl)]; exact canW_mor hc
    refine ⟨_, .step hD hh hmo, ?_, fun k hk => ?_⟩
    · show dmem s.m (s.l h) (nxt p h (s.l h)) = _
      rw [done_mem (by omega), e, hm, hl h hh]; rfl
    · show put s.l h (dloc s.m (s.l h) (nxt p h (s.l h))) k = _
      unfold put
      split
      · subst_vars
        rw [done_own (by omega), e, hm, hl _ hh]
        generalize line p D _ = l
        unfold dloc lstep unb setr
        simp only [show (locOf D k).b = [] from rfl, look_nil]
        repeat' split
        all_goals first | rfl | omega
      · rename_i hne
        rw [hl k hk]; exact (done_other (by omega) (by omega) hne).symm
  | @flush s h hr hh hb ih => exact absurd ((reachW_tso hr).2 rfl h) hb
theorem sc_to {words : Int} {p : List (List Ln)} (hf : Fine words p) {D : St} (h : Sc.Reach p D) : ∃ s, ReachW false p s ∧ s.m = memOf D ∧ ∀ h, h < p.length → s.l h = locOf D h := by
  have hn := hf.n
  induction h with
  | zero => exact ⟨_, .zero, by funext j; rfl, fun h _ => rfl⟩
  | @step D h hD hh hmo ih =>
    obtain ⟨s, hr, hm, hl⟩ := ih
    have e : nxt p h (s.l h) = line p D h := nxt_of p h (by rw [hl h hh]; rfl)
    have hc : canW false p h (s.l h) = true := by
      unfold canW
      rw [mor_of p h (D := D) (by rw [hl h hh]; rfl), hmo]; rfl
    refine ⟨_, .step hr hh hc, ?_, fun k hk => ?_⟩
    · show dmem s.m (s.l h) (nxt p h (s.l h)) = _
      rw [done_mem (by omega), e, hm, hl h hh]; rfl
    · show put s.l h (dloc s.m (s.l h) (nxt p h (s.l h))) k = _
      unfold put
      split
      · subst_vars
        rw [done_own (by omega), e, hm, hl _ hh]
        generalize line p D _ = l
        unfold dloc lstep unb setr
        simp only [show (locOf D k).b = [] from rfl, look_nil]
        repeat' split
        all_goals first | rfl | omega
      · rename_i hne
        rw [hl k hk]; exact (done_other (by omega) (by omega) hne).symm
theorem ends_true {words : Int} {p : List (List Ln)} {x : List Int} : EndsW true words p x ↔ Tso.Ends words p x := by
  unfold EndsW Tso.Ends
  exact ⟨fun ⟨s, h, r⟩ => ⟨s, reachW_true.1 h, r⟩, fun ⟨s, h, r⟩ => ⟨s, reachW_true.2 h, r⟩⟩
theorem ends_false {words : Int} {p : List (List Ln)} (hf : Fine words p) {x : List Int} : EndsW false words p x ↔ Sc.Ends words p x := by
  constructor
  · rintro ⟨s, hr, ht, rfl⟩
    obtain ⟨D, hD, hm, hl⟩ := sc_of hf hr
    exact ⟨D, hD, fun h hh => by rw [← mor_of p h (x := s.l h) (by rw [hl h hh]; rfl)]; exact (ht h hh).1, result_same hf hm hl⟩
  · rintro ⟨D, hD, ht, rfl⟩
    obtain ⟨s, hr, hm, hl⟩ := sc_to hf hD
    exact ⟨s, hr, fun h hh => ⟨by rw [mor_of p h (D := D) (by rw [hl h hh]; rfl)]; exact ht h hh, by rw [hl h hh]; rfl⟩, (result_same hf hm hl).symm⟩
/-- Two hands touch one word next. -/
def ClashT (p : List (List Ln)) (s : TS) : Prop := ∃ a b, b < a ∧ a < p.length ∧ mor p a (s.l a) = true ∧ mor p b (s.l b) = true ∧ Sc.clash (nxt p a (s.l a)) (nxt p b (s.l b)) = true
theorem races_iff {words : Int} {p : List (List Ln)} (hf : Fine words p) : Sc.Races p ↔ ∃ s, ReachW false p s ∧ ClashT p s := by
  constructor
  · rintro ⟨D, hD, a, b, hab, ha, h1, h2, h3⟩
    obtain ⟨s, hr, hm, hl⟩ := sc_to hf hD
    have ea : (s.l a).at' = D a := by rw [hl a ha]; rfl
    have eb : (s.l b).at' = D b := by rw [hl b (by omega)]; rfl
    exact ⟨s, hr, a, b, hab, ha, by rw [mor_of p a ea]; exact h1, by rw [mor_of p b eb]; exact h2, by rw [nxt_of p a ea, nxt_of p b eb]; exact h3⟩
  · rintro ⟨s, hr, a, b, hab, ha, h1, h2, h3⟩
    obtain ⟨D, hD, hm, hl⟩ := sc_of hf hr
    have ea : (s.l a).at' = D a := by rw [hl a ha]; rfl
    have eb : (s.l b).at' = D b := by rw [hl b (by omega)]; rfl
    exact ⟨D, hD, a, b, hab, ha, by rw [← mor_of p a ea]; exact h1, by rw [← mor_of p b eb]; exact h2, by rw [← nxt_of p a ea, ← nxt_of p b eb]; exact h3⟩
end Go.Proofs.YtimbdjmplcgilaaDoor.Rf
