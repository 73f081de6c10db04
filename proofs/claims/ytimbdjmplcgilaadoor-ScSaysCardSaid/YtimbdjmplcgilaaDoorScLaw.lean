import Derived.Test.YtimbdjmplcgilaaDoorScPlain
import Derived.Test.YtimbdjmplcgilaaDoorPrAgP
namespace Go.Proofs.YtimbdjmplcgilaaDoor.Sc
open Pr
set_option linter.unusedVariables false
set_option linter.unusedSimpArgs false

/-! What the laws say of all that a program may do. -/
/-- All outcomes, rising, each once. -/
structure Res (words : Int) (p : List (List Ln)) (R : List (List Int)) : Prop where
  rise : Bfs.Rise R
  mem : ∀ x, x ∈ R ↔ Ends words p x
theorem Res.one {words : Int} {p : List (List Ln)} {R S : List (List Int)} (h : Res words p R) (k : Res words p S) : R = S :=
  Bfs.Rise.one h.rise k.rise (fun x => by rw [h.mem, k.mem])
theorem Reach.turn {p : List (List Ln)} {f : St} {h : Nat} (hr : Reach p f) (hh : h < p.length) : Reach p (turn p f h) := by
  unfold Pr.turn
  split
  · exact .step hr hh (by assumption)
  · exact hr
theorem Reach.out {p : List (List Ln)} {h : Nat} (hh : h < p.length) : ∀ (m : Nat) {f : St}, Reach p f → Reach p (out p h m f)
  | 0, f, hr => hr
  | m + 1, f, hr => by
    unfold Pr.out
    split
    · exact Reach.out hh m (hr.turn hh)
    · exact hr
theorem Reach.ends {p : List (List Ln)} {f : St} (hr : Reach p f) : ∀ k, k ≤ p.length → Reach p (ends p k f)
  | 0, _ => hr
  | k + 1, h => by rw [ends_succ]; exact Reach.out (by omega) 6 (Reach.ends hr k (by omega))
theorem Reach.script {p : List (List Ln)} : ∀ {z : List Int} {f g : St}, Reach p f → script p z f = some g → Reach p g
  | [], f, g, hr, h => by simp [Pr.script] at h; exact h ▸ hr
  | x :: r, f, g, hr, h => by
    unfold Pr.script at h
    split at h
    · exact Reach.script (hr.turn (by omega)) h
    · simp at h
/-- What a script does may be. -/
theorem run_ends {words : Int} {p : List (List Ln)} {z x : List Int} (h : run words p z = .inr x) : Ends words p x := by
  by_cases hc : check words p = 0
  · have hf := fine_of hc
    by_cases h4 : 40 < z.length
    · unfold run at h; rw [if_neg (by simpa using hc), if_pos h4] at h; simp at h
    · cases hs : script p z St.zero with
      | none => rw [run_none hc h4 hs] at h; simp at h
      | some f =>
        rw [run_some hc h4 hs] at h
        have hr := Reach.script .zero hs
        have ho := Ok.script hf ok_zero hs
        cases h
        exact ⟨_, hr.ends _ (Nat.le_refl _), fun k hk => ends_done hf ho p.length (Nat.le_refl _) k hk, rfl⟩
  · unfold run at h; rw [if_pos hc] at h; simp at h
theorem run_nil {words : Int} {p : List (List Ln)} (hc : check words p = 0) : ∃ x, run words p [] = .inr x :=
  ⟨_, run_some hc (by simp) (show script p [] St.zero = some St.zero from rfl)⟩

/-! Who is alone. -/
theorem alone_end {words : Int} {ls : List Ln} (hf : Fine words [ls]) {f : St} (hr : Reach [ls] f) : out [ls] 0 6 f = out [ls] 0 6 St.zero := by
  induction hr with
  | zero => rfl
  | @step f h hr hh hm ih =>
    have h0 : h = 0 := by simpa using hh
    subst h0
    have ho := (hr.fine hf).1
    have e : turn [ls] f 0 = done f 0 (line [ls] f 0) := by unfold Pr.turn; rw [if_pos hm]
    rw [← ih, ← e]
    have a := (out_more hf (h := 0) (by omega) 6 ho (by have := (ho.at0 0 (by omega)).1; omega)).2 7 (by omega)
    rw [← a]
    show _ = (if more [ls] f 0 then out [ls] 0 6 (turn [ls] f 0) else f)
    rw [if_pos hm]
theorem alone_res {words : Int} {ls : List Ln} (hc : check words [ls] = 0) {R : List (List Int)} (h : Res words [ls] R) {x : List Int} (hx : run words [ls] [] = .inr x) : R = [x] := by
  have hf := fine_of hc
  refine Bfs.Rise.one h.rise (by simp [Bfs.Rise]) (fun y => ?_)
  rw [h.mem]
  constructor
  · rintro ⟨f, hr, ht, rfl⟩
    rw [run_some hc (by simp) (show script [ls] [] St.zero = some St.zero from rfl)] at hx
    cases hx
    have e := alone_end hf hr
    have e2 : out [ls] 0 6 f = f := by
      show (if more [ls] f 0 then out [ls] 0 5 (turn [ls] f 0) else f) = f
      rw [if_neg (by rw [ht 0 (by simp)]; simp)]
    rw [e2] at e
    rw [e]
    simp [ends]
  · intro hy
    simp at hy
    subst hy
    exact run_ends hx
theorem alone_no {ls : List Ln} : ¬ Races [ls] := by
  rintro ⟨f, hr, a, b, h1, h2, -⟩
  simp at h2; omega

/-! Two hands the other way round. -/
def swi (j : Nat) : Nat := if j = 0 then 1 else if j = 1 then 0 else if j = 4 then 6 else if j = 5 then 7 else if j = 6 then 4 else if j = 7 then 5 else j
theorem swi_swi (j : Nat) : swi (swi j) = j := by
  match j with
  | 0 | 1 | 2 | 3 | 4 | 5 | 6 | 7 => rfl
  | j + 8 =>
    have e : swi (j + 8) = j + 8 := by simp [swi]
    rw [e, e]
def sw (f : St) : St := fun j => f (swi j)
theorem sw_sw (f : St) : sw (sw f) = f := by funext j; simp [sw, swi_swi]
theorem sw_upd (f : St) (i : Nat) (v : Int) : sw (upd f i v) = upd (sw f) (swi i) v := by
  funext j
  unfold sw upd
  by_cases h : swi j = i
  · rw [if_pos h, if_pos (by rw [← h, swi_swi])]
  · rw [if_neg h, if_neg (fun e => h (by rw [e, swi_swi]))]
theorem sw_at (f : St) (i : Nat) : sw f (swi i) = f i := by simp [sw, swi_swi]
theorem sw_done (f : St) {h : Nat} (hh : h < 2) (l : Ln) : sw (done f h l) = done (sw f) (swi h) l := by
  have e0 : ∀ x, swi (12 + x) = 12 + x := fun x => by unfold swi; repeat' split
                                                      all_goals omega
  have e1 : swi (reg h l) = reg (swi h) l := by
    obtain rfl | rfl : h = 0 ∨ h = 1 := by omega
    · unfold reg; split <;> simp [swi]
    · unfold reg; split <;> simp [swi]
  have e2 : sw f (swi h) = f h := sw_at f h
  have e3 : sw f (reg (swi h) l) = f (reg h l) := by rw [← e1, sw_at]
  have e4 : ∀ x, sw f (12 + x) = f (12 + x) := fun x => by rw [← e0 x, sw_at, e0]
  unfold done
  simp only
  rw [e2, e3, e4]
  repeat' split
  all_goals simp only [sw_upd, e0, e1]
theorem lines_sw (a b : List Ln) {h : Nat} (hh : h < 2) : lines [b, a] (swi h) = lines [a, b] h := by
  obtain rfl | rfl : h = 0 ∨ h = 1 := by omega
  · rfl
  · rfl
theorem more_sw (a b : List Ln) (f : St) {h : Nat} (hh : h < 2) : more [b, a] (sw f) (swi h) = more [a, b] f h := by
  unfold more; rw [lines_sw a b hh, sw_at]
theorem line_sw (a b : List Ln) (f : St) {h : Nat} (hh : h < 2) : line [b, a] (sw f) (swi h) = line [a, b] f h := by
  unfold line; rw [lines_sw a b hh, sw_at]
theorem swi_lt {h : Nat} (hh : h < 2) : swi h < 2 := by
  obtain rfl | rfl : h = 0 ∨ h = 1 := by omega
  · simp [swi]
  · simp [swi]
theorem Reach.sw {a b : List Ln} {f : St} (h : Reach [a, b] f) : Reach [b, a] (sw f) := by
  induction h with
  | zero => exact .zero
  | @step f h hr hh hm ih =>
    have h2 : h < 2 := by simpa using hh
    rw [sw_done f h2, ← line_sw a b f h2]
    exact .step ih (by simpa using swi_lt h2) (by rw [more_sw a b f h2]; exact hm)
theorem Term.sw {a b : List Ln} {f : St} (h : Term [a, b] f) : Term [b, a] (sw f) := by
  intro k hk
  have h2 : k < 2 := by simpa using hk
  have := more_sw a b f (swi_lt h2)
  rw [swi_swi] at this
  rw [this]
  exact h _ (by simpa using swi_lt h2)
theorem clash_comm (x y : Ln) : clash x y = clash y x := by
  unfold clash
  rw [show (x.w == y.w) = (y.w == x.w) from Bool.beq_comm]
  generalize (y.w == x.w) = e
  generalize (x.k == 1) = a
  generalize (y.k == 1) = b
  generalize (x.k == 3) = c
  generalize (y.k == 3) = d
  generalize touches x = s
  generalize touches y = t
  cases e <;> cases a <;> cases b <;> cases c <;> cases d <;> cases s <;> cases t <;> rfl
theorem ClashAt.sw {a b : List Ln} {f : St} (h : ClashAt [a, b] f) : ClashAt [b, a] (sw f) := by
  obtain ⟨x, y, h1, h2, mx, my, hc⟩ := h
  have h2' : x < 2 := by simpa using h2
  obtain ⟨rfl, rfl⟩ : x = 1 ∧ y = 0 := by omega
  refine ⟨1, 0, by omega, by simp, ?_, ?_, ?_⟩
  · rw [← more_sw a b f (h := 0) (by omega)] at my; exact my
  · rw [← more_sw a b f (h := 1) (by omega)] at mx; exact mx
  · rw [← line_sw a b f (h := 0) (by omega), ← line_sw a b f (h := 1) (by omega), clash_comm] at hc; exact hc
theorem races_sw {a b : List Ln} : Races [a, b] → Races [b, a] := fun ⟨f, hr, hc⟩ => ⟨_, hr.sw, hc.sw⟩
def turned (l : List Int) : List Int := [l.getD 2 0, l.getD 3 0, l.getD 0 0, l.getD 1 0] ++ l.drop 4
theorem result2 (words : Int) (a b : List Ln) (f : St) : result words [a, b] f = [f 4, f 5, f 6, f 7] ++ (List.range words.toNat).map (fun j => f (12 + j)) := by
  simp [result, List.range_succ]
theorem result_sw (words : Int) (a b : List Ln) (f : St) : result words [b, a] (sw f) = turned (result words [a, b] f) := by
  rw [result2, result2]
  have e : ∀ j, sw f (12 + j) = f (12 + j) := fun j => by
    unfold sw swi; repeat' split
    all_goals first | omega | rfl
  simp only [e]
  simp [turned, sw, swi]
theorem Ends.sw {words : Int} {a b : List Ln} {x : List Int} (h : Ends words [a, b] x) : Ends words [b, a] (turned x) := by
  obtain ⟨f, hr, ht, rfl⟩ := h
  exact ⟨_, hr.sw, ht.sw, (result_sw words a b f).symm⟩
theorem Ends.long {words : Int} {a b : List Ln} {x : List Int} (h : Ends words [a, b] x) : 4 ≤ x.length := by
  obtain ⟨f, hr, ht, rfl⟩ := h
  rw [result2]; simp
theorem turned_turned {words : Int} {a b : List Ln} {x : List Int} (h : Ends words [a, b] x) : turned (turned x) = x := by
  obtain ⟨f, hr, ht, rfl⟩ := h
  rw [← result_sw, ← result_sw, sw_sw]
theorem Rise.nodup {l : List (List Int)} (h : Bfs.Rise l) : l.Nodup := by
  refine List.Pairwise.imp ?_ h
  intro a b hab e
  subst e
  rw [Bfs.ltL_irrefl] at hab; cases hab
theorem nodup_map {α β : Type} (f : α → β) : ∀ (l : List α), (∀ a ∈ l, ∀ b ∈ l, f a = f b → a = b) → l.Nodup → (l.map f).Nodup
  | [], _, _ => by simp
  | a :: r, h, hn => by
    obtain ⟨h1, h2⟩ := List.nodup_cons.1 hn
    rw [List.map_cons, List.nodup_cons]
    refine ⟨fun hm => ?_, nodup_map f r (fun x hx y hy => h x (by simp [hx]) y (by simp [hy])) h2⟩
    obtain ⟨b, hb, e⟩ := List.mem_map.1 hm
    have := h b (by simp [hb]) a (by simp) e
    exact h1 (this ▸ hb)
theorem turned_le {words : Int} {a b : List Ln} {R S : List (List Int)} (h : Res words [a, b] R) (k : Res words [b, a] S) : R.length ≤ S.length := by
  have := Bfs.nodup_le (R.map turned) S (nodup_map turned R (fun x hx y hy e => by
    have := congrArg turned e
    rw [turned_turned ((h.mem x).1 hx), turned_turned ((h.mem y).1 hy)] at this
    exact this) (Rise.nodup h.rise)) (fun y hy => by
    obtain ⟨x, hx, rfl⟩ := List.mem_map.1 hy
    exact (k.mem _).2 ((h.mem x).1 hx).sw)
  simpa using this
theorem turned_len {words : Int} {a b : List Ln} {R S : List (List Int)} (h : Res words [a, b] R) (k : Res words [b, a] S) : R.length = S.length :=
  Nat.le_antisymm (turned_le h k) (turned_le k h)
theorem fine_check {words : Int} {p : List (List Ln)} (h : Fine words p) : check words p = 0 := by
  have hh : ∀ q : List (List Ln), (∀ ls ∈ q, ls.length ≤ 5) → (∀ ls ∈ q, ∀ l ∈ ls, Good words l) → checkHands words q = 0 := by
    intro q
    induction q with
    | nil => intros; rfl
    | cons a r ih =>
      intro h1 h2
      unfold checkHands
      rw [if_neg (by have := h1 a (by simp); omega), if_neg (by
        rw [List.any_eq_true]
        rintro ⟨l, hl, hb⟩
        rw [good_bad (h2 a (by simp) l hl)] at hb; cases hb)]
      exact ih (fun ls hl => h1 ls (by simp [hl])) (fun ls hl => h2 ls (by simp [hl]))
  unfold check
  rw [if_neg (by simpa using h.w), if_neg (by intro e; have := h.n; rw [e] at this; simp at this), if_neg (by have := h.n; omega)]
  exact hh p h.len h.good
theorem check_iff {words : Int} {p : List (List Ln)} : check words p = 0 ↔ Fine words p := ⟨fine_of, fine_check⟩
theorem Fine.sw {words : Int} {a b : List Ln} (h : Fine words [a, b]) : Fine words [b, a] :=
  ⟨h.w, by simp, fun ls hl => h.len ls (by simp at hl ⊢; rcases hl with e | e <;> simp [e]), fun ls hl => h.good ls (by simp at hl ⊢; rcases hl with e | e <;> simp [e])⟩
theorem check_sw {words : Int} {a b : List Ln} : check words [a, b] = 0 ↔ check words [b, a] = 0 := by
  rw [check_iff, check_iff]; exact ⟨Fine.sw, Fine.sw⟩

/-! A hand more that has no lines. -/
theorem lines_idle (p : List (List Ln)) (h : Nat) : lines (p ++ [[]]) h = lines p h := by
  unfold lines
  by_cases e : h < p.length
  · simp [List.getD_eq_getElem?_getD, List.getElem?_append_left e]
  · have e1 : p[h]? = none := List.getElem?_eq_none (by omega)
    rw [List.getD_eq_getElem?_getD, List.getD_eq_getElem?_getD, e1, List.getElem?_append_right (by omega)]
    by_cases e2 : h - p.length = 0
    · simp [e2]
    · rw [List.getElem?_eq_none (by simp; omega)]
theorem more_idle (p : List (List Ln)) (f : St) (h : Nat) : more (p ++ [[]]) f h = more p f h := by unfold more; rw [lines_idle]
theorem line_idle (p : List (List Ln)) (f : St) (h : Nat) : line (p ++ [[]]) f h = line p f h := by unfold line; rw [lines_idle]
theorem more_out {p : List (List Ln)} {f : St} {h : Nat} (hh : p.length ≤ h) (h0 : 0 ≤ f h) : more p f h = false := by
  unfold more lines
  have : p[h]? = none := List.getElem?_eq_none (by omega)
  simp [List.getD_eq_getElem?_getD, this, h0]
theorem reach_idle {words : Int} {p : List (List Ln)} (hf : Fine words (p ++ [[]])) {f : St} : Reach (p ++ [[]]) f ↔ Reach p f := by
  constructor
  · intro h
    induction h with
    | zero => exact .zero
    | @step f h hr hh hm ih =>
      rw [more_idle] at hm
      have ho := (hr.fine hf).1
      have hn := hf.n
      have : h < p.length := by
        by_cases e : h < p.length
        · exact e
        · have := more_out (p := p) (f := f) (h := h) (by omega) (ho.at0 h (by omega)).1
          rw [this] at hm; cases hm
      rw [line_idle]
      exact .step ih this hm
  · intro h
    induction h with
    | zero => exact .zero
    | @step f h hr hh hm ih =>
      rw [← line_idle]
      exact .step ih (by simp; omega) (by rw [more_idle]; exact hm)
theorem Fine.idle {words : Int} {p : List (List Ln)} (h : Fine words p) (h2 : p.length ≤ 2) : Fine words (p ++ [[]]) :=
  ⟨h.w, by simp; omega, fun ls hl => by
    rcases List.mem_append.1 hl with hl | hl
    · exact h.len ls hl
    · simp at hl; subst hl; simp, fun ls hl l hm => by
    rcases List.mem_append.1 hl with hl | hl
    · exact h.good ls hl l hm
    · simp at hl; subst hl; simp at hm⟩
theorem term_idle {words : Int} {p : List (List Ln)} (hf : Fine words (p ++ [[]])) {f : St} (hr : Reach (p ++ [[]]) f) : Term (p ++ [[]]) f ↔ Term p f := by
  have ho := (hr.fine hf).1
  have hn := hf.n
  simp only [List.length_append, List.length_cons, List.length_nil] at hn
  constructor
  · intro h k hk
    rw [← more_idle]; exact h k (by simp; omega)
  · intro h k hk
    rw [more_idle]
    by_cases e : k < p.length
    · exact h k e
    · exact more_out (by omega) (ho.at0 k (by simp at hk; omega)).1
/-- The registers of a hand that does nothing. -/
theorem still_idle {words : Int} {p : List (List Ln)} (hf : Fine words p) {f : St} (hr : Reach p f) {j : Nat} (h1 : 4 + 2 * p.length ≤ j) (h2 : j < 12) : f j = 0 := by
  have hn := hf.n
  induction hr with
  | zero => rfl
  | @step f h hr hh hm ih =>
    have e1 : ∀ (g : St) v, upd g (reg h (line p f h)) v j = g j := fun g v => upd_other (by unfold reg; split <;> omega)
    have e2 : ∀ (g : St) v (x : Nat), upd g (12 + x) v j = g j := fun g v x => upd_other (by omega)
    have e3 : ∀ (g : St) v, upd g h v j = g j := fun g v => upd_other (by omega)
    have key : done f h (line p f h) j = f j := by
      unfold Pr.done
      repeat' split
      all_goals simp only [e1, e2, e3]
    rw [key]; exact ih
def idled (k : Nat) (l : List Int) : List Int := l.take k ++ [0, 0] ++ l.drop k
theorem result_idle {words : Int} {p : List (List Ln)} (hf : Fine words p) (h2 : p.length ≤ 2) {f : St} (hr : Reach p f) : result words (p ++ [[]]) f = idled (2 * p.length) (result words p f) := by
  unfold result idled
  have e1 : f (4 + 2 * p.length) = 0 := still_idle hf hr (by omega) (by omega)
  have e2 : f (4 + (2 * p.length + 1)) = 0 := still_idle hf hr (by omega) (by omega)
  have e3 : 2 * (p ++ [[]]).length = 2 * p.length + 1 + 1 := by simp; omega
  rw [e3, List.range_succ, List.range_succ]
  have e4 : ((List.range (2 * p.length)).map fun j => f (4 + j)).length = 2 * p.length := by simp
  rw [List.take_append_of_le_length (by omega), List.drop_append_of_le_length (by omega), List.take_of_length_le (by omega), List.drop_of_length_le (by omega)]
  simp [e1, e2]
theorem ends_idle {words : Int} {p : List (List Ln)} (hf : Fine words p) (h2 : p.length ≤ 2) {x : List Int} : Ends words (p ++ [[]]) x ↔ ∃ y, Ends words p y ∧ x = idled (2 * p.length) y := by
  have hq := Fine.idle hf h2
  constructor
  · rintro ⟨f, hr, ht, rfl⟩
    have hr' := (reach_idle hq).1 hr
    exact ⟨_, ⟨f, hr', (term_idle hq hr).1 ht, rfl⟩, result_idle hf h2 hr'⟩
  · rintro ⟨y, ⟨f, hr, ht, rfl⟩, rfl⟩
    have hr' := (reach_idle hq).2 hr
    exact ⟨f, hr', (term_idle hq hr').2 ht, (result_idle hf h2 hr).symm⟩
theorem ends_len {words : Int} {p : List (List Ln)} {x : List Int} (h : Ends words p x) : x.length = 2 * p.length + words.toNat := by
  obtain ⟨f, hr, ht, rfl⟩ := h
  simp [result]
theorem idled_inj {k : Nat} {x y : List Int} (hx : k ≤ x.length) (hy : k ≤ y.length) (h : idled k x = idled k y) : x = y := by
  unfold idled at h
  rw [List.append_assoc, List.append_assoc] at h
  have hl : (x.take k).length = (y.take k).length := by simp; omega
  obtain ⟨h1, h3⟩ := List.append_inj h hl
  have h4 := List.append_inj h3 rfl
  rw [← List.take_append_drop k x, ← List.take_append_drop k y, h1, h4.2]
theorem idle_len {words : Int} {p : List (List Ln)} (hf : Fine words p) (h2 : p.length ≤ 2) {R S : List (List Int)} (h : Res words p R) (k : Res words (p ++ [[]]) S) : R.length = S.length := by
  apply Nat.le_antisymm
  · have := Bfs.nodup_le (R.map (idled (2 * p.length))) S (nodup_map _ R (fun x hx y hy e => idled_inj (by rw [ends_len ((h.mem x).1 hx)]; omega) (by rw [ends_len ((h.mem y).1 hy)]; omega) e) (Rise.nodup h.rise)) (fun y hy => by
      obtain ⟨x, hx, rfl⟩ := List.mem_map.1 hy
      exact (k.mem _).2 ((ends_idle hf h2).2 ⟨x, (h.mem x).1 hx, rfl⟩))
    simpa using this
  · have := Bfs.nodup_le S (R.map (idled (2 * p.length))) (Rise.nodup k.rise) (fun y hy => by
      obtain ⟨x, hx, rfl⟩ := (ends_idle hf h2).1 ((k.mem y).1 hy)
      exact List.mem_map.2 ⟨x, (h.mem x).2 hx, rfl⟩)
    simpa using this
theorem races_idle {words : Int} {p : List (List Ln)} (hf : Fine words p) (h2 : p.length ≤ 2) : Races (p ++ [[]]) ↔ Races p := by
  have hq := Fine.idle hf h2
  constructor
  · rintro ⟨f, hr, a, b, h1, h2, ma, mb, hc⟩
    have ho := (hr.fine hq).1
    rw [more_idle] at ma mb
    rw [line_idle, line_idle] at hc
    have hn := hq.n
    refine ⟨f, (reach_idle hq).1 hr, a, b, h1, ?_, ma, mb, hc⟩
    by_cases e : a < p.length
    · exact e
    · have := more_out (p := p) (f := f) (h := a) (by omega) (ho.at0 a (by omega)).1
      rw [this] at ma; cases ma
  · rintro ⟨f, hr, a, b, h1, h2, ma, mb, hc⟩
    exact ⟨f, (reach_idle hq).2 hr, a, b, h1, by simp; omega, by rw [more_idle]; exact ma, by rw [more_idle]; exact mb, by rw [line_idle, line_idle]; exact hc⟩
theorem check_idle {words : Int} {p : List (List Ln)} (h2 : p.length ≤ 2) (h : check words p = 0) : check words (p ++ [[]]) = 0 :=
  fine_check (Fine.idle (fine_of h) h2)

/-! What rises. -/
theorem rise_at {R : List (List Int)} (h : Bfs.Rise R) {i : Nat} (hi : i + 1 < R.length) : Bfs.ltL (R.getD i []) (R.getD (i + 1) []) = true := by
  have := List.pairwise_iff_getElem.1 h i (i + 1) (by omega) hi (by omega)
  simpa [List.getD_eq_getElem?_getD, hi, show i < R.length by omega] using this
/-- The lesser number at the first place where they differ. -/
def belowL : List Int → List Int → Bool
  | x :: a, y :: b => if x = y then belowL a b else decide (x < y)
  | _, _ => false
theorem belowL_of : ∀ {a b : List Int}, a.length = b.length → Bfs.ltL a b = true → belowL a b = true
  | [], [], _, h => by simp [Bfs.ltL, Bfs.cmpL] at h
  | [], _ :: _, hl, _ => by simp at hl
  | _ :: _, [], hl, _ => by simp at hl
  | x :: a, y :: b, hl, h => by
    unfold belowL
    simp only [Bfs.ltL, decide_eq_true_eq] at h
    unfold Bfs.cmpL at h
    by_cases e : x = y
    · subst e
      rw [if_pos rfl]
      rw [if_neg (by omega), if_neg (by omega)] at h
      exact belowL_of (by simpa using hl) (by simpa [Bfs.ltL] using h)
    · rw [if_neg e]
      by_cases e1 : x < y
      · simpa using e1
      · rw [if_neg e1, if_pos (by omega)] at h; omega
theorem Res.below {words : Int} {p : List (List Ln)} {R : List (List Int)} (h : Res words p R) {i : Nat} (hi : i + 1 < R.length) : belowL (R.getD i []) (R.getD (i + 1) []) = true := by
  have m : ∀ j, j < R.length → R.getD j [] ∈ R := fun j hj => by simp [List.getD_eq_getElem?_getD, hj]
  refine belowL_of ?_ (rise_at h.rise hi)
  rw [ends_len ((h.mem _).1 (m i (by omega))), ends_len ((h.mem _).1 (m (i + 1) hi))]
end Go.Proofs.YtimbdjmplcgilaaDoor.Sc
