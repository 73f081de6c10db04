import Derived.Test.YtimbdjmplcgilaaDoorBfs
import Derived.Test.YtimbdjmplcgilaaDoorPrPlain2
namespace Go.Proofs.YtimbdjmplcgilaaDoor.Sc
open Pr
set_option linter.unusedVariables false
set_option linter.unusedSimpArgs false

/-! All that a program may do, one line after another. -/
inductive Reach (p : List (List Ln)) : St → Prop
  | zero : Reach p St.zero
  | step {f : St} {h : Nat} : Reach p f → h < p.length → more p f h = true → Reach p (done f h (line p f h))
def Term (p : List (List Ln)) (f : St) : Prop := ∀ h, h < p.length → more p f h = false
/-- Nothing lies beyond the words. -/
def Canon (f : St) : Prop := ∀ j, 16 ≤ j → f j = 0
def vec (f : St) : List Int := (List.range 16).map f
def fn (v : List Int) : St := fun j => v.getD j 0
theorem vec_len (f : St) : (vec f).length = 16 := by simp [vec]
theorem fn_vec {f : St} (h : Canon f) : fn (vec f) = f := by
  funext j
  unfold fn vec
  by_cases hj : j < 16
  · simp [List.getD_eq_getElem?_getD, hj]
  · rw [h j (by omega)]; simp [List.getD_eq_getElem?_getD, List.getElem?_eq_none (l := List.map f (List.range 16)) (i := j) (by simp; omega)]
theorem vec_inj {f g : St} (hf : Canon f) (hg : Canon g) (h : vec f = vec g) : f = g := by rw [← fn_vec hf, ← fn_vec hg, h]
theorem vec_eq {f g : St} (h : ∀ j, j < 16 → f j = g j) : vec f = vec g := by
  unfold vec
  exact List.map_congr_left (fun j hj => h j (by simpa using hj))
theorem fn_lt {f : St} {j : Nat} (hj : j < 16) : fn (vec f) j = f j := by
  unfold fn vec; simp [List.getD_eq_getElem?_getD, hj]
theorem Canon.done {f : St} (hc : Canon f) {words : Int} {l : Ln} (hg : Good words l) (hw : words ≤ 4) {h : Nat} (h4 : h < 4) : Canon (done f h l) := by
  intro j hj
  have hr := reg_bd (l := l) h4
  have hw2 : 1 ≤ l.k → l.k ≤ 3 → 12 + l.w.toNat < 16 := fun a b => by have := hg.w a b; omega
  have e0 : f j = 0 := hc j hj
  have u : ∀ (g : St) i v, i < 16 → upd g i v j = g j := fun g i v hi => upd_other (by omega)
  unfold Pr.done
  try dsimp only
  repeat' split
  all_goals (first | omega | skip)
  all_goals rename_i k
  all_goals (try have hwx := hw2 (by omega) (by omega))
  all_goals simp [u, e0, *, show h < 16 by omega, show reg h l < 16 by omega]
theorem Reach.fine {words : Int} {p : List (List Ln)} (hf : Fine words p) {f : St} (h : Reach p f) : Ok f ∧ Canon f := by
  have hn := hf.n
  induction h with
  | zero => exact ⟨ok_zero, fun _ _ => rfl⟩
  | @step f h hr hh hm ih =>
    obtain ⟨ho, hc⟩ := ih
    have hl := (hf.lines h).1
    have hm' := hm
    simp [more] at hm'
    exact ⟨ho.done (n := 0) (p := p) (hf.line (ho.at0 _ (by omega)).1 hm) (by omega) (by omega), hc.done (hf.line (ho.at0 _ (by omega)).1 hm) hf.w.2 (by omega)⟩

/-- What follows by a line of a hand. -/
def succ1 (p : List (List Ln)) (v : List Int) (h : Nat) : List (List Int) := if more p (fn v) h then [vec (done (fn v) h (line p (fn v) h))] else []
def succTo (p : List (List Ln)) (v : List Int) (k : Nat) : List (List Int) := (List.range k).flatMap (succ1 p v)
def succ (p : List (List Ln)) (v : List Int) : List (List Int) := succTo p v p.length
theorem succTo_succ (p : List (List Ln)) (v : List Int) (k : Nat) : succTo p v (k + 1) = succTo p v k ++ succ1 p v k := by simp [succTo, List.range_succ]
theorem succTo_mem {p : List (List Ln)} {v b : List Int} {k : Nat} (hk : k ≤ p.length) (h : b ∈ succTo p v k) : b ∈ succ p v := by
  unfold succTo at h
  obtain ⟨i, hi, hb⟩ := List.mem_flatMap.1 h
  exact List.mem_flatMap.2 ⟨i, by simp at hi ⊢; omega, hb⟩
theorem mem_succ {p : List (List Ln)} {v b : List Int} : b ∈ succ p v ↔ ∃ h, h < p.length ∧ more p (fn v) h = true ∧ b = vec (done (fn v) h (line p (fn v) h)) := by
  unfold succ succTo
  rw [List.mem_flatMap]
  constructor
  · rintro ⟨h, hh, hb⟩
    unfold succ1 at hb
    split at hb
    · exact ⟨h, by simpa using hh, by assumption, by simpa using hb⟩
    · simp at hb
  · rintro ⟨h, hh, hm, rfl⟩
    exact ⟨h, by simpa using hh, by unfold succ1; rw [if_pos hm]; simp⟩
theorem succTo_nil {p : List (List Ln)} {v : List Int} {k : Nat} : succTo p v k = [] ↔ ∀ h, h < k → more p (fn v) h = false := by
  unfold succTo
  rw [List.flatMap_eq_nil_iff]
  constructor
  · intro h i hi
    have := h i (by simpa using hi)
    unfold succ1 at this
    split at this
    · simp at this
    · simp_all
  · intro h i hi
    unfold succ1
    rw [h i (by simpa using hi)]; simp
theorem reach_iff {words : Int} {p : List (List Ln)} (hf : Fine words p) {v : List Int} : Bfs.Reach (vec St.zero) (succ p) v ↔ ∃ f, Reach p f ∧ v = vec f := by
  constructor
  · intro h
    induction h with
    | zero => exact ⟨_, .zero, rfl⟩
    | step _ hb ih =>
      obtain ⟨f, hr, rfl⟩ := ih
      have hc := (hr.fine hf).2
      obtain ⟨h, hh, hm, rfl⟩ := mem_succ.1 hb
      rw [fn_vec hc] at hm ⊢
      exact ⟨_, .step hr hh hm, rfl⟩
  · rintro ⟨f, hr, rfl⟩
    induction hr with
    | zero => exact .zero
    | step hr hh hm ih =>
      refine .step ih (mem_succ.2 ⟨_, hh, ?_, ?_⟩)
      · rw [fn_vec (hr.fine hf).2]; exact hm
      · rw [fn_vec (hr.fine hf).2]

/-! How many states there are at most. -/
def level (p : List (List Ln)) : Nat → List St
  | 0 => [St.zero]
  | k + 1 => (level p k).flatMap fun f => (List.range p.length).map fun h => done f h (line p f h)
theorem level_len (p : List (List Ln)) : ∀ k, (level p k).length = p.length ^ k
  | 0 => rfl
  | k + 1 => by
    have e : ∀ l : List St, (l.flatMap fun f => (List.range p.length).map fun h => done f h (line p f h)).length = l.length * p.length := by
      intro l
      induction l with
      | nil => simp
      | cons a r ih => simp only [List.flatMap_cons, List.length_append, ih, List.length_map, List.length_range, List.length_cons, Nat.succ_mul]; omega
    show (List.flatMap _ (level p k)).length = _
    rw [e, level_len p k, Nat.pow_succ]
def left (f : St) : Int := (if f 0 ≤ 5 then 5 - f 0 else 0) + (if f 1 ≤ 5 then 5 - f 1 else 0) + (if f 2 ≤ 5 then 5 - f 2 else 0)
theorem left_pos (f : St) : 0 ≤ left f := by unfold left; repeat' split
                                             all_goals omega
theorem Reach.level {words : Int} {p : List (List Ln)} (hf : Fine words p) {f : St} (h : Reach p f) : ∃ k : Nat, k + left f ≤ 15 ∧ f ∈ level p k := by
  have hn := hf.n
  induction h with
  | zero => exact ⟨0, by simp [left, St.zero], by simp [Sc.level]⟩
  | @step f h hr hh hm ih =>
    obtain ⟨k, hk, hm2⟩ := ih
    have ho := (hr.fine hf).1
    have hl := (hf.lines h).1
    have hup := turn_up hf ho (by omega) hm
    unfold turn at hup
    rw [if_pos hm] at hup
    have hm' := hm
    simp [more] at hm'
    have e : ∀ i, i < 4 → i ≠ h → done f h (line p f h) i = f i := fun i hi hne => by rw [done_at hi (by omega), if_neg hne]
    refine ⟨k + 1, ?_, ?_⟩
    · unfold left at hk ⊢
      obtain rfl | rfl | rfl : h = 0 ∨ h = 1 ∨ h = 2 := by omega
      · rw [e 1 (by omega) (by omega), e 2 (by omega) (by omega)]
        generalize done f 0 (line p f 0) 0 = x at *
        repeat' split at hk
        all_goals repeat' split
        all_goals omega
      · rw [e 0 (by omega) (by omega), e 2 (by omega) (by omega)]
        generalize done f 1 (line p f 1) 1 = x at *
        repeat' split at hk
        all_goals repeat' split
        all_goals omega
      · rw [e 0 (by omega) (by omega), e 1 (by omega) (by omega)]
        generalize done f 2 (line p f 2) 2 = x at *
        repeat' split at hk
        all_goals repeat' split
        all_goals omega
    · exact List.mem_flatMap.2 ⟨f, hm2, List.mem_map.2 ⟨h, by simpa using hh, rfl⟩⟩
def cov (p : List (List Ln)) : List (List Int) := ((List.range 16).flatMap (level p)).map vec
theorem cov_len {p : List (List Ln)} (h : 1 ≤ p.length ∧ p.length ≤ 3) : (cov p).length ≤ 21523360 := by
  unfold cov
  rw [List.length_map, List.length_flatMap]
  have e : (fun a => (level p a).length) = fun a => p.length ^ a := funext (level_len p)
  rw [e]
  obtain h1 | h1 | h1 : p.length = 1 ∨ p.length = 2 ∨ p.length = 3 := by omega
  all_goals rw [h1]; decide
theorem mem_cov {words : Int} {p : List (List Ln)} (hf : Fine words p) {v : List Int} (h : Bfs.Reach (vec St.zero) (succ p) v) : v ∈ cov p := by
  obtain ⟨f, hr, rfl⟩ := (reach_iff hf).1 h
  obtain ⟨k, hk, hm⟩ := hr.level hf
  have := left_pos f
  exact List.mem_map.2 ⟨f, List.mem_flatMap.2 ⟨k, by simp; omega, hm⟩, rfl⟩
theorem bound {words : Int} {p : List (List Ln)} (hf : Fine words p) {l : List (List Int)} {i : Nat} (h : Bfs.Inv (vec St.zero) (succ p) l i) : l.length ≤ 21523360 :=
  Nat.le_trans (h.bound (fun a ha => mem_cov hf ha)) (cov_len hf.n)

/-! What comes of it. -/
def resV (words : Int) (p : List (List Ln)) (v : List Int) : List Int := result words p (fn v)
def outs (words : Int) (p : List (List Ln)) (l : List (List Int)) (i : Nat) : List (List Int) := ((l.take i).filter (fun v => succ p v == [])).map (resV words p)
theorem outs_zero (words : Int) (p : List (List Ln)) (l : List (List Int)) : outs words p l 0 = [] := by simp [outs]
theorem outs_next {words : Int} {p : List (List Ln)} {l xs : List (List Int)} {i : Nat} {v : List Int} (h : l[i]? = some v) : outs words p (Bfs.addAll l xs) (i + 1) = outs words p l i ++ (if succ p v = [] then [resV words p v] else []) := by
  have hi := (List.getElem?_eq_some_iff.1 h).1
  unfold outs
  rw [Bfs.addAll_take (by omega), List.take_add_one, h]
  simp only [Option.toList_some, List.filter_append, List.map_append]
  congr 1
  by_cases e : succ p v = []
  · simp [e]
  · simp [e]
theorem outs_len (words : Int) (p : List (List Ln)) (l : List (List Int)) (i : Nat) : (outs words p l i).length ≤ l.length := by
  unfold outs
  rw [List.length_map]
  refine Nat.le_trans (List.length_filter_le _ _) ?_
  rw [List.length_take]; omega
/-- What a program may end with. -/
def Ends (words : Int) (p : List (List Ln)) (x : List Int) : Prop := ∃ f, Reach p f ∧ Term p f ∧ x = result words p f
theorem term_iff {words : Int} {p : List (List Ln)} (hf : Fine words p) {f : St} (hr : Reach p f) : succ p (vec f) = [] ↔ Term p f := by
  unfold succ
  rw [succTo_nil, fn_vec (hr.fine hf).2]
  exact Iff.rfl
theorem outs_mem {words : Int} {p : List (List Ln)} (hf : Fine words p) {l : List (List Int)} (h : Bfs.Inv (vec St.zero) (succ p) l l.length) {x : List Int} : x ∈ outs words p l l.length ↔ Ends words p x := by
  unfold outs
  rw [List.take_length, List.mem_map]
  constructor
  · rintro ⟨v, hv, rfl⟩
    obtain ⟨h1, h2⟩ := List.mem_filter.1 hv
    obtain ⟨f, hr, rfl⟩ := (reach_iff hf).1 (h.all.1 h1)
    exact ⟨f, hr, (term_iff hf hr).1 (by simpa using h2), by unfold resV; rw [fn_vec (hr.fine hf).2]⟩
  · rintro ⟨f, hr, ht, rfl⟩
    refine ⟨vec f, List.mem_filter.2 ⟨h.all.2 ((reach_iff hf).2 ⟨f, hr, rfl⟩), by simpa using (term_iff hf hr).2 ht⟩, by unfold resV; rw [fn_vec (hr.fine hf).2]⟩

/-! Races. -/
def touches (l : Ln) : Bool := decide (1 ≤ l.k) && decide (l.k ≤ 3)
def clash (x y : Ln) : Bool := touches x && touches y && (x.w == y.w) && (!(x.k == 1) || !(y.k == 1)) && (!(x.k == 3) || !(y.k == 3))
def ClashAt (p : List (List Ln)) (f : St) : Prop := ∃ a b, b < a ∧ a < p.length ∧ more p f a = true ∧ more p f b = true ∧ clash (line p f a) (line p f b) = true
def Races (p : List (List Ln)) : Prop := ∃ f, Reach p f ∧ ClashAt p f
theorem races_no {words : Int} {p : List (List Ln)} (hf : Fine words p) {l : List (List Int)} (h : Bfs.Inv (vec St.zero) (succ p) l l.length) (hc : ∀ v ∈ l, ¬ ClashAt p (fn v)) : ¬ Races p := by
  rintro ⟨f, hr, hx⟩
  have := hc (vec f) (h.all.2 ((reach_iff hf).2 ⟨f, hr, rfl⟩))
  rw [fn_vec (hr.fine hf).2] at this
  exact this hx
theorem races_yes {words : Int} {p : List (List Ln)} (hf : Fine words p) {l : List (List Int)} {i : Nat} (h : Bfs.Inv (vec St.zero) (succ p) l i) {v : List Int} (hv : v ∈ l) (hc : ClashAt p (fn v)) : Races p := by
  obtain ⟨f, hr, rfl⟩ := (reach_iff hf).1 (h.reach v hv)
  rw [fn_vec (hr.fine hf).2] at hc
  exact ⟨f, hr, hc⟩
end Go.Proofs.YtimbdjmplcgilaaDoor.Sc
