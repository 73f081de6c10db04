import Derived.Test.YtimbdjmplcgilaaDoorScLaw
namespace Go.Proofs.YtimbdjmplcgilaaDoor.Tso
open Pr
set_option linter.unusedVariables false
set_option linter.unusedSimpArgs false

/-! Programs whose stores wait: each hand has its line, two registers, and what it stored and nobody has seen. -/
structure Loc where
  at' : Int
  r0 : Int
  r1 : Int
  b : List (Int × Int)
def Loc.zero : Loc := ⟨0, 0, 0, []⟩
structure TS where
  m : Nat → Int
  l : Nat → Loc
def TS.zero : TS := ⟨fun _ => 0, fun _ => Loc.zero⟩
/-- What is seen through what waits. -/
def look (b : List (Int × Int)) (d w : Int) : Int := b.foldl (fun a x => if x.1 = w then x.2 else a) d
theorem look_nil (d w : Int) : look [] d w = d := rfl
theorem look_cons (x : Int × Int) (r : List (Int × Int)) (d w : Int) : look (x :: r) d w = look r (if x.1 = w then x.2 else d) w := rfl
theorem look_snoc (x : Int × Int) (r : List (Int × Int)) (d w : Int) : look (r ++ [x]) d w = if x.1 = w then x.2 else look r d w := by simp [look]
def rg (x : Loc) (l : Ln) : Int := if 0 < l.r then x.r1 else x.r0
def setr (x : Loc) (l : Ln) (v : Int) : Loc := if 0 < l.r then { x with r1 := v } else { x with r0 := v }
/-- A hand's own part of a line. -/
def lstep (m : Nat → Int) (x : Loc) (l : Ln) : Loc :=
  if l.k = 0 then setr { x with at' := x.at' + 1 } l l.v
  else if l.k = 1 then setr { x with at' := x.at' + 1 } l (look x.b (m l.w.toNat) l.w)
  else if l.k = 2 then { x with at' := x.at' + 1, b := x.b ++ [(l.w, rg x l)] }
  else if l.k = 3 then setr { x with at' := x.at' + 1 } l (m l.w.toNat)
  else if l.k = 5 ∧ rg x l = 0 then { x with at' := x.at' + 1 + l.v }
  else { x with at' := x.at' + 1 }
/-- The words' part. -/
def mstep (m : Nat → Int) (x : Loc) (l : Ln) : Nat → Int := if l.k = 3 then upd m l.w.toNat (rg x l) else m
def put (f : Nat → Loc) (h : Nat) (x : Loc) : Nat → Loc := fun k => if k = h then x else f k
theorem put_same (f : Nat → Loc) (h : Nat) (x : Loc) : put f h x h = x := by simp [put]
theorem put_other {f : Nat → Loc} {h k : Nat} {x : Loc} (e : k ≠ h) : put f h x k = f k := by simp [put, e]
theorem put_put (f : Nat → Loc) (h : Nat) (x y : Loc) : put (put f h x) h y = put f h y := by
  funext k; unfold put; split <;> rfl
theorem put_self (f : Nat → Loc) (h : Nat) : put f h (f h) = f := by
  funext k; unfold put; split
  · subst_vars; rfl
  · rfl
def nxt (p : List (List Ln)) (h : Nat) (x : Loc) : Ln := (lines p h).getD x.at'.toNat Ln.zero
def mor (p : List (List Ln)) (h : Nat) (x : Loc) : Bool := decide (x.at' < ((lines p h).length : Int))
/-- The hand may do its next line. -/
def can (p : List (List Ln)) (h : Nat) (x : Loc) : Bool := mor p h x && (x.b.isEmpty || !((nxt p h x).k == 3 || (nxt p h x).k == 4))
def step (p : List (List Ln)) (s : TS) (h : Nat) : TS := ⟨mstep s.m (s.l h) (nxt p h (s.l h)), put s.l h (lstep s.m (s.l h) (nxt p h (s.l h)))⟩
/-- What waited longest is seen. -/
def flush (s : TS) (h : Nat) : TS := match (s.l h).b with
  | [] => s
  | x :: r => ⟨upd s.m x.1.toNat x.2, put s.l h { s.l h with b := r }⟩
theorem flush_cons {s : TS} {h : Nat} {x : Int × Int} {r : List (Int × Int)} (e : (s.l h).b = x :: r) : flush s h = ⟨upd s.m x.1.toNat x.2, put s.l h { s.l h with b := r }⟩ := by
  unfold flush; rw [e]
inductive Reach (p : List (List Ln)) : TS → Prop
  | zero : Reach p TS.zero
  | step {s : TS} {h : Nat} : Reach p s → h < p.length → can p h (s.l h) = true → Reach p (step p s h)
  | flush {s : TS} {h : Nat} : Reach p s → h < p.length → (s.l h).b ≠ [] → Reach p (flush s h)
def Term (p : List (List Ln)) (s : TS) : Prop := ∀ h, h < p.length → mor p h (s.l h) = false ∧ (s.l h).b = []

/-! A state as sixty numbers. -/
def enc (s : TS) : St := fun j =>
  if j < 4 then (s.l j).at'
  else if j < 12 then (if (j - 4) % 2 = 0 then (s.l ((j - 4) / 2)).r0 else (s.l ((j - 4) / 2)).r1)
  else if j < 16 then s.m (j - 12)
  else if j < 56 then (if (j - 16) % 2 = 0 then ((s.l ((j - 16) / 10)).b.getD ((j - 16) % 10 / 2) (0, 0)).1 else ((s.l ((j - 16) / 10)).b.getD ((j - 16) % 10 / 2) (0, 0)).2)
  else if j < 60 then ((s.l (j - 56)).b.length : Int)
  else 0
theorem enc_at (s : TS) {h : Nat} (hh : h < 4) : enc s h = (s.l h).at' := by simp [enc, hh]
theorem enc_r0 (s : TS) {h : Nat} (hh : h < 4) : enc s (4 + h * 2) = (s.l h).r0 := by
  unfold enc
  rw [if_neg (by omega), if_pos (by omega), if_pos (by omega), show (4 + h * 2 - 4) / 2 = h by omega]
theorem enc_r1 (s : TS) {h : Nat} (hh : h < 4) : enc s (4 + h * 2 + 1) = (s.l h).r1 := by
  unfold enc
  rw [if_neg (by omega), if_pos (by omega), if_neg (by omega), show (4 + h * 2 + 1 - 4) / 2 = h by omega]
theorem enc_reg (s : TS) {h : Nat} (hh : h < 4) (l : Ln) : enc s (reg h l) = rg (s.l h) l := by
  unfold reg rg
  split
  · exact enc_r1 s hh
  · exact enc_r0 s hh
theorem enc_word (s : TS) {w : Nat} (hw : w < 4) : enc s (12 + w) = s.m w := by
  unfold enc
  rw [if_neg (by omega), if_neg (by omega), if_pos (by omega), show 12 + w - 12 = w by omega]
theorem enc_bw (s : TS) {h i : Nat} (hh : h < 4) (hi : i < 5) : enc s (16 + h * 10 + i * 2) = ((s.l h).b.getD i (0, 0)).1 := by
  unfold enc
  rw [if_neg (by omega), if_neg (by omega), if_neg (by omega), if_pos (by omega), if_pos (by omega), show (16 + h * 10 + i * 2 - 16) / 10 = h by omega, show (16 + h * 10 + i * 2 - 16) % 10 / 2 = i by omega]
theorem enc_bv (s : TS) {h i : Nat} (hh : h < 4) (hi : i < 5) : enc s (16 + h * 10 + i * 2 + 1) = ((s.l h).b.getD i (0, 0)).2 := by
  unfold enc
  rw [if_neg (by omega), if_neg (by omega), if_neg (by omega), if_pos (by omega), if_neg (by omega), show (16 + h * 10 + i * 2 + 1 - 16) / 10 = h by omega, show (16 + h * 10 + i * 2 + 1 - 16) % 10 / 2 = i by omega]
theorem enc_many (s : TS) {h : Nat} (hh : h < 4) : enc s (56 + h) = ((s.l h).b.length : Int) := by
  unfold enc
  rw [if_neg (by omega), if_neg (by omega), if_neg (by omega), if_neg (by omega), if_pos (by omega), show 56 + h - 56 = h by omega]
/-- Each of the numbers is one of these. -/
theorem cell_cases {j : Nat} (hj : j < 60) : j < 4 ∨ (∃ h, h < 4 ∧ (j = 4 + h * 2 ∨ j = 4 + h * 2 + 1)) ∨ (∃ w, w < 4 ∧ j = 12 + w) ∨ (∃ h i, h < 4 ∧ i < 5 ∧ (j = 16 + h * 10 + i * 2 ∨ j = 16 + h * 10 + i * 2 + 1)) ∨ ∃ h, h < 4 ∧ j = 56 + h := by
  by_cases a : j < 4
  · exact .inl a
  · by_cases b : j < 12
    · exact .inr (.inl ⟨(j - 4) / 2, by omega, by omega⟩)
    · by_cases c : j < 16
      · exact .inr (.inr (.inl ⟨j - 12, by omega, by omega⟩))
      · by_cases d : j < 56
        · exact .inr (.inr (.inr (.inl ⟨(j - 16) / 10, (j - 16) % 10 / 2, by omega, by omega, by omega⟩)))
        · exact .inr (.inr (.inr (.inr ⟨j - 56, by omega, by omega⟩)))
theorem enc_out (s : TS) {j : Nat} (hj : 60 ≤ j) : enc s j = 0 := by
  unfold enc
  rw [if_neg (by omega), if_neg (by omega), if_neg (by omega), if_neg (by omega), if_neg (by omega)]
theorem enc_zero : enc TS.zero = St.zero := by
  funext j
  unfold enc TS.zero Loc.zero St.zero
  simp

/-! What is true of each state. -/
structure Ok (words : Int) (p : List (List Ln)) (s : TS) : Prop where
  at0 : ∀ h, 0 ≤ (s.l h).at' ∧ (s.l h).at' ≤ 10
  many : ∀ h, ((s.l h).b.length : Int) ≤ (s.l h).at' ∧ (s.l h).b.length ≤ 5
  wb : ∀ h, ∀ x ∈ (s.l h).b, 0 ≤ x.1 ∧ x.1 ≤ words - 1
  far : ∀ h, p.length ≤ h → s.l h = Loc.zero
  mem : ∀ j, 4 ≤ j → s.m j = 0
theorem ok_zero (words : Int) (p : List (List Ln)) : Ok words p TS.zero :=
  ⟨fun h => by simp [TS.zero, Loc.zero], fun h => by simp [TS.zero, Loc.zero], fun h x hx => by simp [TS.zero, Loc.zero] at hx, fun _ _ => rfl, fun _ _ => rfl⟩
theorem nxt_good {words : Int} {p : List (List Ln)} (hf : Fine words p) {h : Nat} {x : Loc} (h0 : 0 ≤ x.at') (hm : mor p h x = true) : Good words (nxt p h x) := by
  unfold mor at hm
  simp at hm
  have : x.at'.toNat < (lines p h).length := by omega
  refine (hf.lines h).2 _ ?_
  unfold nxt
  rw [List.getD_eq_getElem?_getD, List.getElem?_eq_getElem this]
  exact List.getElem_mem _
theorem can_mor {p : List (List Ln)} {h : Nat} {x : Loc} (hc : can p h x = true) : mor p h x = true := by
  unfold can at hc; simp only [Bool.and_eq_true] at hc; exact hc.1
theorem setr_at (x : Loc) (l : Ln) (v : Int) : (setr x l v).at' = x.at' := by unfold setr; split <;> rfl
theorem setr_b (x : Loc) (l : Ln) (v : Int) : (setr x l v).b = x.b := by unfold setr; split <;> rfl
theorem lstep_at (m : Nat → Int) (x : Loc) (l : Ln) : (lstep m x l).at' = if l.k = 5 ∧ rg x l = 0 then x.at' + 1 + l.v else x.at' + 1 := by
  unfold lstep
  by_cases k5 : l.k = 5 ∧ rg x l = 0
  · rw [if_neg (by omega), if_neg (by omega), if_neg (by omega), if_neg (by omega), if_pos k5, if_pos k5]
  · rw [if_neg k5, if_neg k5]
    repeat' split
    all_goals simp [setr_at]
theorem lstep_b (m : Nat → Int) (x : Loc) (l : Ln) : (lstep m x l).b = if l.k = 2 then x.b ++ [(l.w, rg x l)] else x.b := by
  unfold lstep
  by_cases k2 : l.k = 2
  · rw [if_neg (by omega), if_neg (by omega), if_pos k2, if_pos k2]
  · rw [if_neg k2, if_neg k2]
    repeat' split
    all_goals simp [setr_b]
theorem Ok.step {words : Int} {p : List (List Ln)} (hf : Fine words p) {s : TS} (h : Ok words p s) {k : Nat} (hk : k < p.length) (hc : can p k (s.l k) = true) : Ok words p (step p s k) := by
  have hm := can_mor hc
  have hg := nxt_good hf (h.at0 k).1 hm
  have ha := h.at0 k
  have hb := h.many k
  have hw := hf.w
  have hl := (hf.lines k).1
  have hlt : (s.l k).at' < 5 := by unfold mor at hm; simp at hm; omega
  have e : ∀ i, (Tso.step p s k).l i = if i = k then lstep s.m (s.l k) (nxt p k (s.l k)) else s.l i := fun i => rfl
  generalize hl' : nxt p k (s.l k) = l at *
  refine ⟨fun i => ?_, fun i => ?_, fun i => ?_, fun i hi => ?_, fun j hj => ?_⟩
  · rw [e]; split
    · rw [lstep_at]; split
      · have := hg.v5 (by omega); omega
      · omega
    · exact h.at0 i
  · rw [e]; split
    · rw [lstep_at, lstep_b]
      by_cases k2 : l.k = 2
      · rw [if_neg (show ¬ (l.k = 5 ∧ rg (s.l k) l = 0) by omega), if_pos k2]
        simp only [List.length_append, List.length_cons, List.length_nil]; omega
      · rw [if_neg k2]
        split
        · have := hg.v5 (by omega); omega
        · omega
    · exact h.many i
  · rw [e]; split
    · rw [lstep_b]; split
      · intro x hx
        rcases List.mem_append.1 hx with hx | hx
        · exact h.wb k x hx
        · simp at hx; subst hx; exact hg.w (by omega) (by omega)
      · exact h.wb k
    · exact h.wb i
  · rw [e, if_neg (by omega)]; exact h.far i hi
  · show mstep s.m (s.l k) (nxt p k (s.l k)) j = 0
    rw [hl']
    unfold mstep; split
    · have := hg.w (by omega) (by omega)
      rw [upd_other (by omega)]; exact h.mem j hj
    · exact h.mem j hj
theorem Ok.flush {words : Int} {p : List (List Ln)} (hf : Fine words p) {s : TS} (h : Ok words p s) {k : Nat} (hk : k < p.length) : Ok words p (flush s k) := by
  cases hb : (s.l k).b with
  | nil => unfold Tso.flush; rw [hb]; exact h
  | cons x r =>
    rw [flush_cons hb]
    have hw := hf.w
    have hx := h.wb k x (by rw [hb]; simp)
    have hm := h.many k
    rw [hb] at hm
    simp only [List.length_cons] at hm
    refine ⟨fun i => ?_, fun i => ?_, fun i => ?_, fun i hi => ?_, fun j hj => ?_⟩
    · show 0 ≤ (put _ _ _ i).at' ∧ (put _ _ _ i).at' ≤ 10
      unfold put; split
      · subst_vars; exact h.at0 _
      · exact h.at0 i
    · show ((put _ _ _ i).b.length : Int) ≤ (put _ _ _ i).at' ∧ (put _ _ _ i).b.length ≤ 5
      unfold put; split
      · simp only; omega
      · exact h.many i
    · show ∀ y ∈ (put _ _ _ i).b, _
      unfold put; split
      · intro y hy; exact h.wb k y (by rw [hb]; simp only at hy; simp [hy])
      · exact h.wb i
    · show put _ _ _ i = _
      rw [put_other (by omega)]; exact h.far i hi
    · show upd _ _ _ j = 0
      rw [upd_other (by omega)]; exact h.mem j hj
theorem Reach.ok {words : Int} {p : List (List Ln)} (hf : Fine words p) {s : TS} (h : Reach p s) : Ok words p s := by
  induction h with
  | zero => exact ok_zero _ _
  | step hr hh hc ih => exact ih.step hf hh hc
  | flush hr hh hb ih => exact ih.flush hf hh

/-! The numbers and back. -/
def vec (s : TS) : List Int := (List.range 60).map (enc s)
def dec (v : List Int) : TS :=
  ⟨fun j => if j < 4 then v.getD (12 + j) 0 else 0,
   fun h => if h < 4 then ⟨v.getD h 0, v.getD (4 + h * 2) 0, v.getD (4 + h * 2 + 1) 0, (List.range (v.getD (56 + h) 0).toNat).map fun i => (v.getD (16 + h * 10 + i * 2) 0, v.getD (16 + h * 10 + i * 2 + 1) 0)⟩ else Loc.zero⟩
theorem vec_len (s : TS) : (vec s).length = 60 := by simp [vec]
theorem vec_at (s : TS) {j : Nat} (hj : j < 60) : (vec s).getD j 0 = enc s j := by simp [vec, List.getD_eq_getElem?_getD, hj]
theorem loc_ext {x y : Loc} (h1 : x.at' = y.at') (h2 : x.r0 = y.r0) (h3 : x.r1 = y.r1) (h4 : x.b = y.b) : x = y := by
  cases x; cases y; simp_all
theorem dec_vec {words : Int} {p : List (List Ln)} (hn : p.length ≤ 3) {s : TS} (h : Ok words p s) : dec (vec s) = s := by
  have e1 : (dec (vec s)).m = s.m := by
    funext j
    show (if j < 4 then (vec s).getD (12 + j) 0 else 0) = _
    split
    · rw [vec_at s (by omega), enc_word s (by assumption)]
    · exact (h.mem j (by omega)).symm
  have e2 : (dec (vec s)).l = s.l := by
    funext k
    show (if k < 4 then _ else Loc.zero) = _
    split
    · rename_i hk
      apply loc_ext
      · show (vec s).getD k 0 = _
        rw [vec_at s (by omega), enc_at s hk]
      · show (vec s).getD (4 + k * 2) 0 = _
        rw [vec_at s (by omega), enc_r0 s hk]
      · show (vec s).getD (4 + k * 2 + 1) 0 = _
        rw [vec_at s (by omega), enc_r1 s hk]
      · show (List.range ((vec s).getD (56 + k) 0).toNat).map _ = _
        rw [vec_at s (by omega), enc_many s hk]
        have hm := (h.many k).2
        apply List.ext_getElem
        · simp
        · intro i h1 h2
          simp only [List.getElem_map, List.getElem_range]
          rw [vec_at s (by omega), vec_at s (by omega), enc_bw s hk (by omega), enc_bv s hk (by omega)]
          simp [List.getD_eq_getElem?_getD, h2]
    · exact (h.far k (by omega)).symm
  calc dec (vec s) = ⟨(dec (vec s)).m, (dec (vec s)).l⟩ := rfl
    _ = s := by rw [e1, e2]
def succ1 (p : List (List Ln)) (v : List Int) (h : Nat) : List (List Int) :=
  (if can p h ((dec v).l h) then [vec (step p (dec v) h)] else []) ++ (if ((dec v).l h).b.isEmpty then [] else [vec (flush (dec v) h)])
def succTo (p : List (List Ln)) (v : List Int) (k : Nat) : List (List Int) := (List.range k).flatMap (succ1 p v)
def succ (p : List (List Ln)) (v : List Int) : List (List Int) := succTo p v p.length
theorem succTo_succ (p : List (List Ln)) (v : List Int) (k : Nat) : succTo p v (k + 1) = succTo p v k ++ succ1 p v k := by simp [succTo, List.range_succ]
theorem succTo_mem {p : List (List Ln)} {v b : List Int} {k : Nat} (hk : k ≤ p.length) (h : b ∈ succTo p v k) : b ∈ succ p v := by
  unfold succTo at h
  obtain ⟨i, hi, hb⟩ := List.mem_flatMap.1 h
  exact List.mem_flatMap.2 ⟨i, by simp at hi ⊢; omega, hb⟩
theorem mem_succ {p : List (List Ln)} {v b : List Int} : b ∈ succ p v ↔ ∃ h, h < p.length ∧ ((can p h ((dec v).l h) = true ∧ b = vec (step p (dec v) h)) ∨ (((dec v).l h).b ≠ [] ∧ b = vec (flush (dec v) h))) := by
  unfold succ succTo
  rw [List.mem_flatMap]
  constructor
  · rintro ⟨h, hh, hb⟩
    refine ⟨h, by simpa using hh, ?_⟩
    unfold succ1 at hb
    rcases List.mem_append.1 hb with hb | hb
    · split at hb
      · exact .inl ⟨by assumption, by simpa using hb⟩
      · simp at hb
    · split at hb
      · simp at hb
      · exact .inr ⟨by simp_all, by simpa using hb⟩
  · rintro ⟨h, hh, hx⟩
    refine ⟨h, by simpa using hh, ?_⟩
    unfold succ1
    rcases hx with ⟨h1, rfl⟩ | ⟨h1, rfl⟩
    · rw [if_pos h1]; simp
    · rw [if_neg (show ¬ ((dec v).l h).b.isEmpty = true by simpa using h1)]; simp
theorem succ1_nil {p : List (List Ln)} {v : List Int} {h : Nat} : succ1 p v h = [] ↔ mor p h ((dec v).l h) = false ∧ ((dec v).l h).b = [] := by
  unfold succ1
  rw [List.append_eq_nil_iff]
  constructor
  · rintro ⟨h1, h2⟩
    have hb : ((dec v).l h).b = [] := by
      split at h2
      · simp_all
      · simp at h2
    refine ⟨?_, hb⟩
    split at h1
    · simp at h1
    · rename_i hc
      unfold can at hc
      rw [hb] at hc
      simpa using hc
  · rintro ⟨h1, h2⟩
    constructor
    · rw [if_neg]; unfold can; rw [h1]; simp
    · rw [h2]; simp
theorem succ_nil {p : List (List Ln)} {v : List Int} : succ p v = [] ↔ Term p (dec v) := by
  unfold succ succTo Term
  rw [List.flatMap_eq_nil_iff]
  constructor
  · intro h i hi
    exact succ1_nil.1 (h i (by simpa using hi))
  · intro h i hi
    exact succ1_nil.2 (h i (by simpa using hi))
theorem reach_iff {words : Int} {p : List (List Ln)} (hf : Fine words p) {v : List Int} : Bfs.Reach (vec TS.zero) (succ p) v ↔ ∃ s, Reach p s ∧ v = vec s := by
  have hn := hf.n.2
  constructor
  · intro h
    induction h with
    | zero => exact ⟨_, .zero, rfl⟩
    | step _ hb ih =>
      obtain ⟨s, hr, rfl⟩ := ih
      obtain ⟨h, hh, hx⟩ := mem_succ.1 hb
      rw [dec_vec hn (hr.ok hf)] at hx
      rcases hx with ⟨hc, rfl⟩ | ⟨hc, rfl⟩
      · exact ⟨_, .step hr hh hc, rfl⟩
      · exact ⟨_, .flush hr hh hc, rfl⟩
  · rintro ⟨s, hr, rfl⟩
    induction hr with
    | zero => exact .zero
    | step hr hh hc ih =>
      refine .step ih (mem_succ.2 ⟨_, hh, .inl ?_⟩)
      rw [dec_vec hn (hr.ok hf)]; exact ⟨hc, rfl⟩
    | flush hr hh hc ih =>
      refine .step ih (mem_succ.2 ⟨_, hh, .inr ?_⟩)
      rw [dec_vec hn (hr.ok hf)]; exact ⟨hc, rfl⟩

/-! What comes of it. -/
def resV (words : Int) (p : List (List Ln)) (v : List Int) : List Int := result words p (enc (dec v))
def outs (words : Int) (p : List (List Ln)) (l : List (List Int)) (i : Nat) : List (List Int) := ((l.take i).filter (fun v => succ p v == [])).map (resV words p)
theorem outs_zero (words : Int) (p : List (List Ln)) (l : List (List Int)) : outs words p l 0 = [] := by simp [outs]
theorem outs_next {words : Int} {p : List (List Ln)} {l xs : List (List Int)} {i : Nat} {v : List Int} (h : l[i]? = some v) : outs words p (Bfs.addAll l xs) (i + 1) = outs words p l i ++ (if succ p v = [] then [resV words p v] else []) := by
  have hi := (List.getElem?_eq_some_iff.1 h).1
  unfold outs
  rw [Bfs.addAll_take (by omega), List.take_add_one, h]
  simp only [Option.toList_some, List.filter_append, List.map_append]
  congr 1
  by_cases e : succ p v = []
  · simp [e]
  · simp [e]
theorem outs_len (words : Int) (p : List (List Ln)) (l : List (List Int)) (i : Nat) : (outs words p l i).length ≤ l.length := by
  unfold outs
  rw [List.length_map]
  refine Nat.le_trans (List.length_filter_le _ _) ?_
  rw [List.length_take]; omega
def Ends (words : Int) (p : List (List Ln)) (x : List Int) : Prop := ∃ s, Reach p s ∧ Term p s ∧ x = result words p (enc s)
theorem outs_mem {words : Int} {p : List (List Ln)} (hf : Fine words p) {l : List (List Int)} (h : Bfs.Inv (vec TS.zero) (succ p) l l.length) {x : List Int} : x ∈ outs words p l l.length ↔ Ends words p x := by
  have hn := hf.n.2
  unfold outs
  rw [List.take_length, List.mem_map]
  constructor
  · rintro ⟨v, hv, rfl⟩
    obtain ⟨h1, h2⟩ := List.mem_filter.1 hv
    obtain ⟨s, hr, rfl⟩ := (reach_iff hf).1 (h.all.1 h1)
    have h3 := succ_nil.1 (show succ p (vec s) = [] by simpa using h2)
    rw [dec_vec hn (hr.ok hf)] at h3
    exact ⟨s, hr, h3, by unfold resV; rw [dec_vec hn (hr.ok hf)]⟩
  · rintro ⟨s, hr, ht, rfl⟩
    have h3 : succ p (vec s) = [] := succ_nil.2 (by rw [dec_vec hn (hr.ok hf)]; exact ht)
    exact ⟨vec s, List.mem_filter.2 ⟨h.all.2 ((reach_iff hf).2 ⟨s, hr, rfl⟩), by simpa using h3⟩, by unfold resV; rw [dec_vec hn (hr.ok hf)]⟩
/-- All outcomes, rising, each once. -/
structure Res (words : Int) (p : List (List Ln)) (R : List (List Int)) : Prop where
  rise : Bfs.Rise R
  mem : ∀ x, x ∈ R ↔ Ends words p x
theorem Res.one {words : Int} {p : List (List Ln)} {R S : List (List Int)} (h : Res words p R) (k : Res words p S) : R = S :=
  Bfs.Rise.one h.rise k.rise (fun x => by rw [h.mem, k.mem])
end Go.Proofs.YtimbdjmplcgilaaDoor.Tso
namespace Go.Proofs.YtimbdjmplcgilaaDoor.Tso
open Pr
set_option linter.unusedVariables false
set_option linter.unusedSimpArgs false

/-! How many states there are at most: each comes from what the words saw, and then lines that touch no word. -/
/-- The next line touches no word. -/
def isLoc (p : List (List Ln)) (h : Nat) (x : Loc) : Bool :=
  mor p h x && !((nxt p h x).k == 1) && !((nxt p h x).k == 3) && (!((nxt p h x).k == 4) || x.b.isEmpty)
def lo (p : List (List Ln)) (h : Nat) (x : Loc) : Loc := if isLoc p h x then lstep (fun _ => 0) x (nxt p h x) else x
def trl (p : List (List Ln)) (h : Nat) : Nat → Loc → Loc
  | 0, x => x
  | n + 1, x => lo p h (trl p h n x)
/-- .. until something waits. -/
def trF (p : List (List Ln)) (h : Nat) : Nat → Loc → Loc
  | 0, x => x
  | n + 1, x => if (trF p h n x).b = [] then lo p h (trF p h n x) else trF p h n x
def tr (p : List (List Ln)) (t : Nat → Nat) (s : TS) : TS := ⟨s.m, fun h => trl p h (t h) (s.l h)⟩
def doL (p : List (List Ln)) (h : Nat) (s : TS) : TS := step p ⟨s.m, put s.l h (trl p h 5 (s.l h))⟩ h
def doF (p : List (List Ln)) (h : Nat) (s : TS) : TS := flush ⟨s.m, put s.l h (trF p h 5 (s.l h))⟩ h
theorem trl_stay {p : List (List Ln)} {h : Nat} {x : Loc} (hx : isLoc p h x = false) : ∀ n, trl p h n x = x
  | 0 => rfl
  | n + 1 => by unfold trl; rw [trl_stay hx n]; unfold lo; rw [if_neg (by rw [hx]; simp)]
theorem trl_add (p : List (List Ln)) (h a : Nat) (x : Loc) : ∀ n, trl p h (a + n) x = trl p h n (trl p h a x)
  | 0 => rfl
  | n + 1 => by
    show lo p h (trl p h (a + n) x) = lo p h (trl p h n (trl p h a x))
    rw [trl_add p h a x n]
theorem trl_one (p : List (List Ln)) (h n : Nat) (x : Loc) : trl p h (n + 1) x = trl p h n (lo p h x) := by
  rw [Nat.add_comm, trl_add]; rfl
theorem lstep_loc {m m' : Nat → Int} {x : Loc} {l : Ln} (h1 : l.k ≠ 1) (h3 : l.k ≠ 3) : lstep m x l = lstep m' x l := by
  unfold lstep; rw [if_neg h1, if_neg h1, if_neg h3, if_neg h3]
theorem isLoc_all {p : List (List Ln)} {h : Nat} {x : Loc} (hx : isLoc p h x = true) : mor p h x = true ∧ (nxt p h x).k ≠ 1 ∧ (nxt p h x).k ≠ 3 ∧ ((nxt p h x).k = 4 → x.b = []) := by
  unfold isLoc at hx
  simp only [Bool.and_eq_true, Bool.not_eq_true', beq_eq_false_iff_ne, Bool.or_eq_true, List.isEmpty_iff] at hx
  obtain ⟨⟨⟨h1, h2⟩, h3⟩, h4⟩ := hx
  exact ⟨h1, h2, h3, fun e => h4.resolve_left (fun c => c e)⟩
theorem isLoc_of {p : List (List Ln)} {h : Nat} {x : Loc} (h1 : mor p h x = true) (h2 : (nxt p h x).k ≠ 1) (h3 : (nxt p h x).k ≠ 3) (h4 : (nxt p h x).k = 4 → x.b = []) : isLoc p h x = true := by
  unfold isLoc
  simp only [Bool.and_eq_true, Bool.not_eq_true', beq_eq_false_iff_ne, Bool.or_eq_true, List.isEmpty_iff]
  refine ⟨⟨⟨h1, h2⟩, h3⟩, ?_⟩
  by_cases e : (nxt p h x).k = 4
  · exact .inr (h4 e)
  · exact .inl e
theorem lo_yes {p : List (List Ln)} {h : Nat} {x : Loc} (hx : isLoc p h x = true) (m : Nat → Int) : lo p h x = lstep m x (nxt p h x) := by
  unfold lo; rw [if_pos hx]
  have := isLoc_all hx
  exact lstep_loc this.2.1 this.2.2.1
theorem lo_b {p : List (List Ln)} {h : Nat} (x : Loc) : ∃ t, (lo p h x).b = x.b ++ t ∧ t.length ≤ 1 := by
  unfold lo; split
  · rw [lstep_b]; split
    · exact ⟨_, rfl, by simp⟩
    · exact ⟨[], by simp, by simp⟩
  · exact ⟨[], by simp, by simp⟩
theorem trl_b {p : List (List Ln)} {h : Nat} (x : Loc) : ∀ n, ∃ t, (trl p h n x).b = x.b ++ t ∧ t.length ≤ n
  | 0 => ⟨[], by simp [trl], by simp⟩
  | n + 1 => by
    obtain ⟨t, h1, h2⟩ := trl_b x n
    obtain ⟨u, h3, h4⟩ := lo_b (p := p) (h := h) (trl p h n x)
    exact ⟨t ++ u, by show (lo p h _).b = _; rw [h3, h1, List.append_assoc], by simp; omega⟩
/-- What is popped makes no difference to lines that touch no word. -/
def pop (x : Loc) : Loc := { x with b := x.b.drop 1 }
theorem pop_step {m : Nat → Int} {x : Loc} {l : Ln} (h1 : l.k ≠ 1) (hb : x.b ≠ []) : lstep m (pop x) l = pop (lstep m x l) := by
  have e1 : rg (pop x) l = rg x l := rfl
  obtain ⟨y, r, hy⟩ := List.exists_cons_of_ne_nil hb
  unfold lstep
  by_cases k0 : l.k = 0
  · rw [if_pos k0, if_pos k0]; unfold setr; split <;> rfl
  · rw [if_neg k0, if_neg k0, if_neg h1, if_neg h1]
    by_cases k2 : l.k = 2
    · rw [if_pos k2, if_pos k2]; unfold pop; simp only [hy]; rfl
    · rw [if_neg k2, if_neg k2]
      by_cases k3 : l.k = 3
      · rw [if_pos k3, if_pos k3]; unfold setr; split <;> rfl
      · rw [if_neg k3, if_neg k3, e1]
        split <;> rfl
theorem pop_loc {p : List (List Ln)} {h : Nat} {x : Loc} (hb : x.b ≠ []) (hx : isLoc p h x = true) : isLoc p h (pop x) = true ∧ lo p h (pop x) = pop (lo p h x) := by
  obtain ⟨h1, h2, h3, h4⟩ := isLoc_all hx
  have e : isLoc p h (pop x) = true := isLoc_of h1 h2 h3 (fun k => absurd (h4 k) hb)
  refine ⟨e, ?_⟩
  rw [lo_yes e (fun _ => 0), lo_yes hx (fun _ => 0)]
  exact pop_step h2 hb
theorem trl_ne {p : List (List Ln)} {h : Nat} {x : Loc} (hb : x.b ≠ []) (n : Nat) : (trl p h n x).b ≠ [] := by
  obtain ⟨t, h1, -⟩ := trl_b (p := p) (h := h) x n
  rw [h1]; simp [hb]
theorem pop_trl {p : List (List Ln)} {h : Nat} {x : Loc} (hb : x.b ≠ []) : ∀ n, (∀ i, i < n → isLoc p h (trl p h i x) = true) → trl p h n (pop x) = pop (trl p h n x)
  | 0, _ => rfl
  | n + 1, hx => by
    show lo p h (trl p h n (pop x)) = pop (lo p h (trl p h n x))
    rw [pop_trl hb n (fun i hi => hx i (by omega))]
    exact (pop_loc (trl_ne hb n) (hx n (by omega))).2
theorem trF_is {p : List (List Ln)} {h : Nat} {x : Loc} (hb : x.b = []) : ∀ n, ((trl p h n x).b = [] → trF p h n x = trl p h n x) ∧ ((trl p h n x).b ≠ [] → ∃ j, 1 ≤ j ∧ j ≤ n ∧ trF p h n x = trl p h j x ∧ (trl p h j x).b ≠ [] ∧ (trl p h j x).b.length ≤ 1)
  | 0 => ⟨fun _ => rfl, fun c => absurd hb c⟩
  | n + 1 => by
    obtain ⟨i1, i2⟩ := trF_is hb n
    by_cases e : (trl p h n x).b = []
    · have e1 := i1 e
      have e2 : trF p h (n + 1) x = trl p h (n + 1) x := by
        show (if (trF p h n x).b = [] then lo p h (trF p h n x) else trF p h n x) = lo p h (trl p h n x)
        rw [e1, if_pos e]
      refine ⟨fun _ => e2, fun c => ⟨n + 1, by omega, by omega, e2, c, ?_⟩⟩
      obtain ⟨t, h1, h2⟩ := lo_b (p := p) (h := h) (trl p h n x)
      show (lo p h (trl p h n x)).b.length ≤ 1
      rw [h1, e]; simpa using h2
    · have hn : (trl p h (n + 1) x).b ≠ [] := by
        obtain ⟨t, h1, -⟩ := lo_b (p := p) (h := h) (trl p h n x)
        show (lo p h (trl p h n x)).b ≠ []
        rw [h1]; simp [e]
      refine ⟨fun c => absurd c hn, fun _ => ?_⟩
      obtain ⟨j, j1, j2, j3, j4, j5⟩ := i2 e
      refine ⟨j, j1, by omega, ?_, j4, j5⟩
      show (if (trF p h n x).b = [] then lo p h (trF p h n x) else trF p h n x) = _
      rw [j3, if_neg j4]
theorem trF_more {p : List (List Ln)} {h : Nat} {x : Loc} {n : Nat} (hb : x.b = []) (hn : (trl p h n x).b ≠ []) : ∀ k, trF p h (n + k) x = trF p h n x
  | 0 => rfl
  | k + 1 => by
    show (if (trF p h (n + k) x).b = [] then lo p h (trF p h (n + k) x) else trF p h (n + k) x) = _
    rw [trF_more hb hn k]
    obtain ⟨j, j1, j2, j3, j4, j5⟩ := (trF_is hb n).2 hn
    rw [j3, if_neg j4]

/-! The states that there may be, by budgets of three hands. -/
def less (c : Nat → Nat) (h : Nat) : Nat → Nat := fun k => if k = h then c k - 1 else c k
def three (a b c : Nat) : Nat → Nat := fun h => if h = 0 then a else if h = 1 then b else c
def trails (p : List (List Ln)) (c : Nat → Nat) (s : TS) : List (List Int) :=
  (List.range (c 0 + 1)).flatMap fun i => (List.range (c 1 + 1)).flatMap fun j => (List.range (c 2 + 1)).map fun k => vec (tr p (three i j k) s)
def cov (p : List (List Ln)) : Nat → (Nat → Nat) → TS → List (List Int)
  | 0, _, _ => []
  | n + 1, c, s => trails p c s ++ ((if 0 < c 0 then cov p n (less c 0) (doL p 0 s) ++ cov p n (less c 0) (doF p 0 s) else [])
      ++ ((if 0 < c 1 then cov p n (less c 1) (doL p 1 s) ++ cov p n (less c 1) (doF p 1 s) else [])
      ++ (if 0 < c 2 then cov p n (less c 2) (doL p 2 s) ++ cov p n (less c 2) (doF p 2 s) else [])))
def tab : List Nat := [
  1, 4, 11, 26, 57, 120, 4, 20, 68, 196, 516, 1284,
  11, 68, 281, 966, 2979, 8544, 26, 196, 966, 3880, 13738, 44588,
  57, 516, 2979, 13738, 54977, 199160, 120, 1284, 8544, 44588, 199160, 796676,
  4, 20, 68, 196, 516, 1284, 20, 128, 540, 1880, 5844, 16848,
  68, 540, 2740, 11196, 40068, 130956, 196, 1880, 11196, 52576, 212804, 776744,
  516, 5844, 40068, 212804, 961220, 3874308, 1284, 16848, 130956, 776744, 3874308, 17090656,
  11, 68, 281, 966, 2979, 8544, 68, 540, 2740, 11196, 40068, 130956,
  281, 2740, 16467, 77754, 315825, 1155528, 966, 11196, 77754, 416216, 1889750, 7644116,
  2979, 40068, 315825, 1889750, 9481515, 41999968, 8544, 130956, 1155528, 7644116, 41999968, 202181292,
  26, 196, 966, 3880, 13738, 44588, 196, 1880, 11196, 52576, 212804, 776744,
  966, 11196, 77754, 416216, 1889750, 7644116, 3880, 52576, 416216, 2497360, 12553800, 55684160,
  13738, 212804, 1889750, 12553800, 69178330, 333725036, 44588, 776744, 7644116, 55684160, 333725036, 1739262872,
  57, 516, 2979, 13738, 54977, 199160, 516, 5844, 40068, 212804, 961220, 3874308,
  2979, 40068, 315825, 1889750, 9481515, 41999968, 13738, 212804, 1889750, 12553800, 69178330, 333725036,
  54977, 961220, 9481515, 69178330, 415070105, 2165040504, 199160, 3874308, 41999968, 333725036, 2165040504, 12138687940,
  120, 1284, 8544, 44588, 199160, 796676, 1284, 16848, 130956, 776744, 3874308, 17090656,
  8544, 130956, 1155528, 7644116, 41999968, 202181292, 44588, 776744, 7644116, 55684160, 333725036, 1739262872,
  199160, 3874308, 41999968, 333725036, 2165040504, 12138687940, 796676, 17090656, 202181292, 1739262872, 12138687940, 72832127856]
def B (a b c : Nat) : Nat := tab.getD (a * 36 + b * 6 + c) 0
theorem tab_ok : ∀ a : Fin 6, ∀ b : Fin 6, ∀ c : Fin 6, (a.1 + 1) * ((b.1 + 1) * (c.1 + 1)) + ((if 0 < a.1 then 2 * B (a.1 - 1) b.1 c.1 else 0) + ((if 0 < b.1 then 2 * B a.1 (b.1 - 1) c.1 else 0) + (if 0 < c.1 then 2 * B a.1 b.1 (c.1 - 1) else 0))) ≤ B a.1 b.1 c.1 := by decide +kernel
theorem flat_len {α β : Type} (f : α → List β) (k : Nat) (l : List α) (h : ∀ a ∈ l, (f a).length = k) : (l.flatMap f).length = l.length * k := by
  induction l with
  | nil => simp
  | cons a r ih => rw [List.flatMap_cons, List.length_append, h a (by simp), ih (fun b hb => h b (by simp [hb])), List.length_cons, Nat.succ_mul]; omega
theorem trails_len (p : List (List Ln)) (c : Nat → Nat) (s : TS) : (trails p c s).length = (c 0 + 1) * ((c 1 + 1) * (c 2 + 1)) := by
  unfold trails
  rw [flat_len _ ((c 1 + 1) * (c 2 + 1)), List.length_range]
  intro i _
  rw [flat_len _ (c 2 + 1), List.length_range]
  intro j _
  simp
theorem cov_len (p : List (List Ln)) : ∀ n c s, c 0 ≤ 5 → c 1 ≤ 5 → c 2 ≤ 5 → (cov p n c s).length ≤ B (c 0) (c 1) (c 2)
  | 0, c, s, _, _, _ => by simp [cov]
  | n + 1, c, s, h0, h1, h2 => by
    have key := tab_ok ⟨c 0, by omega⟩ ⟨c 1, by omega⟩ ⟨c 2, by omega⟩
    simp only at key
    unfold cov
    simp only [List.length_append, trails_len]
    refine Nat.le_trans (Nat.add_le_add_left (Nat.add_le_add ?_ (Nat.add_le_add ?_ ?_)) _) key
    · split
      · have a := cov_len p n (less c 0) (doL p 0 s) (by simp [less]; omega) (by simp [less]; omega) (by simp [less]; omega)
        have b := cov_len p n (less c 0) (doF p 0 s) (by simp [less]; omega) (by simp [less]; omega) (by simp [less]; omega)
        simp only [less, if_true, if_neg (show ¬ 1 = 0 by omega), if_neg (show ¬ 2 = 0 by omega)] at a b
        simp only [List.length_append]; omega
      · simp
    · split
      · have a := cov_len p n (less c 1) (doL p 1 s) (by simp [less]; omega) (by simp [less]; omega) (by simp [less]; omega)
        have b := cov_len p n (less c 1) (doF p 1 s) (by simp [less]; omega) (by simp [less]; omega) (by simp [less]; omega)
        simp only [less, if_true, if_neg (show ¬ 0 = 1 by omega), if_neg (show ¬ 2 = 1 by omega)] at a b
        simp only [List.length_append]; omega
      · simp
    · split
      · have a := cov_len p n (less c 2) (doL p 2 s) (by simp [less]; omega) (by simp [less]; omega) (by simp [less]; omega)
        have b := cov_len p n (less c 2) (doF p 2 s) (by simp [less]; omega) (by simp [less]; omega) (by simp [less]; omega)
        simp only [less, if_true, if_neg (show ¬ 0 = 2 by omega), if_neg (show ¬ 1 = 2 by omega)] at a b
        simp only [List.length_append]; omega
      · simp

/-! Each state is one of them. -/
/-- How the words came to be: of each hand how often it was seen. -/
inductive H (p : List (List Ln)) : (Nat → Nat) → TS → Prop
  | zero : H p (fun _ => 0) TS.zero
  | L {c : Nat → Nat} {s : TS} {h : Nat} : H p c s → h < 3 → c h < 5 → H p (fun k => if k = h then c k + 1 else c k) (doL p h s)
  | F {c : Nat → Nat} {s : TS} {h : Nat} : H p c s → h < 3 → c h < 5 → H p (fun k => if k = h then c k + 1 else c k) (doF p h s)
theorem cov_sub {p : List (List Ln)} {n : Nat} {c : Nat → Nat} {s : TS} {h : Nat} (hh : h < 3) (hc : 0 < c h) {v : List Int} (hv : v ∈ cov p n (less c h) (doL p h s) ∨ v ∈ cov p n (less c h) (doF p h s)) : v ∈ cov p (n + 1) c s := by
  unfold cov
  simp only [List.mem_append]
  obtain rfl | rfl | rfl : h = 0 ∨ h = 1 ∨ h = 2 := by omega
  · rw [if_pos hc, List.mem_append]; exact .inr (.inl hv)
  · rw [if_pos hc, List.mem_append]; exact .inr (.inr (.inl hv))
  · rw [if_pos hc, List.mem_append]; exact .inr (.inr (.inr hv))
theorem H.sub {p : List (List Ln)} {c : Nat → Nat} {s : TS} (h : H p c s) : ∃ n, n + (c 0 + c 1 + c 2) = 15 ∧ (∀ k, k < 3 → c k ≤ 5) ∧ ∀ v, v ∈ cov p (n + 1) (fun k => 5 - c k) s → v ∈ cov p 16 (fun _ => 5) TS.zero := by
  have e : ∀ (c : Nat → Nat) (h : Nat), less (fun k => 5 - c k) h = fun k => 5 - (if k = h then c k + 1 else c k) := by
    intro c h; funext k; unfold less; simp only; split
    · omega
    · rfl
  induction h with
  | zero => exact ⟨15, by simp, by intros; simp, fun v hv => hv⟩
  | @L c s h _ hh hc ih =>
    obtain ⟨n, hn, h5, hv⟩ := ih
    have h0 := h5 0 (by omega)
    have h1 := h5 1 (by omega)
    have h2 := h5 2 (by omega)
    obtain ⟨n, rfl⟩ : ∃ m, n = m + 1 := ⟨n - 1, by
      obtain rfl | rfl | rfl : h = 0 ∨ h = 1 ∨ h = 2 := by omega
      all_goals omega⟩
    refine ⟨n, ?_, fun k hk => ?_, fun v h => hv v (cov_sub hh (by show 0 < 5 - c _; omega) (.inl (by rw [e]; exact h)))⟩
    · obtain rfl | rfl | rfl : h = 0 ∨ h = 1 ∨ h = 2 := by omega
      all_goals simp; omega
    · have := h5 k hk
      show (if k = h then _ else _) ≤ 5
      split
      · subst_vars; omega
      · omega
  | @F c s h _ hh hc ih =>
    obtain ⟨n, hn, h5, hv⟩ := ih
    have h0 := h5 0 (by omega)
    have h1 := h5 1 (by omega)
    have h2 := h5 2 (by omega)
    obtain ⟨n, rfl⟩ : ∃ m, n = m + 1 := ⟨n - 1, by
      obtain rfl | rfl | rfl : h = 0 ∨ h = 1 ∨ h = 2 := by omega
      all_goals omega⟩
    refine ⟨n, ?_, fun k hk => ?_, fun v h => hv v (cov_sub hh (by show 0 < 5 - c _; omega) (.inr (by rw [e]; exact h)))⟩
    · obtain rfl | rfl | rfl : h = 0 ∨ h = 1 ∨ h = 2 := by omega
      all_goals simp; omega
    · have := h5 k hk
      show (if k = h then _ else _) ≤ 5
      split
      · subst_vars; omega
      · omega
/-- A state's story. -/
structure Story (p : List (List Ln)) (s : TS) (c t : Nat → Nat) (e : TS) : Prop where
  h : H p c e
  m : s.m = e.m
  l : ∀ k, s.l k = trl p k (t k) (e.l k)
  all : ∀ k i, i < t k → isLoc p k (trl p k i (e.l k)) = true
  sum : ∀ k, ((c k + (e.l k).b.length + t k : Nat) : Int) ≤ (s.l k).at' ∧ c k + (e.l k).b.length + t k ≤ 5
theorem reach_story {words : Int} {p : List (List Ln)} (hf : Fine words p) {s : TS} (h : Reach p s) : ∃ c t e, Story p s c t e := by
  have hn := hf.n.2
  induction h with
  | zero => exact ⟨_, fun _ => 0, _, .zero, rfl, fun _ => rfl, fun k i hi => by omega, fun k => by simp [TS.zero, Loc.zero]⟩
  | @step s h hr hh hc ih =>
    obtain ⟨c, t, e, st⟩ := ih
    have hm := can_mor hc
    have hl := (hf.lines h).1
    have hlt : (s.l h).at' < 5 := by unfold mor at hm; simp at hm; omega
    have hg := nxt_good hf ((hr.ok hf).at0 h).1 hm
    have hs := st.sum h
    have hat : (s.l h).at' + 1 ≤ (lstep s.m (s.l h) (nxt p h (s.l h))).at' := by
      rw [lstep_at]; split
      · have := hg.v5 (by omega); omega
      · omega
    by_cases hL : isLoc p h (s.l h) = true
    · refine ⟨c, fun k => if k = h then t k + 1 else t k, e, st.h, ?_, fun k => ?_, fun k i hi => ?_, fun k => ?_⟩
      · show mstep _ _ _ = _
        unfold mstep; rw [if_neg (isLoc_all hL).2.2.1]; exact st.m
      · show put _ _ _ k = trl p k (if k = h then t k + 1 else t k) _
        unfold put
        split
        · subst_vars
          show _ = lo p k (trl p k (t k) (e.l k))
          rw [← st.l k]
          exact (lo_yes hL s.m).symm
        · exact st.l k
      · split at hi
        · subst_vars
          by_cases e1 : i < t k
          · exact st.all k i e1
          · obtain rfl : i = t k := by omega
            rw [← st.l k]; exact hL
        · exact st.all k i hi
      · show ((c k + (e.l k).b.length + (if k = h then t k + 1 else t k) : Nat) : Int) ≤ (put _ _ _ k).at' ∧ c k + (e.l k).b.length + (if k = h then t k + 1 else t k) ≤ 5
        unfold put
        by_cases ek : k = h
        · subst ek
          simp only [if_true]
          omega
        · simp only [if_neg ek]
          exact st.sum k
    · have hfix : trl p h 5 (e.l h) = s.l h := by
        have a := trl_add p h (t h) (e.l h) (5 - t h)
        rw [← st.l h, trl_stay (x := s.l h) (by simpa using hL), show t h + (5 - t h) = 5 by omega] at a
        exact a
      have hdo : doL p h e = ⟨mstep s.m (s.l h) (nxt p h (s.l h)), put e.l h (lstep s.m (s.l h) (nxt p h (s.l h)))⟩ := by
        unfold doL step
        simp only [hfix, put_same, put_put, st.m]
      have hk2 : (nxt p h (s.l h)).k ≠ 2 := by
        intro k2
        exact hL (isLoc_of hm (by omega) (by omega) (fun k4 => by omega))
      refine ⟨_, fun k => if k = h then 0 else t k, _, .L (h := h) st.h (by omega) (by omega), ?_, fun k => ?_, fun k i hi => ?_, fun k => ?_⟩
      · rw [hdo]; rfl
      · rw [hdo]
        show put _ _ _ k = trl p k (if k = h then 0 else t k) (put _ _ _ k)
        unfold put
        split
        · rfl
        · exact st.l k
      · rw [hdo]
        split at hi
        · omega
        · show isLoc p k (trl p k i (put _ _ _ k)) = true
          rw [put_other (by assumption)]; exact st.all k i hi
      · rw [hdo]
        show _ ≤ (put _ _ _ k).at' ∧ _
        show (((if k = h then c k + 1 else c k) + (put _ _ _ k).b.length + (if k = h then 0 else t k) : Nat) : Int) ≤ _ ∧ (if k = h then c k + 1 else c k) + (put _ _ _ k).b.length + (if k = h then 0 else t k) ≤ 5
        unfold put
        by_cases ek : k = h
        · subst ek
          simp only [if_pos]
          have hb : (lstep s.m (s.l k) (nxt p k (s.l k))).b.length = (s.l k).b.length := by rw [lstep_b, if_neg hk2]
          obtain ⟨u, u1, u2⟩ := trl_b (p := p) (h := k) (e.l k) (t k)
          rw [← st.l k] at u1
          have u3 := congrArg List.length u1
          simp only [List.length_append] at u3
          rw [hb]
          constructor
          · omega
          · omega
        · simp only [if_neg ek]
          exact st.sum k
  | @flush s h hr hh hb ih =>
    obtain ⟨c, t, e, st⟩ := ih
    have hs := st.sum h
    have hcl : c h < 5 := by
      by_cases e1 : (e.l h).b = []
      · obtain ⟨u, u1, u2⟩ := trl_b (p := p) (h := h) (e.l h) (t h)
        rw [← st.l h, e1] at u1
        have : 0 < t h := by
          rcases Nat.eq_zero_or_pos (t h) with e2 | e2
          · rw [e2] at u2; have : u = [] := by simpa using u2
            rw [this] at u1; exact absurd u1 hb
          · exact e2
        omega
      · have : 0 < (e.l h).b.length := List.length_pos_iff.2 e1
        omega
    have key : ∃ x j, trF p h 5 (e.l h) = x ∧ x = trl p h j (e.l h) ∧ j ≤ t h ∧ x.b ≠ [] ∧ ((e.l h).b ≠ [] → j = 0) ∧ ((e.l h).b = [] → 1 ≤ j ∧ x.b.length ≤ 1) := by
      by_cases e1 : (e.l h).b = []
      · have hne : (trl p h (t h) (e.l h)).b ≠ [] := by rw [← st.l h]; exact hb
        obtain ⟨j, j1, j2, j3, j4, j5⟩ := (trF_is e1 (t h)).2 hne
        have a := trF_more e1 hne (5 - t h)
        rw [show t h + (5 - t h) = 5 by omega] at a
        exact ⟨_, j, rfl, by rw [a, j3], j2, by rw [a, j3]; exact j4, fun c => absurd e1 c, fun _ => ⟨j1, by rw [a, j3]; exact j5⟩⟩
      · have a : ∀ n, trF p h n (e.l h) = e.l h := by
          intro n
          induction n with
          | zero => rfl
          | succ n ih => show (if (trF p h n (e.l h)).b = [] then _ else _) = _; rw [ih, if_neg e1]
        exact ⟨_, 0, rfl, a 5, by omega, by rw [a]; exact e1, fun _ => rfl, fun c => absurd c e1⟩
    obtain ⟨x, j, hx, hxj, hjt, hxb, k1, k2⟩ := key
    obtain ⟨y, r, hy⟩ := List.exists_cons_of_ne_nil hxb
    have hsl : s.l h = trl p h (t h - j) x := by
      rw [hxj, ← trl_add, st.l h]; congr 1; omega
    have hall : ∀ i, i < t h - j → isLoc p h (trl p h i x) = true := by
      intro i hi
      rw [hxj, ← trl_add]; exact st.all h (j + i) (by omega)
    have hpx : pop x = { x with b := r } := by unfold pop; rw [hy]; rfl
    have hdo : doF p h e = ⟨upd s.m y.1.toNat y.2, put e.l h (pop x)⟩ := by
      unfold doF
      rw [hx, flush_cons (x := y) (r := r) (by show (put _ _ _ h).b = _; rw [put_same]; exact hy)]
      simp only [put_same, put_put, hpx, st.m]
    obtain ⟨u, hu, -⟩ := trl_b (p := p) (h := h) x (t h - j)
    rw [← hsl, hy] at hu
    have hfl : flush s h = ⟨upd s.m y.1.toNat y.2, put s.l h (pop (s.l h))⟩ := by
      rw [flush_cons (x := y) (r := r ++ u) hu]
      unfold pop; rw [hu]; rfl
    have hpop : pop (s.l h) = trl p h (t h - j) (pop x) := by
      rw [pop_trl hxb _ hall, ← hsl]
    have hpa : (pop (s.l h)).at' = (s.l h).at' := rfl
    refine ⟨_, fun k => if k = h then t k - j else t k, _, .F (h := h) st.h (by omega) hcl, ?_, fun k => ?_, fun k i hi => ?_, fun k => ?_⟩
    · rw [hdo, hfl]
    · rw [hdo, hfl]
      show put _ _ _ k = trl p k (if k = h then t k - j else t k) (put _ _ _ k)
      unfold put
      split
      · subst_vars; exact hpop
      · exact st.l k
    · rw [hdo]
      show isLoc p k (trl p k i (put _ _ _ k)) = true
      split at hi
      · subst_vars
        rw [put_same]
        rw [pop_trl hxb i (fun i' hi' => hall i' (by omega))]
        exact (pop_loc (trl_ne hxb i) (hall i hi)).1
      · rw [put_other (by assumption)]; exact st.all k i hi
    · rw [hdo, hfl]
      show (((if k = h then c k + 1 else c k) + (put _ _ _ k).b.length + (if k = h then t k - j else t k) : Nat) : Int) ≤ (put _ _ _ k).at' ∧ (if k = h then c k + 1 else c k) + (put _ _ _ k).b.length + (if k = h then t k - j else t k) ≤ 5
      unfold put
      by_cases ek : k = h
      · subst ek
        simp only [if_true]
        rw [hpa]
        have hpl : (pop x).b.length + 1 = x.b.length := by unfold pop; rw [hy]; simp
        by_cases e1 : (e.l k).b = []
        · have := k2 e1
          rw [e1] at hs
          simp only [List.length_nil] at hs
          constructor
          · omega
          · omega
        · have hj0 := k1 e1
          subst hj0
          have : x = e.l k := hxj
          rw [this] at hpl ⊢
          constructor
          · omega
          · omega
      · simp only [if_neg ek]
        exact st.sum k
theorem mem_cov {words : Int} {p : List (List Ln)} (hf : Fine words p) {v : List Int} (h : Bfs.Reach (vec TS.zero) (succ p) v) : v ∈ cov p 16 (fun _ => 5) TS.zero := by
  obtain ⟨s, hr, rfl⟩ := (reach_iff hf).1 h
  obtain ⟨c, t, e, st⟩ := reach_story hf hr
  obtain ⟨n, hn, h5, hv⟩ := st.h.sub
  have hok := hr.ok hf
  apply hv
  unfold cov
  rw [List.mem_append]
  left
  unfold trails
  simp only [List.mem_flatMap, List.mem_map, List.mem_range]
  have s0 := st.sum 0
  have s1 := st.sum 1
  have s2 := st.sum 2
  refine ⟨t 0, by omega, t 1, by omega, t 2, by omega, ?_⟩
  unfold vec
  refine List.map_congr_left (fun j hj => ?_)
  have hj60 : j < 60 := by simpa using hj
  have hl : ∀ k, k < 3 → (tr p (three (t 0) (t 1) (t 2)) e).l k = s.l k := by
    intro k hk
    rw [st.l k]
    show trl p k (three (t 0) (t 1) (t 2) k) (e.l k) = _
    obtain rfl | rfl | rfl : k = 0 ∨ k = 1 ∨ k = 2 := by omega
    all_goals rfl
  have hl3 : (tr p (three (t 0) (t 1) (t 2)) e).l 3 = s.l 3 := by
    have hf3 : p.length ≤ 3 := hf.n.2
    have hz := hok.far 3 hf3
    have ht : t 3 = 0 := by
      have := (st.sum 3).1
      rw [hz, show Loc.zero.at' = 0 from rfl] at this
      omega
    have e3 := st.l 3
    rw [ht] at e3
    have e4 : e.l 3 = Loc.zero := by rw [← hz, e3]; rfl
    show trl p 3 (t 2) (e.l 3) = _
    rw [hz, e4]
    refine trl_stay ?_ _
    unfold isLoc mor
    have : lines p 3 = [] := by
      unfold lines; rw [List.getD_eq_getElem?_getD, List.getElem?_eq_none hf3]; rfl
    rw [this]; simp [Loc.zero]
  have hall : ∀ k, k < 4 → (tr p (three (t 0) (t 1) (t 2)) e).l k = s.l k := by
    intro k hk
    by_cases e3 : k = 3
    · rw [e3]; exact hl3
    · exact hl k (by omega)
  have hm : (tr p (three (t 0) (t 1) (t 2)) e).m = s.m := st.m.symm
  rcases cell_cases hj60 with a | ⟨k, hk, rfl | rfl⟩ | ⟨w, hw, rfl⟩ | ⟨k, i, hk, hi, rfl | rfl⟩ | ⟨k, hk, rfl⟩
  · rw [enc_at _ a, enc_at _ a, hall _ a]
  · rw [enc_r0 _ hk, enc_r0 _ hk, hall _ hk]
  · rw [enc_r1 _ hk, enc_r1 _ hk, hall _ hk]
  · rw [enc_word _ hw, enc_word _ hw, hm]
  · rw [enc_bw _ hk hi, enc_bw _ hk hi, hall _ hk]
  · rw [enc_bv _ hk hi, enc_bv _ hk hi, hall _ hk]
  · rw [enc_many _ hk, enc_many _ hk, hall _ hk]
theorem bound {words : Int} {p : List (List Ln)} (hf : Fine words p) {l : List (List Int)} {i : Nat} (h : Bfs.Inv (vec TS.zero) (succ p) l i) : l.length ≤ 72832127856 :=
  Nat.le_trans (h.bound (fun a ha => mem_cov hf ha)) (Nat.le_trans (cov_len p 16 (fun _ => 5) TS.zero (by omega) (by omega) (by omega)) (by decide +kernel))
end Go.Proofs.YtimbdjmplcgilaaDoor.Tso
namespace Go.Proofs.YtimbdjmplcgilaaDoor.Tso
open Pr
set_option linter.unusedVariables false
set_option linter.unusedSimpArgs false

/-! What may be where stores wait, and where they do not. -/
def locOf (D : St) (h : Nat) : Loc := ⟨D h, D (4 + h * 2), D (4 + h * 2 + 1), []⟩
def memOf (D : St) : Nat → Int := fun j => D (12 + j)
def unb (x : Loc) : Loc := { x with b := [] }
theorem nxt_of (p : List (List Ln)) (h : Nat) {x : Loc} {D : St} (e : x.at' = D h) : nxt p h x = line p D h := by unfold nxt line; rw [e]
theorem mor_of (p : List (List Ln)) (h : Nat) {x : Loc} {D : St} (e : x.at' = D h) : mor p h x = more p D h := by unfold mor more; rw [e]
theorem rg_loc (D : St) (h : Nat) (l : Ln) : rg (locOf D h) l = D (reg h l) := by
  unfold rg reg; split <;> rfl
/-- A line of a hand leaves the other hands alone. -/
theorem done_other {D : St} {h k : Nat} {l : Ln} (hh : h < 4) (hk : k < 4) (hne : k ≠ h) : locOf (done D h l) k = locOf D k := by
  have hr := reg_bd (l := l) hh
  have key : ∀ i, i ≠ h → (i < 4 ∨ ((i = 4 + k * 2 ∨ i = 4 + k * 2 + 1) ∧ True)) → done D h l i = D i := by
    intro i hi hc
    have a1 : i ≠ reg h l := by unfold reg; split <;> omega
    have e1 : ∀ (g : St) v, upd g (reg h l) v i = g i := fun g v => upd_other a1
    have e2 : ∀ (g : St) v (x : Nat), upd g (12 + x) v i = g i := fun g v x => upd_other (by omega)
    have e3 : ∀ (g : St) v, upd g h v i = g i := fun g v => upd_other hi
    unfold done
    repeat' split
    all_goals simp only [e1, e2, e3]
  unfold locOf
  rw [key k hne (.inl hk), key (4 + k * 2) (by omega) (.inr ⟨.inl rfl, trivial⟩), key (4 + k * 2 + 1) (by omega) (.inr ⟨.inr rfl, trivial⟩)]
theorem setr_locs (x : Loc) (l : Ln) (v : Int) : (setr x l v).r0 = (if 0 < l.r then x.r0 else v) ∧ (setr x l v).r1 = (if 0 < l.r then v else x.r1) := by
  unfold setr; split <;> simp
/-- What it does to its own. -/
theorem done_own {D : St} {h : Nat} {l : Ln} (hh : h < 4) : locOf (done D h l) h = unb (lstep (memOf D) (locOf D h) l) := by
  have e0 : ∀ (g : St) v, upd g h v h = v := fun g v => upd_same _ _ _
  have r0 : reg h l = if 0 < l.r then 4 + h * 2 + 1 else 4 + h * 2 := by unfold reg; split <;> omega
  have eh : ∀ (g : St) v, upd g (reg h l) v h = g h := fun g v => upd_other (by rw [r0]; split <;> omega)
  have ew : ∀ (g : St) v (x i : Nat), i < 12 → upd g (12 + x) v i = g i := fun g v x i hi => upd_other (by omega)
  have ea : ∀ (g : St) v (i : Nat), i ≠ h → upd g h v i = g i := fun g v i hi => upd_other hi
  have er : ∀ (g : St) v, upd g (reg h l) v (4 + h * 2) = if 0 < l.r then g (4 + h * 2) else v := by
    intro g v; rw [r0]; split
    · exact upd_other (by omega)
    · exact upd_same _ _ _
  have er1 : ∀ (g : St) v, upd g (reg h l) v (4 + h * 2 + 1) = if 0 < l.r then v else g (4 + h * 2 + 1) := by
    intro g v; rw [r0]; split
    · exact upd_same _ _ _
    · exact upd_other (by omega)
  have hw := ew
  have a0 : ∀ g v, upd g h v (4 + h * 2) = g (4 + h * 2) := fun g v => ea g v _ (by omega)
  have a1 : ∀ g v, upd g h v (4 + h * 2 + 1) = g (4 + h * 2 + 1) := fun g v => ea g v _ (by omega)
  have w0 : ∀ (g : St) v x, upd g (12 + x) v h = g h := fun g v x => ew g v x _ (by omega)
  have w1 : ∀ (g : St) v x, upd g (12 + x) v (4 + h * 2) = g (4 + h * 2) := fun g v x => ew g v x _ (by omega)
  have w2 : ∀ (g : St) v x, upd g (12 + x) v (4 + h * 2 + 1) = g (4 + h * 2 + 1) := fun g v x => ew g v x _ (by omega)
  have hrg := rg_loc D h l
  apply loc_ext
  · show done D h l h = (lstep _ _ _).at'
    rw [lstep_at, hrg]
    show _ = if _ then D h + 1 + l.v else D h + 1
    unfold done
    by_cases k5 : l.k = 5
    · rw [if_neg (by omega), if_neg (by omega), if_neg (by omega), if_neg (by omega), if_pos k5]
      by_cases z : D (reg h l) = 0
      · rw [if_pos z, if_pos ⟨k5, z⟩, e0]
      · rw [if_neg z, if_neg (fun c => z c.2), e0]
    · rw [if_neg (show ¬ (l.k = 5 ∧ D (reg h l) = 0) from fun c => k5 c.1)]
      repeat' split
      all_goals first | omega | simp only [eh, w0, e0]
  · show done D h l (4 + h * 2) = (lstep _ _ _).r0
    unfold done lstep
    rw [hrg]
    by_cases k0 : l.k = 0
    · rw [if_pos k0, if_pos k0, er, (setr_locs _ _ _).1, a0]; rfl
    · rw [if_neg k0, if_neg k0]
      by_cases k1 : l.k = 1
      · rw [if_pos k1, if_pos k1, er, (setr_locs _ _ _).1, a0]; rfl
      · rw [if_neg k1, if_neg k1]
        by_cases k2 : l.k = 2
        · rw [if_pos k2, if_pos k2, w1, a0]; rfl
        · rw [if_neg k2, if_neg k2]
          by_cases k3 : l.k = 3
          · rw [if_pos k3, if_pos k3, er, (setr_locs _ _ _).1, w1, a0]; rfl
          · rw [if_neg k3, if_neg k3]
            by_cases k5 : l.k = 5
            · rw [if_pos k5]
              by_cases z : D (reg h l) = 0
              · rw [if_pos z, if_pos ⟨k5, z⟩, a0]; rfl
              · rw [if_neg z, if_neg (fun c => z c.2), a0]; rfl
            · rw [if_neg k5, if_neg (fun c => k5 c.1), a0]; rfl
  · show done D h l (4 + h * 2 + 1) = (lstep _ _ _).r1
    unfold done lstep
    rw [hrg]
    by_cases k0 : l.k = 0
    · rw [if_pos k0, if_pos k0, er1, (setr_locs _ _ _).2, a1]; rfl
    · rw [if_neg k0, if_neg k0]
      by_cases k1 : l.k = 1
      · rw [if_pos k1, if_pos k1, er1, (setr_locs _ _ _).2, a1]; rfl
      · rw [if_neg k1, if_neg k1]
        by_cases k2 : l.k = 2
        · rw [if_pos k2, if_pos k2, w2, a1]; rfl
        · rw [if_neg k2, if_neg k2]
          by_cases k3 : l.k = 3
          · rw [if_pos k3, if_pos k3, er1, (setr_locs _ _ _).2, w2, a1]; rfl
          · rw [if_neg k3, if_neg k3]
            by_cases k5 : l.k = 5
            · rw [if_pos k5]
              by_cases z : D (reg h l) = 0
              · rw [if_pos z, if_pos ⟨k5, z⟩, a1]; rfl
              · rw [if_neg z, if_neg (fun c => z c.2), a1]; rfl
            · rw [if_neg k5, if_neg (fun c => k5 c.1), a1]; rfl
  · rfl
/-- .. and to the words. -/
theorem done_mem {D : St} {h : Nat} {l : Ln} (hh : h < 4) : memOf (done D h l) = if l.k = 2 ∨ l.k = 3 then upd (memOf D) l.w.toNat (rg (locOf D h) l) else memOf D := by
  have hr := reg_bd (l := l) hh
  have e1 : ∀ (g : St) v i, upd g (reg h l) v (12 + i) = g (12 + i) := fun g v i => upd_other (by omega)
  have e3 : ∀ (g : St) v i, upd g h v (12 + i) = g (12 + i) := fun g v i => upd_other (by omega)
  have e2 : ∀ (g : St) v (x i : Nat), upd g (12 + x) v (12 + i) = if i = x then v else g (12 + i) := fun g v x i => by
    unfold upd
    by_cases e : i = x
    · rw [if_pos e, if_pos (by omega)]
    · rw [if_neg e, if_neg (by omega)]
  rw [rg_loc]
  funext i
  show done D h l (12 + i) = _
  unfold done
  by_cases k0 : l.k = 0
  · rw [if_pos k0, if_neg (by omega), e1, e3]; rfl
  · rw [if_neg k0]
    by_cases k1 : l.k = 1
    · rw [if_pos k1, if_neg (by omega), e1, e3]; rfl
    · rw [if_neg k1]
      by_cases k2 : l.k = 2
      · rw [if_pos k2, if_pos (by omega), e2, e3]; rfl
      · rw [if_neg k2]
        by_cases k3 : l.k = 3
        · rw [if_pos k3, if_pos (by omega), e1, e2, e3]; rfl
        · rw [if_neg k3, if_neg (show ¬ (l.k = 2 ∨ l.k = 3) by omega)]
          repeat' split
          all_goals simp only [e3]; rfl

/-! A hand goes on alone. -/
def rp (p : List (List Ln)) (h : Nat) (m : Nat → Int) : Nat → Loc → Loc
  | 0, x => x
  | n + 1, x => lstep m (rp p h m n x) (nxt p h (rp p h m n x))
theorem rp_add (p : List (List Ln)) (h : Nat) (m : Nat → Int) (a : Nat) (x : Loc) : ∀ n, rp p h m (a + n) x = rp p h m n (rp p h m a x)
  | 0 => rfl
  | n + 1 => by
    show lstep m (rp p h m (a + n) x) (nxt p h (rp p h m (a + n) x)) = lstep m (rp p h m n (rp p h m a x)) (nxt p h (rp p h m n (rp p h m a x)))
    rw [rp_add p h m a x n]
/-- It can, and swaps nothing. -/
def Goes (p : List (List Ln)) (h : Nat) (m : Nat → Int) (n : Nat) (x : Loc) : Prop := ∀ i, i < n → mor p h (rp p h m i x) = true ∧ (nxt p h (rp p h m i x)).k ≠ 3
/-- The hand has gone on by itself where nothing waits. -/
structure Adv (p : List (List Ln)) (h : Nat) (D : St) (x : Loc) (E : St) : Prop where
  r : Sc.Reach p E
  at' : E h = x.at'
  own : unb x = locOf E h
  other : ∀ k, k < 4 → k ≠ h → locOf E k = locOf D k
  mem : ∀ j : Nat, memOf E j = look x.b (memOf D j) (j : Int)
theorem unb_of {x : Loc} (h : x.b = []) : unb x = x := by
  cases x; simp only at h; subst h; rfl
theorem unb_set {m m' : Nat → Int} {x y : Loc} {l : Ln} (e : unb x = unb y) (h1 : l.k = 1 → look x.b (m l.w.toNat) l.w = look y.b (m' l.w.toNat) l.w) (h3 : l.k ≠ 3) : unb (lstep m x l) = unb (lstep m' y l) := by
  obtain ⟨xa, x0, x1, xb⟩ := x
  obtain ⟨ya, y0, y1, yb⟩ := y
  simp only [unb, Loc.mk.injEq] at e
  obtain ⟨rfl, rfl, rfl, -⟩ := e
  simp only at h1
  have er : rg ⟨xa, x0, x1, xb⟩ l = rg ⟨xa, x0, x1, yb⟩ l := rfl
  unfold lstep
  rw [er]
  by_cases k0 : l.k = 0
  · rw [if_pos k0, if_pos k0]; unfold setr; split <;> rfl
  · rw [if_neg k0, if_neg k0]
    by_cases k1 : l.k = 1
    · rw [if_pos k1, if_pos k1]; simp only [h1 k1]; unfold setr; split <;> rfl
    · rw [if_neg k1, if_neg k1]
      by_cases k2 : l.k = 2
      · rw [if_pos k2, if_pos k2]; rfl
      · rw [if_neg k2, if_neg k2, if_neg h3, if_neg h3]
        split <;> rfl
theorem adv {words : Int} {p : List (List Ln)} (hf : Fine words p) {D : St} (hr : Sc.Reach p D) {h : Nat} (hh : h < p.length) : ∀ n, Goes p h (memOf D) n (locOf D h) → ∃ E, Adv p h D (rp p h (memOf D) n (locOf D h)) E
  | 0, _ => ⟨D, hr, rfl, rfl, fun _ _ _ => rfl, fun _ => rfl⟩
  | n + 1, hg => by
    obtain ⟨E, he⟩ := adv hf hr hh n (fun i hi => hg i (by omega))
    obtain ⟨hm, h3⟩ := hg n (by omega)
    have h4 : h < 4 := by have := hf.n; omega
    generalize hx : rp p h (memOf D) n (locOf D h) = x at *
    have hme : more p E h = true := by rw [← mor_of p h (x := x) he.at'.symm]; exact hm
    have hl : nxt p h x = line p E h := nxt_of p h he.at'.symm
    have hgd := hf.line ((he.r.fine hf).1.at0 h h4).1 hme
    rw [hl] at h3
    have e : rp p h (memOf D) (n + 1) (locOf D h) = lstep (memOf D) x (line p E h) := by
      show lstep _ (rp p h (memOf D) n (locOf D h)) (nxt p h (rp p h (memOf D) n (locOf D h))) = _
      rw [hx, hl]
    rw [e]
    have hst := Sc.Reach.step he.r hh hme
    generalize line p E h = l at *
    have hown : unb (lstep (memOf D) x l) = locOf (done E h l) h := by
      rw [done_own h4]
      refine unb_set (by rw [he.own]; rfl) (fun k1 => ?_) h3
      have hw := hgd.w (by omega) (by omega)
      show look x.b (memOf D l.w.toNat) l.w = memOf E l.w.toNat
      rw [he.mem l.w.toNat, Int.toNat_of_nonneg hw.1]
    refine ⟨done E h l, ?_, ?_, hown, fun k hk hne => ?_, fun j => ?_⟩
    · exact hst
    · exact (congrArg Loc.at' hown).symm
    · rw [done_other h4 hk hne]; exact he.other k hk hne
    · rw [done_mem h4, lstep_b]
      by_cases k2 : l.k = 2
      · have hw := hgd.w (by omega) (by omega)
        rw [if_pos (.inl k2), if_pos k2, look_snoc, ← he.mem j, ← he.own]
        unfold upd
        by_cases ej : j = l.w.toNat
        · rw [if_pos ej, if_pos (by omega)]; rfl
        · rw [if_neg ej, if_neg (by omega)]
      · rw [if_neg (by omega), if_neg k2]; exact he.mem j
theorem Adv.quiet {p : List (List Ln)} {h : Nat} {D : St} {x : Loc} {E : St} (a : Adv p h D x E) (hb : x.b = []) : locOf E h = x ∧ memOf E = memOf D := by
  constructor
  · rw [← a.own]; unfold unb; rw [← hb]
  · funext j; rw [a.mem j, hb]; rfl

/-! Without races. -/
theorem no_clash {words : Int} {p : List (List Ln)} (hf : Fine words p) (hn : ¬ Sc.Races p) {D : St} (hr : Sc.Reach p D) {h k : Nat} (hh : h < p.length) (hk : k < p.length) (hne : k ≠ h) (hm : more p D h = true) {n : Nat} (hg : Goes p k (memOf D) n (locOf D k)) {i : Nat} (hi : i < n) :
    Sc.clash (line p D h) (nxt p k (rp p k (memOf D) i (locOf D k))) = false := by
  have hp := hf.n
  obtain ⟨E, he⟩ := adv hf hr hk i (fun j hj => hg j (by omega))
  obtain ⟨hmk, -⟩ := hg i hi
  have e1 : locOf E h = locOf D h := he.other h (by omega) (by omega)
  have eh : E h = D h := congrArg Loc.at' e1
  have em : more p E h = true := by unfold more at hm ⊢; rw [eh]; exact hm
  have el : line p E h = line p D h := by unfold line; rw [eh]
  rw [mor_of p k he.at'.symm] at hmk
  rw [nxt_of p k he.at'.symm, ← el]
  cases hc : Sc.clash (line p E h) (line p E k) with
  | false => rfl
  | true =>
    exfalso
    apply hn
    by_cases o : k < h
    · exact ⟨E, he.r, h, k, o, hh, em, hmk, hc⟩
    · exact ⟨E, he.r, k, h, by omega, hk, hmk, em, by rw [Sc.clash_comm]; exact hc⟩
/-- Words that the hand does not load may change. -/
theorem rp_upd {p : List (List Ln)} {h : Nat} {m : Nat → Int} {x : Loc} {w : Nat} {v : Int} : ∀ n, (∀ i, i < n → (nxt p h (rp p h m i x)).k ≠ 3 ∧ ((nxt p h (rp p h m i x)).k = 1 → (nxt p h (rp p h m i x)).w.toNat ≠ w)) → rp p h (upd m w v) n x = rp p h m n x
  | 0, _ => rfl
  | n + 1, hx => by
    have ih := rp_upd (v := v) n (fun i hi => hx i (by omega))
    obtain ⟨h3, h1⟩ := hx n (by omega)
    show lstep _ (rp p h (upd m w v) n x) (nxt p h (rp p h (upd m w v) n x)) = lstep _ (rp p h m n x) _
    rw [ih]
    generalize rp p h m n x = y at *
    unfold lstep
    by_cases k1 : (nxt p h y).k = 1
    · have e : upd m w v (nxt p h y).w.toNat = m (nxt p h y).w.toNat := upd_other (h1 k1)
      rw [e]
      repeat' split
      all_goals rfl
    · rw [if_neg k1, if_neg k1, if_neg h3, if_neg h3]
theorem goes_upd {p : List (List Ln)} {h : Nat} {m m' : Nat → Int} {x : Loc} {n : Nat} (hg : Goes p h m n x) (e : ∀ i, i ≤ n → rp p h m' i x = rp p h m i x) : Goes p h m' n x := by
  intro i hi; rw [e i (by omega)]; exact hg i hi
/-- Another hand's store, or swap, is nothing to it. -/
theorem other_ok {words : Int} {p : List (List Ln)} (hf : Fine words p) (hn : ¬ Sc.Races p) {D : St} (hr : Sc.Reach p D) {h k : Nat} (hh : h < p.length) (hk : k < p.length) (hne : k ≠ h) (hm : more p D h = true) (ht : (line p D h).k = 2 ∨ (line p D h).k = 3) {n : Nat} (hg : Goes p k (memOf D) n (locOf D k)) (v : Int) :
    rp p k (upd (memOf D) (line p D h).w.toNat v) n (locOf D k) = rp p k (memOf D) n (locOf D k) ∧ Goes p k (upd (memOf D) (line p D h).w.toNat v) n (locOf D k) := by
  have hp := hf.n
  have hgh := hf.line ((hr.fine hf).1.at0 h (by omega)).1 hm
  have key : ∀ i, i < n → (nxt p k (rp p k (memOf D) i (locOf D k))).k ≠ 3 ∧ ((nxt p k (rp p k (memOf D) i (locOf D k))).k = 1 → (nxt p k (rp p k (memOf D) i (locOf D k))).w.toNat ≠ (line p D h).w.toNat) := by
    intro i hi
    refine ⟨(hg i hi).2, fun k1 ew => ?_⟩
    have hc := no_clash hf hn hr hh hk hne hm hg hi
    obtain ⟨E, he⟩ := adv hf hr hk i (fun j hj => hg j (by omega))
    have hmk := (hg i hi).1
    have hgk := nxt_good hf (by rw [← he.at']; exact ((he.r.fine hf).1.at0 k (by omega)).1) hmk
    have w1 := hgk.w (by omega) (by omega)
    have w2 := hgh.w (by omega) (by omega)
    have ew2 : (line p D h).w = (nxt p k (rp p k (memOf D) i (locOf D k))).w := by omega
    unfold Sc.clash Sc.touches at hc
    rw [k1, ew2] at hc
    rcases ht with t | t
    · rw [t] at hc; simp at hc
    · rw [t] at hc; simp at hc
  have all : ∀ i, i ≤ n → rp p k (upd (memOf D) (line p D h).w.toNat v) i (locOf D k) = rp p k (memOf D) i (locOf D k) := fun i hi => rp_upd i (fun j hj => key j (by omega))
  exact ⟨all n (Nat.le_refl _), goes_upd hg all⟩
/-- What waits first is seen: the hand that stored it sees no difference. -/
theorem pop_rp {words : Int} {p : List (List Ln)} (hf : Fine words p) {h : Nat} {m : Nat → Int} {w v : Int} (hw0 : 0 ≤ w) {y : Loc} {r : List (Int × Int)} (hy : y.b = (w, v) :: r) : ∀ n, Goes p h m n y → (∀ i, i < n → 0 ≤ (rp p h m i y).at') → rp p h (upd m w.toNat v) n (pop y) = pop (rp p h m n y) ∧ ∃ r', (rp p h m n y).b = (w, v) :: r'
  | 0, _, _ => ⟨rfl, r, hy⟩
  | n + 1, hg, h0 => by
    obtain ⟨ih, r', hr'⟩ := pop_rp hf hw0 hy n (fun i hi => hg i (by omega)) (fun i hi => h0 i (by omega))
    obtain ⟨hm, h3⟩ := hg n (by omega)
    have hgd := nxt_good hf (h0 n (by omega)) hm
    constructor
    · show lstep _ (rp p h (upd m w.toNat v) n (pop y)) (nxt p h (rp p h (upd m w.toNat v) n (pop y))) = pop (lstep m (rp p h m n y) _)
      rw [ih]
      generalize rp p h m n y = z at *
      have en : nxt p h (pop z) = nxt p h z := rfl
      rw [en]
      generalize nxt p h z = l at *
      by_cases k1 : l.k = 1
      · have hw := hgd.w (by omega) (by omega)
        unfold lstep
        rw [if_neg (by omega), if_pos k1, if_neg (by omega), if_pos k1]
        have e : look (pop z).b (upd m w.toNat v l.w.toNat) l.w = look z.b (m l.w.toNat) l.w := by
          rw [hr', look_cons]
          show look (z.b.drop 1) _ _ = _
          rw [hr']
          show look r' _ _ = _
          unfold upd
          by_cases e : w = l.w
          · rw [if_pos (by rw [e]), if_pos e]
          · rw [if_neg (by omega), if_neg e]
        rw [e]; unfold setr; split <;> rfl
      · rw [lstep_loc (m' := m) k1 h3]
        exact pop_step k1 (by rw [hr']; simp)
    · show ∃ r'', (lstep m (rp p h m n y) _).b = _
      rw [lstep_b]; split
      · exact ⟨r' ++ [_], by rw [hr']; rfl⟩
      · exact ⟨r', hr'⟩
/-- What is, and what would be if nothing waited. -/
structure Sim (p : List (List Ln)) (s : TS) (D : St) : Prop where
  r : Sc.Reach p D
  m : s.m = memOf D
  l : ∀ h, h < p.length → ∃ n, s.l h = rp p h (memOf D) n (locOf D h) ∧ Goes p h (memOf D) n (locOf D h)
theorem first_store {p : List (List Ln)} {h : Nat} {m : Nat → Int} {x : Loc} (hb : x.b = []) : ∀ n, (rp p h m n x).b ≠ [] → ∃ j, j < n ∧ (rp p h m j x).b = [] ∧ (nxt p h (rp p h m j x)).k = 2
  | 0, c => absurd hb c
  | n + 1, c => by
    by_cases e : (rp p h m n x).b = []
    · refine ⟨n, by omega, e, ?_⟩
      have c' : (lstep m (rp p h m n x) (nxt p h (rp p h m n x))).b ≠ [] := c
      rw [lstep_b] at c'
      split at c'
      · assumption
      · exact absurd e c'
    · obtain ⟨j, h1, h2, h3⟩ := first_store hb n e
      exact ⟨j, by omega, h2, h3⟩
theorem sim {words : Int} {p : List (List Ln)} (hf : Fine words p) (hn : ¬ Sc.Races p) {s : TS} (hr : Reach p s) : ∃ D, Sim p s D := by
  have hp := hf.n
  induction hr with
  | zero => exact ⟨St.zero, .zero, rfl, fun h _ => ⟨0, rfl, fun i hi => by omega⟩⟩
  | @step s h hr hh hc ih =>
    obtain ⟨D, sm⟩ := ih
    obtain ⟨n, hl, hg⟩ := sm.l h hh
    have hm := can_mor hc
    have h4 : h < 4 := by omega
    by_cases k3 : (nxt p h (s.l h)).k = 3
    · have hb : (s.l h).b = [] := by
        unfold can at hc; rw [k3] at hc; simpa [hm] using hc
      obtain ⟨E, he⟩ := adv hf sm.r hh n hg
      rw [← hl] at he
      obtain ⟨q1, q2⟩ := he.quiet hb
      have hme : more p E h = true := by rw [← mor_of p h he.at'.symm]; exact hm
      have hln : nxt p h (s.l h) = line p E h := nxt_of p h he.at'.symm
      refine ⟨done E h (line p E h), .step he.r hh hme, ?_, fun k hk => ?_⟩
      · show mstep _ _ _ = _
        rw [done_mem h4, hln, q1, q2, ← sm.m]
        rw [hln] at k3
        unfold mstep; rw [if_pos k3, if_pos (.inr k3)]
      · by_cases ek : k = h
        · subst ek
          refine ⟨0, ?_, fun i hi => by omega⟩
          show put _ _ _ k = locOf _ k
          rw [put_same, done_own h4, q1, q2, ← sm.m, hln]
          refine (unb_of ?_).symm
          rw [lstep_b, if_neg (by rw [← hln]; omega)]; exact hb
        · obtain ⟨n2, e1, e2⟩ := sm.l k hk
          have eo : locOf E k = locOf D k := he.other k (by omega) ek
          rw [← eo, ← q2] at e1 e2
          obtain ⟨a, b⟩ := other_ok hf hn he.r hh hk ek hme (.inr (by rw [← hln]; exact k3)) e2 (rg (locOf E h) (line p E h))
          refine ⟨n2, ?_, ?_⟩
          · show put _ _ _ k = _
            rw [put_other ek, done_other h4 (by omega) ek, done_mem h4, if_pos (.inr (by rw [← hln]; exact k3)), a]
            exact e1
          · rw [done_other h4 (by omega) ek, done_mem h4, if_pos (.inr (by rw [← hln]; exact k3))]
            exact b
    · refine ⟨D, sm.r, ?_, fun k hk => ?_⟩
      · show mstep _ _ _ = _
        unfold mstep; rw [if_neg k3]; exact sm.m
      · by_cases ek : k = h
        · subst ek
          refine ⟨n + 1, ?_, fun i hi => ?_⟩
          · show put _ _ _ k = lstep _ (rp p k (memOf D) n (locOf D k)) (nxt p k (rp p k (memOf D) n (locOf D k)))
            rw [put_same, ← hl, sm.m]
          · by_cases ei : i < n
            · exact hg i ei
            · obtain rfl : i = n := by omega
              rw [← hl]; exact ⟨hm, k3⟩
        · obtain ⟨n2, e1, e2⟩ := sm.l k hk
          exact ⟨n2, by show put _ _ _ k = _; rw [put_other ek]; exact e1, e2⟩
  | @flush s h hr hh hb ih =>
    obtain ⟨D, sm⟩ := ih
    obtain ⟨n, hl, hg⟩ := sm.l h hh
    have h4 : h < 4 := by omega
    obtain ⟨j, hj, hjb, hj2⟩ := first_store (p := p) (h := h) (m := memOf D) (x := locOf D h) rfl n (by rw [← hl]; exact hb)
    obtain ⟨E, he⟩ := adv hf sm.r hh j (fun i hi => hg i (by omega))
    obtain ⟨q1, q2⟩ := he.quiet hjb
    have hme : more p E h = true := by rw [← mor_of p h he.at'.symm]; exact (hg j hj).1
    have hln : nxt p h (rp p h (memOf D) j (locOf D h)) = line p E h := nxt_of p h he.at'.symm
    have hgd := hf.line ((he.r.fine hf).1.at0 h h4).1 hme
    have hk2 : (line p E h).k = 2 := by rw [← hln]; exact hj2
    have hw := hgd.w (by omega) (by omega)
    have hF : done E h (line p E h) = done E h (line p E h) := rfl
    generalize hx : rp p h (memOf D) j (locOf D h) = x at *
    have hy : rp p h (memOf D) (j + 1) (locOf D h) = lstep (memOf D) x (line p E h) := by
      show lstep _ (rp p h (memOf D) j (locOf D h)) (nxt p h (rp p h (memOf D) j (locOf D h))) = _
      rw [hx, hln]
    have hyb : (lstep (memOf D) x (line p E h)).b = [((line p E h).w, rg x (line p E h))] := by
      rw [lstep_b, if_pos hk2, hjb]; rfl
    have hrest : rp p h (memOf D) (n - (j + 1)) (lstep (memOf D) x (line p E h)) = s.l h := by
      rw [← hy, ← rp_add, hl]; congr 1; omega
    have hgr : Goes p h (memOf D) (n - (j + 1)) (lstep (memOf D) x (line p E h)) := by
      intro i hi
      rw [← hy, ← rp_add]; exact hg (j + 1 + i) (by omega)
    have hat : ∀ i, i < n - (j + 1) → 0 ≤ (rp p h (memOf D) i (lstep (memOf D) x (line p E h))).at' := by
      intro i hi
      rw [← hy, ← rp_add]
      obtain ⟨E', he'⟩ := adv hf sm.r hh (j + 1 + i) (fun a ha => hg a (by omega))
      rw [← he'.at']; exact ((he'.r.fine hf).1.at0 h h4).1
    obtain ⟨pa, r', hr'⟩ := pop_rp hf hw.1 hyb (n - (j + 1)) hgr hat
    rw [hrest] at pa hr'
    have hown : locOf (done E h (line p E h)) h = pop (lstep (memOf D) x (line p E h)) := by
      rw [done_own h4, q1, q2]
      unfold pop unb; rw [hyb]; rfl
    have hmem : memOf (done E h (line p E h)) = upd (memOf D) (line p E h).w.toNat (rg x (line p E h)) := by
      rw [done_mem h4, if_pos (.inl hk2), q1, q2]
    refine ⟨done E h (line p E h), .step he.r hh hme, ?_, fun k hk => ?_⟩
    · rw [flush_cons hr', hmem, ← sm.m]
    · rw [flush_cons hr']
      by_cases ek : k = h
      · subst ek
        refine ⟨n - (j + 1), ?_, fun i hi => ?_⟩
        · show put _ _ _ k = _
          rw [put_same, hmem, hown, pa]
          unfold pop; rw [hr']; rfl
        · rw [hmem, hown]
          have := (pop_rp hf hw.1 hyb i (fun a ha => hgr a (by omega)) (fun a ha => hat a (by omega))).1
          rw [this]
          exact hgr i hi
      · obtain ⟨n2, e1, e2⟩ := sm.l k hk
        have eo : locOf E k = locOf D k := he.other k (by omega) ek
        rw [← eo, ← q2] at e1 e2
        obtain ⟨a, b⟩ := other_ok hf hn he.r hh hk ek hme (.inl hk2) e2 (rg x (line p E h))
        rw [q2] at a b
        refine ⟨n2, ?_, ?_⟩
        · show put _ _ _ k = _
          rw [put_other ek, done_other h4 (by omega) ek, hmem, a, ← q2]
          exact e1
        · rw [done_other h4 (by omega) ek, hmem]
          exact b

/-! The ends are the same. -/
theorem result_same {words : Int} {p : List (List Ln)} (hf : Fine words p) {s : TS} {D : St} (hm : s.m = memOf D) (hl : ∀ h, h < p.length → s.l h = locOf D h) : result words p (enc s) = result words p D := by
  have hp := hf.n
  have hw := hf.w
  unfold result
  congr 1
  · refine List.map_congr_left (fun j hj => ?_)
    have hj : j < 2 * p.length := by simpa using hj
    have hk : j / 2 < p.length := by omega
    have hh := hl (j / 2) hk
    by_cases e : j % 2 = 0
    · rw [show 4 + j = 4 + (j / 2) * 2 by omega, enc_r0 s (by omega), hh]; rfl
    · rw [show 4 + j = 4 + (j / 2) * 2 + 1 by omega, enc_r1 s (by omega), hh]; rfl
  · refine List.map_congr_left (fun j hj => ?_)
    have hj : j < words.toNat := by simpa using hj
    rw [enc_word s (by omega), hm]; rfl
theorem rp_b {p : List (List Ln)} {h : Nat} {m : Nat → Int} {x : Loc} : ∀ n, (rp p h m n x).b = [] → ∀ i, i ≤ n → (rp p h m i x).b = []
  | 0, e, i, hi => by obtain rfl : i = 0 := by omega
                      exact e
  | n + 1, e, i, hi => by
    by_cases ei : i = n + 1
    · subst ei; exact e
    · have e' : (lstep m (rp p h m n x) (nxt p h (rp p h m n x))).b = [] := e
      rw [lstep_b] at e'
      split at e'
      · simp at e'
      · exact rp_b n e' i (by omega)
/-- All hands come to where nothing waits. -/
theorem sim_end {words : Int} {p : List (List Ln)} (hf : Fine words p) {s : TS} {D : St} (sm : Sim p s D) (hb : ∀ h, h < p.length → (s.l h).b = []) : ∀ k, k ≤ p.length → ∃ E, Sc.Reach p E ∧ memOf E = memOf D ∧ (∀ h, h < k → locOf E h = s.l h) ∧ ∀ h, k ≤ h → h < p.length → locOf E h = locOf D h
  | 0, _ => ⟨D, sm.r, rfl, fun h hh => by omega, fun _ _ _ => rfl⟩
  | k + 1, hk => by
    have hp := hf.n
    obtain ⟨E, e1, e2, e3, e4⟩ := sim_end hf sm hb k (by omega)
    obtain ⟨n, hl, hg⟩ := sm.l k (by omega)
    rw [← e2, ← e4 k (Nat.le_refl _) (by omega)] at hl hg
    obtain ⟨F, hF⟩ := adv hf e1 (show k < p.length by omega) n hg
    rw [← hl] at hF
    obtain ⟨q1, q2⟩ := hF.quiet (hb k (by omega))
    refine ⟨F, hF.r, by rw [q2, e2], fun h hh => ?_, fun h h1 h2 => ?_⟩
    · by_cases eh : h = k
      · subst eh; exact q1
      · rw [hF.other h (by omega) eh]; exact e3 h (by omega)
    · rw [hF.other h (by omega) (by omega)]; exact e4 h (by omega) h2
theorem ends_quiet {words : Int} {p : List (List Ln)} (hf : Fine words p) (hn : ¬ Sc.Races p) {x : List Int} (h : Ends words p x) : Sc.Ends words p x := by
  obtain ⟨s, hr, ht, rfl⟩ := h
  obtain ⟨D, sm⟩ := sim hf hn hr
  obtain ⟨E, e1, e2, e3, -⟩ := sim_end hf sm (fun h hh => (ht h hh).2) p.length (Nat.le_refl _)
  refine ⟨E, e1, fun h hh => ?_, ?_⟩
  · rw [← mor_of p h (x := s.l h) (congrArg Loc.at' (e3 h hh)).symm]; exact (ht h hh).1
  · exact result_same hf (by rw [e2]; exact sm.m) (fun h hh => (e3 h hh).symm)
/-- All that may be where nothing waits. -/
theorem at_once {words : Int} {p : List (List Ln)} (hf : Fine words p) {D : St} (hr : Sc.Reach p D) : ∃ s, Reach p s ∧ s.m = memOf D ∧ ∀ h, h < p.length → s.l h = locOf D h := by
  have hp := hf.n
  induction hr with
  | zero => exact ⟨_, .zero, rfl, fun _ _ => rfl⟩
  | @step D h hr hh hm ih =>
    obtain ⟨s, h1, h2, h3⟩ := ih
    have h4 : h < 4 := by omega
    have hx := h3 h hh
    have ea : (s.l h).at' = D h := congrArg Loc.at' hx
    have eb : (s.l h).b = [] := congrArg Loc.b hx
    have hln := nxt_of p h ea
    have hc : can p h (s.l h) = true := by
      unfold can; rw [mor_of p h ea, hm, eb]; simp
    have s1 := Reach.step h1 hh hc
    by_cases k2 : (line p D h).k = 2
    · have hb : ((step p s h).l h).b = [((line p D h).w, rg (s.l h) (line p D h))] := by
        show (put _ _ _ h).b = _
        rw [put_same, lstep_b, hln, if_pos k2, eb]; rfl
      have s2 := Reach.flush s1 hh (by rw [hb]; simp)
      refine ⟨_, s2, ?_, fun k hk => ?_⟩
      · rw [flush_cons hb, done_mem h4, if_pos (.inl k2), ← hx, ← h2]
        show upd (mstep _ _ _) _ _ = _
        unfold mstep; rw [hln, if_neg (by omega)]
      · rw [flush_cons hb]
        show put (put _ _ _) _ _ k = _
        by_cases ek : k = h
        · subst ek
          rw [put_same, done_own h4]
          show ({ (put s.l k (lstep s.m (s.l k) (nxt p k (s.l k))) k) with b := [] } : Loc) = _
          rw [put_same, hln, hx, h2]; rfl
        · rw [put_other ek, put_other ek, done_other h4 (by omega) ek]; exact h3 k hk
    · refine ⟨_, s1, ?_, fun k hk => ?_⟩
      · show mstep _ _ _ = _
        rw [done_mem h4]
        unfold mstep; rw [hln, h2, hx]
        by_cases k3 : (line p D h).k = 3
        · rw [if_pos k3, if_pos (.inr k3)]
        · rw [if_neg k3, if_neg (by omega)]
      · show put _ _ _ k = _
        by_cases ek : k = h
        · subst ek
          rw [put_same, done_own h4, hln, h2, hx]
          refine (unb_of ?_).symm
          rw [lstep_b, if_neg k2]; rfl
        · rw [put_other ek, done_other h4 (by omega) ek]; exact h3 k hk
theorem ends_more {words : Int} {p : List (List Ln)} (hf : Fine words p) {x : List Int} (h : Sc.Ends words p x) : Ends words p x := by
  obtain ⟨D, hr, ht, rfl⟩ := h
  obtain ⟨s, h1, h2, h3⟩ := at_once hf hr
  refine ⟨s, h1, fun k hk => ⟨?_, by rw [h3 k hk]; rfl⟩, (result_same hf h2 h3).symm⟩
  rw [mor_of p k (D := D) (by rw [h3 k hk]; rfl)]; exact ht k hk
theorem res_quiet {words : Int} {p : List (List Ln)} (hf : Fine words p) (hn : ¬ Sc.Races p) {L M : List (List Int)} (h : Sc.Res words p L) (k : Res words p M) : L = M :=
  Bfs.Rise.one h.rise k.rise (fun x => by rw [h.mem, k.mem]; exact ⟨ends_more hf, ends_quiet hf hn⟩)
theorem res_more {words : Int} {p : List (List Ln)} (hf : Fine words p) {L M : List (List Int)} (h : Sc.Res words p L) (k : Res words p M) : (∀ x ∈ L, x ∈ M) ∧ L.length ≤ M.length := by
  have e : ∀ x ∈ L, x ∈ M := fun x hx => (k.mem x).2 (ends_more hf ((h.mem x).1 hx))
  exact ⟨e, Bfs.nodup_le L M (Sc.Rise.nodup h.rise) e⟩
theorem alone_quiet {p : List (List Ln)} (h : p.length ≤ 1) : ¬ Sc.Races p := by
  rintro ⟨f, -, a, b, h1, h2, -⟩; omega

/-! Behind fences. -/
structure Fen (p : List (List Ln)) : Prop where
  no5 : ∀ h, h < p.length → ∀ i, i < (lines p h).length → ((lines p h).getD i Ln.zero).k ≠ 5
  fence : ∀ h, h < p.length → ∀ i, i < (lines p h).length → ((lines p h).getD i Ln.zero).k = 2 → i + 1 < (lines p h).length ∧ ((lines p h).getD (i + 1) Ln.zero).k = 4
structure FSim (p : List (List Ln)) (s : TS) (D : St) : Prop where
  r : Sc.Reach p D
  m : s.m = memOf D
  l : ∀ h, h < p.length → s.l h = locOf D h ∨ (more p D h = true ∧ (line p D h).k = 2 ∧ s.l h = lstep (memOf D) (locOf D h) (line p D h))
theorem fsim {words : Int} {p : List (List Ln)} (hf : Fine words p) (hF : Fen p) {s : TS} (hr : Reach p s) : ∃ D, FSim p s D := by
  have hp := hf.n
  have stay : ∀ (m m' : Nat → Int) (x : Loc) (l : Ln), l.k = 2 → lstep m x l = lstep m' x l := fun m m' x l e => lstep_loc (by omega) (by omega)
  induction hr with
  | zero => exact ⟨St.zero, .zero, rfl, fun h _ => .inl rfl⟩
  | @step s h hr hh hc ih =>
    obtain ⟨D, sm⟩ := ih
    have hm := can_mor hc
    have h4 : h < 4 := by omega
    have ho := (sm.r.fine hf).1.at0 h h4
    rcases sm.l h hh with hl | ⟨h1, h2, h3⟩
    · have ea : (s.l h).at' = D h := congrArg Loc.at' hl
      have eb : (s.l h).b = [] := congrArg Loc.b hl
      have hln := nxt_of p h ea
      rw [mor_of p h ea] at hm
      by_cases k2 : (line p D h).k = 2
      · refine ⟨D, sm.r, ?_, fun k hk => ?_⟩
        · show mstep _ _ _ = _
          unfold mstep; rw [hln, if_neg (by omega)]; exact sm.m
        · by_cases ek : k = h
          · subst ek
            refine .inr ⟨hm, k2, ?_⟩
            show put _ _ _ k = _
            rw [put_same, hln, hl, sm.m]
          · have := sm.l k hk
            rw [show (step p s h).l k = s.l k from put_other ek]; exact this
      · refine ⟨done D h (line p D h), .step sm.r hh hm, ?_, fun k hk => ?_⟩
        · show mstep _ _ _ = _
          rw [done_mem h4]
          unfold mstep; rw [hln, sm.m, hl]
          by_cases k3 : (line p D h).k = 3
          · rw [if_pos k3, if_pos (.inr k3)]
          · rw [if_neg k3, if_neg (by omega)]
        · by_cases ek : k = h
          · subst ek
            left
            show put _ _ _ k = _
            rw [put_same, done_own h4, hln, sm.m, hl]
            refine (unb_of ?_).symm
            rw [lstep_b, if_neg k2]; rfl
          · rw [show (step p s h).l k = s.l k from put_other ek]
            have eo := done_other (D := D) (l := line p D h) h4 (show k < 4 by omega) ek
            have eat : done D h (line p D h) k = D k := congrArg Loc.at' eo
            rcases sm.l k hk with a | ⟨a, b, c⟩
            · exact .inl (by rw [eo]; exact a)
            · have el : line p (done D h (line p D h)) k = line p D k := by
                generalize done D h (line p D h) = D' at eat ⊢
                unfold line; rw [eat]
              refine .inr ⟨?_, ?_, ?_⟩
              · unfold more at a ⊢; rw [eat]; exact a
              · rw [el]; exact b
              · rw [eo, el, c]; exact stay _ _ _ _ b
    · exfalso
      have hb : (s.l h).b ≠ [] := by rw [h3, lstep_b, if_pos h2]; simp
      have hmm := h1
      unfold more at hmm
      simp at hmm
      have hi : (D h).toNat < (lines p h).length := by omega
      have hfe := hF.fence h hh _ hi h2
      have hat : (s.l h).at' = D h + 1 := by rw [h3, lstep_at, if_neg (by omega)]; rfl
      have hk : (nxt p h (s.l h)).k = 4 := by
        unfold nxt; rw [hat, show (D h + 1).toNat = (D h).toNat + 1 by omega]; exact hfe.2
      unfold can at hc
      rw [hk] at hc
      simp [hb] at hc
  | @flush s h hr hh hb ih =>
    obtain ⟨D, sm⟩ := ih
    have h4 : h < 4 := by omega
    rcases sm.l h hh with hl | ⟨h1, h2, h3⟩
    · exact absurd (congrArg Loc.b hl) hb
    · have hbb : (s.l h).b = [((line p D h).w, rg (locOf D h) (line p D h))] := by rw [h3, lstep_b, if_pos h2]; rfl
      refine ⟨done D h (line p D h), .step sm.r hh h1, ?_, fun k hk => ?_⟩
      · rw [flush_cons hbb, done_mem h4, if_pos (.inl h2), sm.m]
      · rw [flush_cons hbb]
        show put _ _ _ k = _ ∨ _ ∧ _ ∧ put _ _ _ k = _
        by_cases ek : k = h
        · subst ek
          left
          rw [put_same, done_own h4, h3]; rfl
        · rw [put_other ek]
          have eo := done_other (D := D) (l := line p D h) h4 (show k < 4 by omega) ek
          have eat : done D h (line p D h) k = D k := congrArg Loc.at' eo
          rcases sm.l k hk with a | ⟨a, b, c⟩
          · exact .inl (by rw [eo]; exact a)
          · have el : line p (done D h (line p D h)) k = line p D k := by
              generalize done D h (line p D h) = D' at eat ⊢
              unfold line; rw [eat]
            refine .inr ⟨?_, ?_, ?_⟩
            · unfold more at a ⊢; rw [eat]; exact a
            · rw [el]; exact b
            · rw [eo, el, c]; exact stay _ _ _ _ b
theorem ends_fenced {words : Int} {p : List (List Ln)} (hf : Fine words p) (hF : Fen p) {x : List Int} (h : Ends words p x) : Sc.Ends words p x := by
  obtain ⟨s, hr, ht, rfl⟩ := h
  obtain ⟨D, sm⟩ := fsim hf hF hr
  have hl : ∀ h, h < p.length → s.l h = locOf D h := by
    intro h hh
    rcases sm.l h hh with a | ⟨a, b, c⟩
    · exact a
    · exfalso
      have := (ht h hh).2
      rw [c, lstep_b, if_pos b] at this
      simp at this
  refine ⟨D, sm.r, fun h hh => ?_, result_same hf sm.m hl⟩
  rw [← mor_of p h (x := s.l h) (by rw [hl h hh]; rfl)]; exact (ht h hh).1
theorem res_fenced {words : Int} {p : List (List Ln)} (hf : Fine words p) (hF : Fen p) {L M : List (List Int)} (h : Sc.Res words p L) (k : Res words p M) : L = M :=
  Bfs.Rise.one h.rise k.rise (fun x => by rw [h.mem, k.mem]; exact ⟨ends_more hf, ends_fenced hf hF⟩)

/-! Two hands the other way round. -/
def sh (h : Nat) : Nat := if h = 0 then 1 else if h = 1 then 0 else h
theorem sh_sh (h : Nat) : sh (sh h) = h := by unfold sh; repeat' split
                                              all_goals omega
theorem sh_lt {h : Nat} (hh : h < 2) : sh h < 2 := by unfold sh; repeat' split
                                                      all_goals omega
theorem sh_swi {h : Nat} (hh : h < 2) : sh h = Sc.swi h := by
  obtain rfl | rfl : h = 0 ∨ h = 1 := by omega
  · rfl
  · rfl
def swT (s : TS) : TS := ⟨s.m, fun h => s.l (sh h)⟩
theorem put_sh (f : Nat → Loc) (h : Nat) (x : Loc) : (fun k => put f h x (sh k)) = put (fun k => f (sh k)) (sh h) x := by
  funext k
  unfold put
  by_cases e : sh k = h
  · rw [if_pos e, if_pos (by rw [← e, sh_sh])]
  · rw [if_neg e, if_neg (fun c => e (by rw [c, sh_sh]))]
theorem nxt_sh (a b : List Ln) {h : Nat} (hh : h < 2) (x : Loc) : nxt [b, a] (sh h) x = nxt [a, b] h x := by
  unfold nxt; rw [sh_swi hh, Sc.lines_sw a b hh]
theorem mor_sh (a b : List Ln) {h : Nat} (hh : h < 2) (x : Loc) : mor [b, a] (sh h) x = mor [a, b] h x := by
  unfold mor; rw [sh_swi hh, Sc.lines_sw a b hh]
theorem swT_l (s : TS) (h : Nat) : (swT s).l (sh h) = s.l h := by show s.l (sh (sh h)) = _; rw [sh_sh]
theorem swT_step (a b : List Ln) (s : TS) {h : Nat} (hh : h < 2) : swT (step [a, b] s h) = step [b, a] (swT s) (sh h) := by
  unfold step
  rw [swT_l, nxt_sh a b hh]
  show (⟨_, _⟩ : TS) = _
  rw [put_sh]; rfl
theorem swT_flush (s : TS) (h : Nat) : swT (flush s h) = flush (swT s) (sh h) := by
  cases hb : (s.l h).b with
  | nil => unfold flush; rw [swT_l, hb]
  | cons x r =>
    rw [flush_cons hb, flush_cons (s := swT s) (h := sh h) (x := x) (r := r) (by rw [swT_l]; exact hb), swT_l]
    show (⟨_, _⟩ : TS) = _
    rw [put_sh]; rfl
theorem Reach.sw {a b : List Ln} {s : TS} (h : Reach [a, b] s) : Reach [b, a] (swT s) := by
  induction h with
  | zero => exact .zero
  | @step s h hr hh hc ih =>
    have h2 : h < 2 := by simpa using hh
    rw [swT_step a b s h2]
    refine .step ih (by simpa using sh_lt h2) ?_
    unfold can at hc ⊢
    rw [swT_l, mor_sh a b h2, nxt_sh a b h2]; exact hc
  | @flush s h hr hh hb ih =>
    have h2 : h < 2 := by simpa using hh
    rw [swT_flush]
    exact .flush ih (by simpa using sh_lt h2) (by rw [swT_l]; exact hb)
theorem Term.sw {a b : List Ln} {s : TS} (h : Term [a, b] s) : Term [b, a] (swT s) := by
  intro k hk
  have h2 : k < 2 := by simpa using hk
  have h3 := h (sh k) (by simpa using sh_lt h2)
  rw [← mor_sh a b (sh_lt h2), sh_sh] at h3
  exact h3
theorem result_sw {words : Int} (hw : words ≤ 4) (a b : List Ln) (s : TS) : result words [b, a] (enc (swT s)) = Sc.turned (result words [a, b] (enc s)) := by
  rw [Sc.result2, Sc.result2]
  have e : ∀ j ∈ List.range words.toNat, enc (swT s) (12 + j) = enc s (12 + j) := fun j hj => by
    have : j < words.toNat := by simpa using hj
    rw [enc_word _ (by omega), enc_word _ (by omega)]; rfl
  rw [List.map_congr_left e]
  have q4 : enc (swT s) 4 = enc s 6 := by rw [enc_r0 (swT s) (h := 0) (by omega), enc_r0 s (h := 1) (by omega)]; rfl
  have q5 : enc (swT s) 5 = enc s 7 := by rw [enc_r1 (swT s) (h := 0) (by omega), enc_r1 s (h := 1) (by omega)]; rfl
  have q6 : enc (swT s) 6 = enc s 4 := by rw [enc_r0 (swT s) (h := 1) (by omega), enc_r0 s (h := 0) (by omega)]; rfl
  have q7 : enc (swT s) 7 = enc s 5 := by rw [enc_r1 (swT s) (h := 1) (by omega), enc_r1 s (h := 0) (by omega)]; rfl
  rw [q4, q5, q6, q7]
  simp [Sc.turned]
theorem Ends.sw {words : Int} (hw : words ≤ 4) {a b : List Ln} {x : List Int} (h : Ends words [a, b] x) : Ends words [b, a] (Sc.turned x) := by
  obtain ⟨s, hr, ht, rfl⟩ := h
  exact ⟨_, hr.sw, ht.sw, (result_sw hw a b s).symm⟩
theorem Ends.long {words : Int} {a b : List Ln} {x : List Int} (h : Ends words [a, b] x) : 4 ≤ x.length := by
  obtain ⟨s, hr, ht, rfl⟩ := h
  rw [Sc.result2]; simp
theorem swT_swT (s : TS) : swT (swT s) = s := by
  show (⟨s.m, fun h => s.l (sh (sh h))⟩ : TS) = s
  simp only [sh_sh]
theorem turned_turned {words : Int} (hw : words ≤ 4) {a b : List Ln} {x : List Int} (h : Ends words [a, b] x) : Sc.turned (Sc.turned x) = x := by
  obtain ⟨s, hr, ht, rfl⟩ := h
  rw [← result_sw hw, ← result_sw hw, swT_swT]
theorem turned_le {words : Int} (hw : words ≤ 4) {a b : List Ln} {R S : List (List Int)} (h : Res words [a, b] R) (k : Res words [b, a] S) : R.length ≤ S.length := by
  have := Bfs.nodup_le (R.map Sc.turned) S (Sc.nodup_map Sc.turned R (fun x hx y hy e => by
    have := congrArg Sc.turned e
    rw [turned_turned hw ((h.mem x).1 hx), turned_turned hw ((h.mem y).1 hy)] at this
    exact this) (Sc.Rise.nodup h.rise)) (fun y hy => by
    obtain ⟨x, hx, rfl⟩ := List.mem_map.1 hy
    exact (k.mem _).2 (((h.mem x).1 hx).sw hw))
  simpa using this
theorem turned_len {words : Int} (hw : words ≤ 4) {a b : List Ln} {R S : List (List Int)} (h : Res words [a, b] R) (k : Res words [b, a] S) : R.length = S.length :=
  Nat.le_antisymm (turned_le hw h k) (turned_le hw k h)
theorem ends_len {words : Int} {p : List (List Ln)} {x : List Int} (h : Ends words p x) : x.length = 2 * p.length + words.toNat := by
  obtain ⟨f, hr, ht, rfl⟩ := h
  simp [result]
end Go.Proofs.YtimbdjmplcgilaaDoor.Tso
