import Derived.Test.YtllbmjnimfpghaaDoorScLaw
namespace Go.Proofs.YtllbmjnimfpghaaDoor.Tso
open Pr
set_option linter.unusedVariables false
set_option linter.unusedSimpArgs false

/-! Programs whose stores wait: each hand has its line, two registers, and what it stored and nobody has seen. -/
structure Loc where
  at' : Int
  r0 : Int
  r1 : Int
  b : List (Int × Int)
def Loc.zero : Loc := ⟨0, 0, 0, []⟩
structure TS where
  m : Nat → Int
  l : Nat → Loc
def TS.zero : TS := ⟨fun _ => 0, fun _ => Loc.zero⟩
/-- What is seen through what waits. -/
def look (b : List (Int × Int)) (d w : Int) : Int := b.foldl (fun a x => if x.1 = w then x.2 else a) d
theorem look_nil (d w : Int) : look [] d w = d := rfl
theorem look_cons (x : Int × Int) (r : List (Int × Int)) (d w : Int) : look (x :: r) d w = look r (if x.1 = w then x.2 else d) w := rfl
theorem look_snoc (x : Int × Int) (r : List (Int × Int)) (d w : Int) : look (r ++ [x]) d w = if x.1 = w then x.2 else look r d w := by simp [look]
def rg (x : Loc) (l : Ln) : Int := if 0 < l.r then x.r1 else x.r0
def setr (x : Loc) (l : Ln) (v : Int) : Loc := if 0 < l.r then { x with r1 := v } else { x with r0 := v }
/-- A hand's own part of a line. -/
def lstep (m : Nat → Int) (x : Loc) (l : Ln) : Loc :=
  if l.k = 0 then setr { x with at' := x.at' + 1 } l l.v
  else if l.k = 1 then setr { x with at' := x.at' + 1 } l (look x.b (m l.w.toNat) l.w)
  else if l.k = 2 then { x with at' := x.at' + 1, b := x.b ++ [(l.w, rg x l)] }
  else if l.k = 3 then setr { x with at' := x.at' + 1 } l (m l.w.toNat)
  else if l.k = 5 ∧ rg x l = 0 then { x with at' := x.at' + 1 + l.v }
  else { x with at' := x.at' + 1 }
/-- The words' part. -/
def mstep (m : Nat → Int) (x : Loc) (l : Ln) : Nat → Int := if l.k = 3 then upd m l.w.toNat (rg x l) else m
def put (f : Nat → Loc) (h : Nat) (x : Loc) : Nat → Loc := fun k => if k = h then x else f k
theorem put_same (f : Nat → Loc) (h : Nat) (x : Loc) : put f h x h = x := by simp [put]
theorem put_other {f : Nat → Loc} {h k : Nat} {x : Loc} (e : k ≠ h) : put f h x k = f k := by simp [put, e]
theorem put_put (f : Nat → Loc) (h : Nat) (x y : Loc) : put (put f h x) h y = put f h y := by
  funext k; unfold put; split <;> rfl
theorem put_self (f : Nat → Loc) (h : Nat) : put f h (f h) = f := by
  funext k; unfold put; split
  · subst_vars; rfl
  · rfl
def nxt (p : List (List Ln)) (h : Nat) (x : Loc) : Ln := (lines p h).getD x.at'.toNat Ln.zero
def mor (p : List (List Ln)) (h : Nat) (x : Loc) : Bool := decide (x.at' < ((lines p h).length : Int))
/-- The hand may do its next line. -/
def can (p : List (List Ln)) (h : Nat) (x : Loc) : Bool := mor p h x && (x.b.isEmpty || !((nxt p h x).k == 3 || (nxt p h x).k == 4))
def step (p : List (List Ln)) (s : TS) (h : Nat) : TS := ⟨mstep s.m (s.l h) (nxt p h (s.l h)), put s.l h (lstep s.m (s.l h) (nxt p h (s.l h)))⟩
/-- What waited longest is seen. -/
def flush (s : TS) (h : Nat) : TS := match (s.l h).b with
  | [] => s
  | x :: r => ⟨upd s.m x.1.toNat x.2, put s.l h { s.l h with b := r }⟩
theorem flush_cons {s : TS} {h : Nat} {x : Int × Int} {r : List (Int × Int)} (e : (s.l h).b = x :: r) : flush s h = ⟨upd s.m x.1.toNat x.2, put s.l h { s.l h with b := r }⟩ := by
  unfold flush; rw [e]
inductive Reach (p : List (List Ln)) : TS → Prop
  | zero : Reach p TS.zero
  | step {s : TS} {h : Nat} : Reach p s → h < p.length → can p h (s.l h) = true → Reach p (step p s h)
  | flush {s : TS} {h : Nat} : Reach p s → h < p.length → (s.l h).b ≠ [] → Reach p (flush s h)
def Term (p : List (List Ln)) (s : TS) : Prop := ∀ h, h < p.length → mor p h (s.l h) = false ∧ (s.l h).b = []

/-! A state as sixty numbers. -/
def enc (s : TS) : St := fun j =>
  if j < 4 then (s.l j).at'
  else if j < 12 then (if (j - 4) % 2 = 0 then (s.l ((j - 4) / 2)).r0 else (s.l ((j - 4) / 2)).r1)
  else if j < 16 then s.m (j - 12)
  else if j < 56 then (if (j - 16) % 2 = 0 then ((s.l ((j - 16) / 10)).b.getD ((j - 16) % 10 / 2) (0, 0)).1 else ((s.l ((j - 16) / 10)).b.getD ((j - 16) % 10 / 2) (0, 0)).2)
  else if j < 60 then ((s.l (j - 56)).b.length : Int)
  else 0
theorem enc_at (s : TS) {h : Nat} (hh : h < 4) : enc s h = (s.l h).at' := by simp [enc, hh]
theorem enc_r0 (s : TS) {h : Nat} (hh : h < 4) : enc s (4 + h * 2) = (s.l h).r0 := by
  unfold enc
  rw [if_neg (by omega), if_pos (by omega), if_pos (by omega), show (4 + h * 2 - 4) / 2 = h by omega]
theorem enc_r1 (s : TS) {h : Nat} (hh : h < 4) : enc s (4 + h * 2 + 1) = (s.l h).r1 := by
  unfold enc
  rw [if_neg (by omega), if_pos (by omega), if_neg (by omega), show (4 + h * 2 + 1 - 4) / 2 = h by omega]
theorem enc_reg (s : TS) {h : Nat} (hh : h < 4) (l : Ln) : enc s (reg h l) = rg (s.l h) l := by
  unfold reg rg
  split
  · exact enc_r1 s hh
  · exact enc_r0 s hh
theorem enc_word (s : TS) {w : Nat} (hw : w < 4) : enc s (12 + w) = s.m w := by
  unfold enc
  rw [if_neg (by omega), if_neg (by omega), if_pos (by omega), show 12 + w - 12 = w by omega]
theorem enc_bw (s : TS) {h i : Nat} (hh : h < 4) (hi : i < 5) : enc s (16 + h * 10 + i * 2) = ((s.l h).b.getD i (0, 0)).1 := by
  unfold enc
  rw [if_neg (by omega), if_neg (by omega), if_neg (by omega), if_pos (by omega), if_pos (by omega), show (16 + h * 10 + i * 2 - 16) / 10 = h by omega, show (16 + h * 10 + i * 2 - 16) % 10 / 2 = i by omega]
theorem enc_bv (s : TS) {h i : Nat} (hh : h < 4) (hi : i < 5) : enc s (16 + h * 10 + i * 2 + 1) = ((s.l h).b.getD i (0, 0)).2 := by
  unfold enc
  rw [if_neg (by omega), if_neg (by omega), if_neg (by omega), if_pos (by omega), if_neg (by omega), show (16 + h * 10 + i * 2 + 1 - 16) / 10 = h by omega, show (16 + h * 10 + i * 2 + 1 - 16) % 10 / 2 = i by omega]
theorem enc_many (s : TS) {h : Nat} (hh : h < 4) : enc s (56 + h) = ((s.l h).b.length : Int) := by
  unfold enc
  rw [if_neg (by omega), if_neg (by omega), if_neg (by omega), if_neg (by omega), if_pos (by omega), show 56 + h - 56 = h by omega]
/-- Each of the numbers is one of these. -/
theorem cell_cases {j : Nat} (hj : j < 60) : j < 4 ∨ (∃ h, h < 4 ∧ (j = 4 + h * 2 ∨ j = 4 + h * 2 + 1)) ∨ (∃ w, w < 4 ∧ j = 12 + w) ∨ (∃ h i, h < 4 ∧ i < 5 ∧ (j = 16 + h * 10 + i * 2 ∨ j = 16 + h * 10 + i * 2 + 1)) ∨ ∃ h, h < 4 ∧ j = 56 + h := by
  by_cases a : j < 4
  · exact .inl a
  · by_cases b : j < 12
    · exact .inr (.inl ⟨(j - 4) / 2, by omega, by omega⟩)
    · by_cases c : j < 16
      · exact .inr (.inr (.inl ⟨j - 12, by omega, by omega⟩))
      · by_cases d : j < 56
        · exact .inr (.inr (.inr (.inl ⟨(j - 16) / 10, (j - 16) % 10 / 2, by omega, by omega, by omega⟩)))
        · exact .inr (.inr (.inr (.inr ⟨j - 56, by omega, by omega⟩)))
theorem enc_out (s : TS) {j : Nat} (hj : 60 ≤ j) : enc s j = 0 := by
  unfold enc
  rw [if_neg (by omega), if_neg (by omega), if_neg (by omega), if_neg (by omega), if_neg (by omega)]
theorem enc_zero : enc TS.zero = St.zero := by
  funext j
  unfold enc TS.zero Loc.zero St.zero
  simp

/-! What is true of each state. -/
structure Ok (words : Int) (p : List (List Ln)) (s : TS) : Prop where
  at0 : ∀ h, 0 ≤ (s.l h).at' ∧ (s.l h).at' ≤ 10
  many : ∀ h, ((s.l h).b.length : Int) ≤ (s.l h).at' ∧ (s.l h).b.length ≤ 5
  wb : ∀ h, ∀ x ∈ (s.l h).b, 0 ≤ x.1 ∧ x.1 ≤ words - 1
  far : ∀ h, p.length ≤ h → s.l h = Loc.zero
  mem : ∀ j, 4 ≤ j → s.m j = 0
theorem ok_zero (words : Int) (p : List (List Ln)) : Ok words p TS.zero :=
  ⟨fun h => by simp [TS.zero, Loc.zero], fun h => by simp [TS.zero, Loc.zero], fun h x hx => by simp [TS.zero, Loc.zero] at hx, fun _ _ => rfl, fun _ _ => rfl⟩
theorem nxt_good {words : Int} {p : List (List Ln)} (hf : Fine words p) {h : Nat} {x : Loc} (h0 : 0 ≤ x.at') (hm : mor p h x = true) : Good words (nxt p h x) := by
  unfold mor at hm
  simp at hm
  have : x.at'.toNat < (lines p h).length := by omega
  refine (hf.lines h).2 _ ?_
  unfold nxt
  rw [List.getD_eq_getElem?_getD, List.getElem?_eq_getElem this]
  exact List.getElem_mem _
theorem can_mor {p : List (List Ln)} {h : Nat} {x : Loc} (hc : can p h x = true) : mor p h x = true := by
  unfold can at hc; simp only [Bool.and_eq_true] at hc; exact hc.1
theorem setr_at (x : Loc) (l : Ln) (v : Int) : (setr x l v).at' = x.at' := by unfold setr; split <;> rfl
theorem setr_b (x : Loc) (l : Ln) (v : Int) : (setr x l v).b = x.b := by unfold setr; split <;> rfl
theorem lstep_at (m : Nat → Int) (x : Loc) (l : Ln) : (lstep m x l).at' = if l.k = 5 ∧ rg x l = 0 then x.at' + 1 + l.v else x.at' + 1 := by
  unfold lstep
  by_cases k5 : l.k = 5 ∧ rg x l = 0
  · rw [if_neg (by omega), if_neg (by omega), if_neg (by omega), if_neg (by omega), if_pos k5, if_pos k5]
  · rw [if_neg k5, if_neg k5]
    repeat' split
    all_goals simp [setr_at]
theorem lstep_b (m : Nat → Int) (x : Loc) (l : Ln) : (lstep m x l).b = if l.k = 2 then x.b ++ [(l.w, rg x l)] else x.b := by
  unfold lstep
  by_cases k2 : l.k = 2
  · rw [if_neg (by omega), if_neg (by omega), if_pos k2, if_pos k2]
  · rw [if_neg k2, if_neg k2]
    repeat' split
    all_goals simp [setr_b]
theorem Ok.step {words : Int} {p : List (List Ln)} (hf : Fine words p) {s : TS} (h : Ok words p s) {k : Nat} (hk : k < p.length) (hc : can p k (s.l k) = true) : Ok words p (step p s k) := by
  have hm := can_mor hc
  have hg := nxt_good hf (h.at0 k).1 hm
  have ha := h.at0 k
  have hb := h.many k
  have hw := hf.w
  have hl := (hf.lines k).1
  have hlt : (s.l k).at' < 5 := by unfold mor at hm; simp at hm; omega
  have e : ∀ i, (Tso.step p s k).l i = if i = k then lstep s.m (s.l k) (nxt p k (s.l k)) else s.l i := fun i => rfl
  generalize hl' : nxt p k (s.l k) = l at *
  refine ⟨fun i => ?_, fun i => ?_, fun i => ?_, fun i hi => ?_, fun j hj => ?_⟩
  · rw [e]; split
    · rw [lstep_at]; split
      · have := hg.v5 (by omega); omega
      · omega
    · exact h.at0 i
  · rw [e]; split
    · rw [lstep_at, lstep_b]
      by_cases k2 : l.k = 2
      · rw [if_neg (show ¬ (l.k = 5 ∧ rg (s.l k) l = 0) by omega), if_pos k2]
        simp only [List.length_append, List.length_cons, List.length_nil]; omega
      · rw [if_neg k2]
        split
        · have := hg.v5 (by omega); omega
        · omega
    · exact h.many i
  · rw [e]; split
    · rw [lstep_b]; split
      · intro x hx
        rcases List.mem_append.1 hx with hx | hx
        · exact h.wb k x hx
        · simp at hx; subst hx; exact hg.w (by omega) (by omega)
      · exact h.wb k
    · exact h.wb i
  · rw [e, if_neg (by omega)]; exact h.far i hi
  · show mstep s.m (s.l k) (nxt p k (s.l k)) j = 0
    rw [hl']
    unfold mstep; split
    · have := hg.w (by omega) (by omega)
      rw [upd_other (by omega)]; exact h.mem j hj
    · exact h.mem j hj
theorem Ok.flush {words : Int} {p : List (List Ln)} (hf : Fine words p) {s : TS} (h : Ok words p s) {k : Nat} (hk : k < p.length) : Ok words p (flush s k) := by
  cases hb : (s.l k).b with
  | nil => unfold Tso.flush; rw [hb]; exact h
  | cons x r =>
    rw [flush_cons hb]
    have hw := hf.w
    have hx := h.wb k x (by rw [hb]; simp)
    have hm := h.many k
    rw [hb] at hm
    simp only [List.length_cons] at hm
    refine ⟨fun i => ?_, fun i => ?_, fun i => ?_, fun i hi => ?_, fun j hj => ?_⟩
    · show 0 ≤ (put _ _ _ i).at' ∧ (put _ _ _ i).at' ≤ 10
      unfold put; split
      · subst_vars; exact h.at0 _
      · exact h.at0 i
    · show ((put _ _ _ i).b.length : Int) ≤ (put _ _ _ i).at' ∧ (put _ _ _ i).b.length ≤ 5
      unfold put; split
      · simp only; omega
      · exact h.many i
    · show ∀ y ∈ (put _ _ _ i).b, _
      unfold put; split
      · intro y hy; exact h.wb k y (by rw [hb]; simp only at hy; simp [hy])
      · exact h.wb i
    · show put _ _ _ i = _
      rw [put_other (by omega)]; exact h.far i hi
    · show upd _ _ _ j = 0
      rw [upd_other (by omega)]; exact h.mem j hj
theorem Reach.ok {words : Int} {p : List (List Ln)} (hf : Fine words p) {s : TS} (h : Reach p s) : Ok words p s := by
  induction h with
  | zero => exact ok_zero _ _
  | step hr hh hc ih => exact ih.step hf hh hc
  | flush hr hh hb ih => exact ih.flush hf hh

/-! The numbers and back. -/
def vec (s : TS) : List Int := (List.range 60).map (enc s)
def dec (v : List Int) : TS :=
  ⟨fun j => if j < 4 then v.getD (12 + j) 0 else 0,
   fun h => if h < 4 then ⟨v.getD h 0, v.getD (4 + h * 2) 0, v.getD (4 + h * 2 + 1) 0, (List.range (v.getD (56 + h) 0).toNat).map fun i => (v.getD (16 + h * 10 + i * 2) 0, v.getD (16 + h * 10 + i * 2 + 1) 0)⟩ else Loc.zero⟩
theorem vec_len (s : TS) : (vec s).length = 60 := by simp [vec]
theorem vec_at (s : TS) {j : Nat} (hj : j < 60) : (vec s).getD j 0 = enc s j := by simp [vec, List.getD_eq_getElem?_getD, hj]
theorem loc_ext {x y : Loc} (h1 : x.at' = y.at') (h2 : x.r0 = y.r0) (h3 : x.r1 = y.r1) (h4 : x.b = y.b) : x = y := by
  cases x; cases y; simp_all
theorem dec_vec {words : Int} {p : List (List Ln)} (hn : p.length ≤ 3) {s : TS} (h : Ok words p s) : dec (vec s) = s := by
  have e1 : (dec (vec s)).m = s.m := by
    funext j
    show (if j < 4 then (vec s).getD (12 + j) 0 else 0) = _
    split
    · rw [vec_at s (by omega), enc_word s (by assumption)]
    · exact (h.mem j (by omega)).symm
  have e2 : (dec (vec s)).l = s.l := by
    funext k
    show (if k < 4 then _ else Loc.zero) = _
    split
    · rename_i hk
      apply loc_ext
      · show (vec s).getD k 0 = _
        rw [vec_at s (by omega), enc_at s hk]
      · show (vec s).getD (4 + k * 2) 0 = _
        rw [vec_at s (by omega), enc_r0 s hk]
      · show (vec s).getD (4 + k * 2 + 1) 0 = _
        rw [vec_at s (by omega), enc_r1 s hk]
      · show (List.range ((vec s).getD (56 + k) 0).toNat).map _ = _
        rw [vec_at s (by omega), enc_many s hk]
        have hm := (h.many k).2
        apply List.ext_getElem
        · simp
        · intro i h1 h2
          simp only [List.getElem_map, List.getElem_range]
          rw [vec_at s (by omega), vec_at s (by omega), enc_bw s hk (by omega), enc_bv s hk (by omega)]
          simp [List.getD_eq_getElem?_getD, h2]
    · exact (h.far k (by omega)).symm
  calc dec (vec s) = ⟨(dec (vec s)).m, (dec (vec s)).l⟩ := rfl
    _ = s := by rw [e1, e2]
def succ1 (p : List (List Ln)) (v : List Int) (h : Nat) : List (List Int) :=
  (if can p h ((dec v).l h) then [vec (step p (dec v) h)] else []) ++ (if ((dec v).l h).b.isEmpty then [] else [vec (flush (dec v) h)])
def succTo (p : List (List Ln)) (v : List Int) (k : Nat) : List (List Int) := (List.range k).flatMap (succ1 p v)
def succ (p : List (List Ln)) (v : List Int) : List (List Int) := succTo p v p.length
theorem succTo_succ (p : List (List Ln)) (v : List Int) (k : Nat) : succTo p v (k + 1) = succTo p v k ++ succ1 p v k := by simp [succTo, List.range_succ]
theorem succTo_mem {p : List (List Ln)} {v b : List Int} {k : Nat} (hk : k ≤ p.length) (h : b ∈ succTo p v k) : b ∈ succ p v := by
  unfold succTo at h
  obtain ⟨i, hi, hb⟩ := List.mem_flatMap.1 h
  exact List.mem_flatMap.2 ⟨i, by simp at hi ⊢; omega, hb⟩
theorem mem_succ {p : List (List Ln)} {v b : List Int} : b ∈ succ p v ↔ ∃ h, h < p.length ∧ ((can p h ((dec v).l h) = true ∧ b = vec (step p (dec v) h)) ∨ (((dec v).l h).b ≠ [] ∧ b = vec (flush (dec v) h))) := by
  unfold succ succTo
  rw [List.mem_flatMap]
  constructor
  · rintro ⟨h, hh, hb⟩
    refine ⟨h, by simpa using hh, ?_⟩
    unfold succ1 at hb
    rcases List.mem_append.1 hb with hb | hb
    · split at hb
      · exact .inl ⟨by assumption, by simpa using hb⟩
      · simp at hb
    · split at hb
      · simp at hb
      · exact .inr ⟨by simp_all, by simpa using hb⟩
  · rintro ⟨h, hh, hx⟩
    refine ⟨h, by simpa using hh, ?_⟩
    unfold succ1
    rcases hx with ⟨h1, rfl⟩ | ⟨h1, rfl⟩
    · rw [if_pos h1]; simp
    · rw [if_neg (show ¬ ((dec v).l h).b.isEmpty = true by simpa using h1)]; simp
theorem succ1_nil {p : List (List Ln)} {v : List Int} {h : Nat} : succ1 p v h = [] ↔ mor p h ((dec v).l h) = false ∧ ((dec v).l h).b = [] := by
  unfold succ1
  rw [List.append_eq_nil_iff]
  constructor
  · rintro ⟨h1, h2⟩
    have hb : ((dec v).l h).b = [] := by
      split at h2
      · simp_all
      · simp at h2
    refine ⟨?_, hb⟩
    split at h1
    · simp at h1
    · rename_i hc
      unfold can at hc
      rw [hb] at hc
      simpa using hc
  · rintro ⟨h1, h2⟩
    constructor
    · rw [if_neg]; unfold can; rw [h1]; simp
    · rw [h2]; simp
theorem succ_nil {p : List (List Ln)} {v : List Int} : succ p v = [] ↔ Term p (dec v) := by
  unfold succ succTo Term
  rw [List.flatMap_eq_nil_iff]
  constructor
  · intro h i hi
    exact succ1_nil.1 (h i (by simpa using hi))
  · intro h i hi
    exact succ1_nil.2 (h i (by simpa using hi))
theorem reach_iff {words : Int} {p : List (List Ln)} (hf : Fine words p) {v : List Int} : Bfs.Reach (vec TS.zero) (succ p) v ↔ ∃ s, Reach p s ∧ v = vec s := by
  have hn := hf.n.2
  constructor
  · intro h
    induction h with
    | zero => exact ⟨_, .zero, rfl⟩
    | step _ hb ih =>
      obtain ⟨s, hr, rfl⟩ := ih
      obtain ⟨h, hh, hx⟩ := mem_succ.1 hb
      rw [dec_vec hn (hr.ok hf)] at hx
      rcases hx with ⟨hc, rfl⟩ | ⟨hc, rfl⟩
      · exact ⟨_, .step hr hh hc, rfl⟩
      · exact ⟨_, .flush hr hh hc, rfl⟩
  · rintro ⟨s, hr, rfl⟩
    induction hr with
    | zero => exact .zero
    | step hr hh hc ih =>
      refine .step ih (mem_succ.2 ⟨_, hh, .inl ?_⟩)
      rw [dec_vec hn (hr.ok hf)]; exact ⟨hc, rfl⟩
    | flush hr hh hc ih =>
      refine .step ih (mem_succ.2 ⟨_, hh, .inr ?_⟩)
      rw [dec_vec hn (hr.ok hf)]; exact ⟨hc, rfl⟩

/-! What comes of it. -/
def resV (words : Int) (p : List (List Ln)) (v : List Int) : List Int := result words p (enc (dec v))
def outs (words : Int) (p : List (List Ln)) (l : List (List Int)) (i : Nat) : List (List Int) := ((l.take i).filter (fun v => succ p v == [])).map (resV words p)
theorem outs_zero (words : Int) (p : List (List Ln)) (l : List (List Int)) : outs words p l 0 = [] := by simp [outs]
theorem outs_next {words : Int} {p : List (List Ln)} {l xs : List (List Int)} {i : Nat} {v : List Int} (h : l[i]? = some v) : outs words p (Bfs.addAll l xs) (i + 1) = outs words p l i ++ (if succ p v = [] then [resV words p v] else []) := by
  have hi := (List.getElem?_eq_some_iff.1 h).1
  unfold outs
  rw [Bfs.addAll_take (by omega), List.take_add_one, h]
  simp only [Option.toList_some, List.filter_append, List.map_append]
  congr 1
  by_cases e : succ p v = []
  · simp [e]
  · simp [e]
theorem outs_len (words : Int) (p : List (List Ln)) (l : List (List Int)) (i : Nat) : (outs words p l i).length ≤ l.length := by
  unfold outs
  rw [List.length_map]
  refine Nat.le_trans (List.length_filter_le _ _) ?_
  rw [List.length_take]; omega
def Ends (words : Int) (p : List (List Ln)) (x : List Int) : Prop := ∃ s, Reach p s ∧ Term p s ∧ x = result words p (enc s)
theorem outs_mem {words : Int} {p : List (List Ln)} (hf : Fine words p) {l : List (List Int)} (h : Bfs.Inv (vec TS.zero) (succ p) l l.length) {x : List Int} : x ∈ outs words p l l.length ↔ Ends words p x := by
  have hn := hf.n.2
  unfold outs
  rw [List.take_length, List.mem_map]
  constructor
  · rintro ⟨v, hv, rfl⟩
    obtain ⟨h1, h2⟩ := List.mem_filter.1 hv
    obtain ⟨s, hr, rfl⟩ := (reach_iff hf).1 (h.all.1 h1)
    have h3 := succ_nil.1 (show succ p (vec s) = [] by simpa using h2)
    rw [dec_vec hn (hr.ok hf)] at h3
    exact ⟨s, hr, h3, by unfold resV; rw [dec_vec hn (hr.ok hf)]⟩
  · rintro ⟨s, hr, ht, rfl⟩
    have h3 : succ p (vec s) = [] := succ_nil.2 (by rw [dec_vec hn (hr.ok hf)]; exact ht)
    exact ⟨vec s, List.mem_filter.2 ⟨h.all.2 ((reach_iff hf).2 ⟨s, hr, rfl⟩), by simpa using h3⟩, by unfold resV; rw [dec_vec hn (hr.ok hf)]⟩
/-- All outcomes, rising, each once. -/
structure Res (words : Int) (p : List (List Ln)) (R : List (List Int)) : Prop where
  rise : Bfs.Rise R
  mem : ∀ x, x ∈ R ↔ Ends words p x
theorem Res.one {words : Int} {p : List (List Ln)} {R S : List (List Int)} (h : Res words p R) (k : Res words p S) : R = S :=
  Bfs.Rise.one h.rise k.rise (fun x => by rw [h.mem, k.mem])
end Go.Proofs.YtllbmjnimfpghaaDoor.Tso
