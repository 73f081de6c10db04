import Derived.Test.YtimbdjmplcgilaaDoorTsPlain
namespace Go.Proofs.YtimbdjmplcgilaaDoor.Rf
open Pr Tso
set_option linter.unusedVariables false
set_option linter.unusedSimpArgs false

/-! The document's states: forty-six numbers, of three hands line and registers, four words, of each hand how much waits, and that. -/
def row (s : TS) : St := fun j =>
  if j < 9 then (if j % 3 = 0 then (s.l (j / 3)).at' else if j % 3 = 1 then (s.l (j / 3)).r0 else (s.l (j / 3)).r1)
  else if j < 13 then s.m (j - 9)
  else if j < 46 then (if (j - 13) % 11 = 0 then ((s.l ((j - 13) / 11)).b.length : Int) else if (j - 13) % 11 % 2 = 1 then ((s.l ((j - 13) / 11)).b.getD (((j - 13) % 11 - 1) / 2) (0, 0)).1 else ((s.l ((j - 13) / 11)).b.getD (((j - 13) % 11 - 1) / 2) (0, 0)).2)
  else 0
theorem row_at (s : TS) {h : Nat} (hh : h < 3) : row s (h * 3) = (s.l h).at' := by
  unfold row; rw [if_pos (by omega), if_pos (by omega), show h * 3 / 3 = h by omega]
theorem row_r0 (s : TS) {h : Nat} (hh : h < 3) : row s (h * 3 + 1) = (s.l h).r0 := by
  unfold row; rw [if_pos (by omega), if_neg (by omega), if_pos (by omega), show (h * 3 + 1) / 3 = h by omega]
theorem row_r1 (s : TS) {h : Nat} (hh : h < 3) : row s (h * 3 + 2) = (s.l h).r1 := by
  unfold row; rw [if_pos (by omega), if_neg (by omega), if_neg (by omega), show (h * 3 + 2) / 3 = h by omega]
theorem row_word (s : TS) {w : Nat} (hw : w < 4) : row s (9 + w) = s.m w := by
  unfold row; rw [if_neg (by omega), if_pos (by omega), show 9 + w - 9 = w by omega]
theorem row_many (s : TS) {h : Nat} (hh : h < 3) : row s (13 + h * 11) = ((s.l h).b.length : Int) := by
  unfold row; rw [if_neg (by omega), if_neg (by omega), if_pos (by omega), if_pos (by omega), show (13 + h * 11 - 13) / 11 = h by omega]
theorem row_bw (s : TS) {h i : Nat} (hh : h < 3) (hi : i < 5) : row s (13 + h * 11 + 1 + i * 2) = ((s.l h).b.getD i (0, 0)).1 := by
  unfold row; rw [if_neg (by omega), if_neg (by omega), if_pos (by omega), if_neg (by omega), if_pos (by omega), show (13 + h * 11 + 1 + i * 2 - 13) / 11 = h by omega, show ((13 + h * 11 + 1 + i * 2 - 13) % 11 - 1) / 2 = i by omega]
theorem row_bv (s : TS) {h i : Nat} (hh : h < 3) (hi : i < 5) : row s (13 + h * 11 + 2 + i * 2) = ((s.l h).b.getD i (0, 0)).2 := by
  unfold row; rw [if_neg (by omega), if_neg (by omega), if_pos (by omega), if_neg (by omega), if_neg (by omega), show (13 + h * 11 + 2 + i * 2 - 13) / 11 = h by omega, show ((13 + h * 11 + 2 + i * 2 - 13) % 11 - 1) / 2 = i by omega]
theorem row_out (s : TS) {j : Nat} (hj : 46 ≤ j) : row s j = 0 := by
  unfold row; rw [if_neg (by omega), if_neg (by omega), if_neg (by omega)]
/-- Each of the numbers is one of these. -/
theorem rcases {j : Nat} (hj : j < 46) : (∃ h, h < 3 ∧ (j = h * 3 ∨ j = h * 3 + 1 ∨ j = h * 3 + 2)) ∨ (∃ w, w < 4 ∧ j = 9 + w) ∨ (∃ h, h < 3 ∧ j = 13 + h * 11) ∨ ∃ h i, h < 3 ∧ i < 5 ∧ (j = 13 + h * 11 + 1 + i * 2 ∨ j = 13 + h * 11 + 2 + i * 2) := by
  by_cases a : j < 9
  · exact .inl ⟨j / 3, by omega, by omega⟩
  · by_cases b : j < 13
    · exact .inr (.inl ⟨j - 9, by omega, by omega⟩)
    · by_cases c : (j - 13) % 11 = 0
      · exact .inr (.inr (.inl ⟨(j - 13) / 11, by omega, by omega⟩))
      · exact .inr (.inr (.inr ⟨(j - 13) / 11, ((j - 13) % 11 - 1) / 2, by omega, by omega, by omega⟩))
/-- Two states whose parts are alike in each number. -/
theorem row_ext {f : St} {s : TS} (ha : ∀ h, h < 3 → f (h * 3) = (s.l h).at') (h0 : ∀ h, h < 3 → f (h * 3 + 1) = (s.l h).r0) (h1 : ∀ h, h < 3 → f (h * 3 + 2) = (s.l h).r1) (hm : ∀ w, w < 4 → f (9 + w) = s.m w)
    (hn : ∀ h, h < 3 → f (13 + h * 11) = ((s.l h).b.length : Int)) (hw : ∀ h i, h < 3 → i < 5 → f (13 + h * 11 + 1 + i * 2) = ((s.l h).b.getD i (0, 0)).1) (hv : ∀ h i, h < 3 → i < 5 → f (13 + h * 11 + 2 + i * 2) = ((s.l h).b.getD i (0, 0)).2) :
    ∀ j, j < 46 → f j = row s j := by
  intro j hj
  rcases rcases hj with ⟨h, hh, rfl | rfl | rfl⟩ | ⟨w, hw', rfl⟩ | ⟨h, hh, rfl⟩ | ⟨h, i, hh, hi, rfl | rfl⟩
  · rw [row_at s hh, ha h hh]
  · rw [row_r0 s hh, h0 h hh]
  · rw [row_r1 s hh, h1 h hh]
  · rw [row_word s hw', hm w hw']
  · rw [row_many s hh, hn h hh]
  · rw [row_bw s hh hi, hw h i hh hi]
  · rw [row_bv s hh hi, hv h i hh hi]
/-- The numbers tell the state. -/
theorem row_inj {words : Int} {p : List (List Ln)} (hn : p.length ≤ 3) {s t : TS} (hs : Tso.Ok words p s) (ht : Tso.Ok words p t) (h : ∀ j, j < 46 → row s j = row t j) : s = t := by
  have e1 : s.m = t.m := by
    funext j
    by_cases hj : j < 4
    · rw [← row_word s hj, ← row_word t hj]; exact h _ (by omega)
    · rw [hs.mem j (by omega), ht.mem j (by omega)]
  have e2 : s.l = t.l := by
    funext k
    by_cases hk : k < 3
    · apply loc_ext
      · rw [← row_at s hk, ← row_at t hk]; exact h _ (by omega)
      · rw [← row_r0 s hk, ← row_r0 t hk]; exact h _ (by omega)
      · rw [← row_r1 s hk, ← row_r1 t hk]; exact h _ (by omega)
      · have hl : (s.l k).b.length = (t.l k).b.length := by
          have := h (13 + k * 11) (by omega)
          rw [row_many s hk, row_many t hk] at this; omega
        have h5 := (hs.many k).2
        apply List.ext_getElem hl
        intro i i1 i2
        have a := h (13 + k * 11 + 1 + i * 2) (by omega)
        have b := h (13 + k * 11 + 2 + i * 2) (by omega)
        rw [row_bw s hk (by omega), row_bw t hk (by omega)] at a
        rw [row_bv s hk (by omega), row_bv t hk (by omega)] at b
        simp only [List.getD_eq_getElem?_getD, List.getElem?_eq_getElem i1, List.getElem?_eq_getElem i2, Option.getD_some] at a b
        exact Prod.ext a b
    · rw [hs.far k (by omega), ht.far k (by omega)]
  calc s = ⟨s.m, s.l⟩ := rfl
    _ = ⟨t.m, t.l⟩ := by rw [e1, e2]
    _ = t := rfl

/-! A line done, with the words as they are. -/
def rreg (h : Nat) (l : Ln) : Nat := h * 3 + 1 + (if l.k = 4 then 0 else l.r.toNat)
def rdone (g : St) (h : Nat) (l : Ln) : St :=
  let a := upd g (h * 3) (g (h * 3) + 1)
  let r := rreg h l
  if l.k = 0 then upd a r l.v
  else if l.k = 1 then upd a r (g (9 + l.w.toNat))
  else if l.k = 2 then upd a (9 + l.w.toNat) (g r)
  else if l.k = 3 then upd (upd a r (g (9 + l.w.toNat))) (9 + l.w.toNat) (g r)
  else if l.k = 5 then (if g r = 0 then upd a (h * 3) (g (h * 3) + 1 + l.v) else a)
  else a
def dloc (m : Nat → Int) (x : Loc) (l : Ln) : Loc :=
  if l.k = 0 then setr { x with at' := x.at' + 1 } l l.v
  else if l.k = 1 then setr { x with at' := x.at' + 1 } l (m l.w.toNat)
  else if l.k = 3 then setr { x with at' := x.at' + 1 } l (m l.w.toNat)
  else if l.k = 5 ∧ rg x l = 0 then { x with at' := x.at' + 1 + l.v }
  else { x with at' := x.at' + 1 }
def dmem (m : Nat → Int) (x : Loc) (l : Ln) : Nat → Int := if l.k = 2 ∨ l.k = 3 then upd m l.w.toNat (rg x l) else m
def dstep (s : TS) (h : Nat) (l : Ln) : TS := ⟨dmem s.m (s.l h) l, put s.l h (dloc s.m (s.l h) l)⟩
theorem dloc_b (m : Nat → Int) (x : Loc) (l : Ln) : (dloc m x l).b = x.b := by
  unfold dloc; repeat' split
  all_goals simp [setr_b]
theorem dloc_at (m : Nat → Int) (x : Loc) (l : Ln) : (dloc m x l).at' = if l.k = 5 ∧ rg x l = 0 then x.at' + 1 + l.v else x.at' + 1 := by
  unfold dloc
  by_cases k5 : l.k = 5 ∧ rg x l = 0
  · rw [if_neg (by omega), if_neg (by omega), if_neg (by omega), if_pos k5, if_pos k5]
  · rw [if_neg k5, if_neg k5]; repeat' split
    all_goals simp [setr_at]
theorem setr_r0 (x : Loc) (l : Ln) (v : Int) : (setr x l v).r0 = if 0 < l.r then x.r0 else v := by unfold setr; split <;> rfl
theorem setr_r1 (x : Loc) (l : Ln) (v : Int) : (setr x l v).r1 = if 0 < l.r then v else x.r1 := by unfold setr; split <;> rfl
theorem row_reg (s : TS) {h : Nat} (hh : h < 3) {l : Ln} (hr : 0 ≤ l.r ∧ l.r ≤ 1) (k4 : l.k ≠ 4) : row s (rreg h l) = rg (s.l h) l := by
  unfold rreg rg
  rw [if_neg k4]
  by_cases e : 0 < l.r
  · rw [if_pos e, show l.r.toNat = 1 by omega, row_r1 s hh]
  · rw [if_neg e, show l.r.toNat = 0 by omega, row_r0 s hh]
/-- What a number is written over. -/
theorem rupd {h : Nat} {s t : TS} {i : Nat} {v : Int} (hi : i < 46) (he : row t i = v) (ho : ∀ j, j < 46 → j ≠ i → row t j = row s j) : upd (row s) i v = row t := by
  funext j
  by_cases e : j = i
  · subst e; rw [upd_same, he]
  · rw [upd_other e]
    by_cases hj : j < 46
    · exact (ho j hj e).symm
    · rw [row_out _ (by omega), row_out _ (by omega)]
theorem rupd_at (s : TS) {h : Nat} (h3 : h < 3) (v : Int) : upd (row s) (h * 3) v = row ⟨s.m, put s.l h { s.l h with at' := v }⟩ := by
  refine rupd (h := h) (by omega) ?_ ?_
  · rw [row_at _ h3]; show (put _ _ _ h).at' = _; rw [put_same]
  · intro j hj hne
    refine (row_ext (s := ⟨s.m, put s.l h { s.l h with at' := v }⟩) (f := upd (row s) (h * 3) v) ?_ ?_ ?_ ?_ ?_ ?_ ?_ j hj).symm.trans (upd_other hne)
    · intro k hk
      show _ = (put _ _ _ k).at'
      unfold put; split
      · subst_vars; rw [upd_same]
      · rw [upd_other (by omega), row_at _ hk]
    · intro k hk; rw [upd_other (by omega), row_r0 _ hk]; show _ = (put _ _ _ k).r0; unfold put; split <;> simp_all
    · intro k hk; rw [upd_other (by omega), row_r1 _ hk]; show _ = (put _ _ _ k).r1; unfold put; split <;> simp_all
    · intro k hk; rw [upd_other (by omega), row_word _ hk]
    · intro k hk; rw [upd_other (by omega), row_many _ hk]; show _ = ((put _ _ _ k).b.length : Int); unfold put; split <;> simp_all
    · intro k i hk hi; rw [upd_other (by omega), row_bw _ hk hi]; show _ = ((put _ _ _ k).b.getD i (0, 0)).1; unfold put; split <;> simp_all
    · intro k i hk hi; rw [upd_other (by omega), row_bv _ hk hi]; show _ = ((put _ _ _ k).b.getD i (0, 0)).2; unfold put; split <;> simp_all
theorem rupd_reg (s : TS) {h : Nat} (h3 : h < 3) {l : Ln} (hr : 0 ≤ l.r ∧ l.r ≤ 1) (k4 : l.k ≠ 4) (v : Int) : upd (row s) (rreg h l) v = row ⟨s.m, put s.l h (setr (s.l h) l v)⟩ := by
  have hrr : rreg h l = if 0 < l.r then h * 3 + 2 else h * 3 + 1 := by
    unfold rreg; rw [if_neg k4]; split <;> omega
  have hrg : rreg h l = h * 3 + 1 ∨ rreg h l = h * 3 + 2 := by rw [hrr]; split <;> omega
  refine rupd (h := h) (by omega) ?_ ?_
  · rw [row_reg _ h3 hr k4]; show rg (put _ _ _ h) l = _; rw [put_same]; unfold rg; rw [setr_r0, setr_r1]; split <;> rfl
  · intro j hj hne
    refine (row_ext (s := ⟨s.m, put s.l h (setr (s.l h) l v)⟩) (f := upd (row s) (rreg h l) v) ?_ ?_ ?_ ?_ ?_ ?_ ?_ j hj).symm.trans (upd_other hne)
    · intro k hk; rw [upd_other (by omega), row_at _ hk]; show _ = (put _ _ _ k).at'; unfold put; split
      · subst_vars; rw [setr_at]
      · rfl
    · intro k hk
      show _ = (put _ _ _ k).r0
      unfold put; split
      · subst_vars
        rw [setr_r0, hrr]
        split
        · rw [upd_other (by omega), row_r0 _ hk]
        · rw [upd_same]
      · rw [upd_other (by omega), row_r0 _ hk]
    · intro k hk
      show _ = (put _ _ _ k).r1
      unfold put; split
      · subst_vars
        rw [setr_r1, hrr]
        split
        · rw [upd_same]
        · rw [upd_other (by omega), row_r1 _ hk]
      · rw [upd_other (by omega), row_r1 _ hk]
    · intro k hk; rw [upd_other (by omega), row_word _ hk]
    · intro k hk; rw [upd_other (by omega), row_many _ hk]; show _ = ((put _ _ _ k).b.length : Int); unfold put; split
      · subst_vars; rw [setr_b]
      · rfl
    · intro k i hk hi; rw [upd_other (by omega), row_bw _ hk hi]; show _ = ((put _ _ _ k).b.getD i (0, 0)).1; unfold put; split
      · subst_vars; rw [setr_b]
      · rfl
    · intro k i hk hi; rw [upd_other (by omega), row_bv _ hk hi]; show _ = ((put _ _ _ k).b.getD i (0, 0)).2; unfold put; split
      · subst_vars; rw [setr_b]
      · rfl
theorem rupd_word (s : TS) {w : Nat} (hw : w < 4) (v : Int) : upd (row s) (9 + w) v = row ⟨upd s.m w v, s.l⟩ := by
  refine rupd (h := 0) (by omega) ?_ ?_
  · rw [row_word _ hw]; exact upd_same _ _ _
  · intro j hj hne
    refine (row_ext (s := ⟨upd s.m w v, s.l⟩) (f := upd (row s) (9 + w) v) ?_ ?_ ?_ ?_ ?_ ?_ ?_ j hj).symm.trans (upd_other hne)
    · intro k hk; rw [upd_other (by omega), row_at _ hk]
    · intro k hk; rw [upd_other (by omega), row_r0 _ hk]
    · intro k hk; rw [upd_other (by omega), row_r1 _ hk]
    · intro k hk
      show _ = upd s.m w v k
      by_cases e : k = w
      · subst e; rw [upd_same, upd_same]
      · rw [upd_other (by omega), upd_other e, row_word _ hk]
    · intro k hk; rw [upd_other (by omega), row_many _ hk]
    · intro k i hk hi; rw [upd_other (by omega), row_bw _ hk hi]
    · intro k i hk hi; rw [upd_other (by omega), row_bv _ hk hi]
theorem rdone_row {words : Int} {s : TS} {h : Nat} (h3 : h < 3) {l : Ln} (hg : Good words l) (hw : words ≤ 4) : rdone (row s) h l = row (dstep s h l) := by
  have ha := rupd_at s h3 ((s.l h).at' + 1)
  rw [← row_at s h3] at ha
  unfold rdone dstep
  simp only [ha]
  have hb : ∀ k, (⟨s.m, put s.l h { s.l h with at' := row s (h * 3) + 1 }⟩ : TS).l k = put s.l h { s.l h with at' := row s (h * 3) + 1 } k := fun _ => rfl
  by_cases k4 : l.k = 4
  · rw [if_neg (by omega), if_neg (by omega), if_neg (by omega), if_neg (by omega), if_neg (by omega)]
    unfold dmem dloc
    rw [if_neg (by omega), if_neg (by omega), if_neg (by omega), if_neg (by omega), if_neg (by omega), row_at s h3]
  · have hr := hg.r k4
    rw [row_reg s h3 hr k4]
    by_cases k0 : l.k = 0
    · rw [if_pos k0, rupd_reg _ h3 hr k4]
      unfold dmem dloc
      rw [if_neg (by omega), if_pos k0]
      simp only [put_same, put_put, row_at s h3]
    · rw [if_neg k0]
      by_cases k1 : l.k = 1
      · have hwd := hg.w (by omega) (by omega)
        rw [if_pos k1, rupd_reg _ h3 hr k4, row_word s (by omega)]
        unfold dmem dloc
        rw [if_neg (by omega), if_neg k0, if_pos k1]
        simp only [put_same, put_put, row_at s h3]
      · rw [if_neg k1]
        by_cases k2 : l.k = 2
        · have hwd := hg.w (by omega) (by omega)
          rw [if_pos k2, rupd_word _ (by omega)]
          unfold dmem dloc
          rw [if_pos (.inl k2), if_neg k0, if_neg k1, if_neg (by omega), if_neg (by omega)]
          simp only [row_at s h3]
        · rw [if_neg k2]
          by_cases k3 : l.k = 3
          · have hwd := hg.w (by omega) (by omega)
            rw [if_pos k3, rupd_reg _ h3 hr k4, row_word s (by omega), rupd_word _ (by omega)]
            unfold dmem dloc
            rw [if_pos (.inr k3), if_neg k0, if_neg k1, if_pos k3]
            simp only [put_same, put_put, row_at s h3]
          · have k5 : l.k = 5 := by have := hg.k; omega
            rw [if_neg k3, if_pos k5]
            unfold dmem dloc
            by_cases hz : rg (s.l h) l = 0
            · rw [if_pos hz, if_neg (by omega), if_neg k0, if_neg k1, if_neg k3, if_pos ⟨k5, hz⟩, rupd_at _ h3]
              simp only [put_same, put_put, row_at s h3]
            · rw [if_neg hz, if_neg (by omega), if_neg k0, if_neg k1, if_neg k3, if_neg (fun x => hz x.2), row_at s h3]
/-- What waits longest comes. -/
def rcome (g : St) (h : Nat) : St := fun j =>
  if j = 13 + h * 11 then g (13 + h * 11) - 1
  else if 13 + h * 11 < j ∧ j < 13 + h * 11 + 9 then g (j + 2)
  else if j = 13 + h * 11 + 9 ∨ j = 13 + h * 11 + 10 then 0
  else if j = 9 + (g (13 + h * 11 + 1)).toNat then g (13 + h * 11 + 2) else g j
theorem rcome_row {words : Int} {p : List (List Ln)} {s : TS} (hf : Fine words p) (ho : Tso.Ok words p s) {h : Nat} (h3 : h < 3) (hb : (s.l h).b ≠ []) : ∀ j, j < 46 → rcome (row s) h j = row (flush s h) j := by
  obtain ⟨⟨x, v⟩, r, e⟩ := List.exists_cons_of_ne_nil hb
  have hwd := ho.wb h (x, v) (by rw [e]; simp)
  simp only at hwd
  have hw := hf.w
  have hl := (ho.many h).2
  have q0 := row_many s h3
  have q1 := row_bw s h3 (i := 0) (by omega)
  have q2 := row_bv s h3 (i := 0) (by omega)
  rw [e] at q0 q1 q2 hl
  simp only [List.getD_cons_zero, List.length_cons, Nat.zero_mul, Nat.add_zero] at q0 q1 q2 hl
  have hgd : ∀ i, (s.l h).b.getD (i + 1) (0, 0) = r.getD i (0, 0) := fun i => by rw [e]; rfl
  have hend : r.getD 4 (0, 0) = (0, 0) := by rw [List.getD_eq_getElem?_getD, List.getElem?_eq_none (by omega)]; rfl
  rw [flush_cons e]
  unfold rcome
  rw [q1, q2, q0]
  refine row_ext ?_ ?_ ?_ ?_ ?_ ?_ ?_
  · intro k hk
    rw [if_neg (by omega), if_neg (by omega), if_neg (by omega), if_neg (by omega), row_at _ hk]
    show _ = (put _ _ _ k).at'; unfold put; split <;> simp_all
  · intro k hk
    rw [if_neg (by omega), if_neg (by omega), if_neg (by omega), if_neg (by omega), row_r0 _ hk]
    show _ = (put _ _ _ k).r0; unfold put; split <;> simp_all
  · intro k hk
    rw [if_neg (by omega), if_neg (by omega), if_neg (by omega), if_neg (by omega), row_r1 _ hk]
    show _ = (put _ _ _ k).r1; unfold put; split <;> simp_all
  · intro k hk
    rw [if_neg (by omega), if_neg (by omega), if_neg (by omega)]
    show _ = upd _ _ _ k
    by_cases ek : k = x.toNat
    · subst ek; rw [if_pos rfl]; exact (upd_same _ _ _).symm
    · rw [if_neg (by omega), row_word _ hk]; exact (upd_other ek).symm
  · intro k hk
    show _ = ((put _ _ _ k).b.length : Int)
    by_cases ek : k = h
    · subst ek; rw [if_pos rfl, put_same]; simp only; omega
    · rw [put_other ek, if_neg (by omega), if_neg (by omega), if_neg (by omega), if_neg (by omega), row_many _ hk]
  · intro k i hk hi
    show _ = ((put _ _ _ k).b.getD i (0, 0)).1
    by_cases ek : k = h
    · subst ek
      rw [put_same, if_neg (by omega)]
      simp only
      by_cases i4 : i < 4
      · rw [if_pos (by omega), show 13 + k * 11 + 1 + i * 2 + 2 = 13 + k * 11 + 1 + (i + 1) * 2 by omega, row_bw _ hk (by omega), hgd]
      · obtain rfl : i = 4 := by omega
        rw [if_neg (by omega), if_pos (by omega), hend]
    · rw [put_other ek, if_neg (by omega), if_neg (by omega), if_neg (by omega), if_neg (by omega), row_bw _ hk hi]
  · intro k i hk hi
    show _ = ((put _ _ _ k).b.getD i (0, 0)).2
    by_cases ek : k = h
    · subst ek
      rw [put_same, if_neg (by omega)]
      simp only
      by_cases i4 : i < 4
      · rw [if_pos (by omega), show 13 + k * 11 + 2 + i * 2 + 2 = 13 + k * 11 + 2 + (i + 1) * 2 by omega, row_bv _ hk (by omega), hgd]
      · obtain rfl : i = 4 := by omega
        rw [if_neg (by omega), if_pos (by omega), hend]
    · rw [put_other ek, if_neg (by omega), if_neg (by omega), if_neg (by omega), if_neg (by omega), row_bv _ hk hi]
/-- A store that waits. -/
theorem rpush_row {p : List (List Ln)} {s : TS} {h : Nat} (h3 : h < 3) (hb : (s.l h).b.length < 5) (k2 : (nxt p h (s.l h)).k = 2) : ∀ j, j < 46 →
    upd (upd (upd (upd (row s) (h * 3) ((s.l h).at' + 1)) (13 + h * 11 + 1 + (s.l h).b.length * 2) (nxt p h (s.l h)).w) (13 + h * 11 + 2 + (s.l h).b.length * 2) (rg (s.l h) (nxt p h (s.l h)))) (13 + h * 11) (((s.l h).b.length : Int) + 1) j = row (step p s h) j := by
  have e : step p s h = ⟨s.m, put s.l h { s.l h with at' := (s.l h).at' + 1, b := (s.l h).b ++ [((nxt p h (s.l h)).w, rg (s.l h) (nxt p h (s.l h)))] }⟩ := by
    unfold step mstep lstep; simp [k2]
  rw [e]
  generalize nxt p h (s.l h) = l at *
  refine row_ext ?_ ?_ ?_ ?_ ?_ ?_ ?_
  · intro k hk
    show _ = (put _ _ _ k).at'
    rw [upd_other (by omega), upd_other (by omega), upd_other (by omega)]
    unfold put; split
    · subst_vars; rw [upd_same]
    · rw [upd_other (by omega), row_at _ hk]
  · intro k hk
    rw [upd_other (by omega), upd_other (by omega), upd_other (by omega), upd_other (by omega), row_r0 _ hk]
    show _ = (put _ _ _ k).r0; unfold put; split <;> simp_all
  · intro k hk
    rw [upd_other (by omega), upd_other (by omega), upd_other (by omega), upd_other (by omega), row_r1 _ hk]
    show _ = (put _ _ _ k).r1; unfold put; split <;> simp_all
  · intro k hk
    rw [upd_other (by omega), upd_other (by omega), upd_other (by omega), upd_other (by omega), row_word _ hk]
  · intro k hk
    show _ = ((put _ _ _ k).b.length : Int)
    by_cases ek : k = h
    · subst ek; rw [upd_same, put_same]; simp
    · rw [put_other ek, upd_other (by omega), upd_other (by omega), upd_other (by omega), upd_other (by omega), row_many _ hk]
  · intro k i hk hi
    show _ = ((put _ _ _ k).b.getD i (0, 0)).1
    by_cases ek : k = h
    · subst ek
      rw [put_same]
      simp only
      by_cases ei : i = (s.l k).b.length
      · subst ei
        rw [upd_other (by omega), upd_other (by omega), upd_same]
        simp [List.getD_eq_getElem?_getD]
      · rw [upd_other (by omega), upd_other (by omega), upd_other (by omega), upd_other (by omega), row_bw _ hk hi]
        simp only [List.getD_eq_getElem?_getD]
        by_cases e2 : i < (s.l k).b.length
        · rw [List.getElem?_append_left e2]
        · rw [List.getElem?_eq_none (by omega), List.getElem?_eq_none (by simp; omega)]
    · rw [put_other ek, upd_other (by omega), upd_other (by omega), upd_other (by omega), upd_other (by omega), row_bw _ hk hi]
  · intro k i hk hi
    show _ = ((put _ _ _ k).b.getD i (0, 0)).2
    by_cases ek : k = h
    · subst ek
      rw [put_same]
      simp only
      by_cases ei : i = (s.l k).b.length
      · subst ei
        rw [upd_other (by omega), upd_same]
        simp [List.getD_eq_getElem?_getD]
      · rw [upd_other (by omega), upd_other (by omega), upd_other (by omega), upd_other (by omega), row_bv _ hk hi]
        simp only [List.getD_eq_getElem?_getD]
        by_cases e2 : i < (s.l k).b.length
        · rw [List.getElem?_append_left e2]
        · rw [List.getElem?_eq_none (by omega), List.getElem?_eq_none (by simp; omega)]
    · rw [put_other ek, upd_other (by omega), upd_other (by omega), upd_other (by omega), upd_other (by omega), row_bv _ hk hi]
/-- A line that loads: done, and what waits is seen. -/
theorem rload_row {words : Int} {p : List (List Ln)} {s : TS} {h : Nat} (h3 : h < 3) (hg : Good words (nxt p h (s.l h))) (k1 : (nxt p h (s.l h)).k = 1) :
    upd (row (dstep s h (nxt p h (s.l h)))) (rreg h (nxt p h (s.l h))) (look (s.l h).b (s.m (nxt p h (s.l h)).w.toNat) (nxt p h (s.l h)).w) = row (step p s h) := by
  rw [rupd_reg _ h3 (hg.r (by omega)) (by omega)]
  unfold dstep step mstep dmem lstep dloc
  generalize nxt p h (s.l h) = l at *
  simp only [k1, put_same, put_put]
  simp
  unfold setr
  split <;> rfl
/-- Any other line. -/
theorem rother_row {p : List (List Ln)} {s : TS} {h : Nat} (k1 : (nxt p h (s.l h)).k ≠ 1) (k2 : (nxt p h (s.l h)).k ≠ 2) : dstep s h (nxt p h (s.l h)) = step p s h := by
  unfold dstep step mstep dmem lstep dloc
  generalize nxt p h (s.l h) = l at *
  simp [k1, k2]
end Go.Proofs.YtimbdjmplcgilaaDoor.Rf
