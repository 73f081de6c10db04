import Derived.Test.YtndpimcidnakbaaMcsPlain
namespace Go.Proofs.Ytndpimcidnakbaa.Mcs
set_option linter.unusedVariables false

/-- How far p is from the first place of the row: what those ahead of it have to do. -/
def ahd (ln : Nat → Int) (p : Nat) : List Nat → Int
  | [] => 0
  | g :: r => if g = p then 6 - ln p else (11 - ln g) + ahd ln p r
/-- g is p, or ahead of it. -/
def Bef (p g : Nat) : List Nat → Prop
  | [] => False
  | x :: r => x = g ∨ (x ≠ p ∧ Bef p g r)
def fo (ln : Nat → Int) : List Nat → Int
  | _ :: b :: _ => 5 - ln b
  | _ => 3
/-- Whose line surely is a step on. -/
def lead (ln S : Nat → Int) (p : Nat) : List Nat → Nat
  | h :: b :: _ => if ln h = 9 ∧ S h = 0 then b else h
  | [h] => h
  | [] => p
def far (p : Nat) (s : St) : Int :=
  if s.ln p = 1 then 34 else if s.ln p = 2 then 33 else if s.ln p ≤ 5 then ahd s.ln p s.q else 34 + 4 * (11 - s.ln p) + fo s.ln s.q
def who (n p : Nat) (s : St) : Nat := if 3 ≤ s.ln p then lead s.ln (fun h => s.wd (1 + n + h)) p s.q else p

theorem ahd_congr {ln ln' : Nat → Int} {p : Nat} {l : List Nat} (h : ∀ x, x ∈ l → ln' x = ln x) : ahd ln' p l = ahd ln p l := by
  induction l with
  | nil => rfl
  | cons g r ih =>
    simp only [ahd]
    by_cases c : g = p
    · subst c; rw [if_pos rfl, if_pos rfl, h g (by simp)]
    · rw [if_neg c, if_neg c, h g (by simp), ih (fun x hx => h x (by simp [hx]))]
theorem ahd_le {ln ln' : Nat → Int} {p : Nat} {l : List Nat} (h : ∀ x, x ∈ l → ln x ≤ ln' x) : ahd ln' p l ≤ ahd ln p l := by
  induction l with
  | nil => exact Int.le_refl _
  | cons g r ih =>
    have h0 := h g (by simp)
    have := ih (fun x hx => h x (by simp [hx]))
    simp only [ahd]
    by_cases c : g = p
    · subst c; rw [if_pos rfl, if_pos rfl]; omega
    · rw [if_neg c, if_neg c]; omega
theorem ahd_bef {ln ln' : Nat → Int} {p g : Nat} {l : List Nat} (hb : Bef p g l) (hg : ln g < ln' g) (h : ∀ x, x ∈ l → ln x ≤ ln' x) : ahd ln' p l < ahd ln p l := by
  induction l with
  | nil => exact hb.elim
  | cons x r ih =>
    have h0 := h x (by simp)
    have hr := fun y (hy : y ∈ r) => h y (by simp [hy])
    simp only [ahd]
    rcases hb with e | ⟨e, hb⟩
    · subst e
      by_cases c : x = p
      · subst c; rw [if_pos rfl, if_pos rfl]; omega
      · have := ahd_le (p := p) hr
        rw [if_neg c, if_neg c]; omega
    · have := ih hb hr
      rw [if_neg e, if_neg e]; omega
theorem ahd_not {ln ln' : Nat → Int} {p g : Nat} {l : List Nat} (hb : ¬ Bef p g l) (h : ∀ x, x ≠ g → ln' x = ln x) : ahd ln' p l = ahd ln p l := by
  induction l with
  | nil => rfl
  | cons x r ih =>
    simp only [Bef, not_or, not_and] at hb
    simp only [ahd]
    by_cases c : x = p
    · subst c; rw [if_pos rfl, if_pos rfl, h x hb.1]
    · rw [if_neg c, if_neg c, h x hb.1, ih (hb.2 c)]
theorem ahd_app {ln : Nat → Int} {p : Nat} {l m : List Nat} (h : p ∈ l) : ahd ln p (l ++ m) = ahd ln p l := by
  induction l with
  | nil => simp at h
  | cons g r ih =>
    simp only [List.cons_append, ahd]
    by_cases c : g = p
    · rw [if_pos c, if_pos c]
    · rw [if_neg c, if_neg c, ih (by rcases List.mem_cons.1 h with e | e; exact absurd e.symm c; exact e)]
theorem ahd_bd {ln : Nat → Int} {p : Nat} {l : List Nat} (hp : 3 ≤ ln p ∧ ln p ≤ 5) (h : ∀ x, x ∈ l → 3 ≤ ln x ∧ ln x ≤ 10) : 0 ≤ ahd ln p l ∧ ahd ln p l ≤ 8 * l.length := by
  induction l with
  | nil => simp [ahd]
  | cons g r ih =>
    have h0 := h g (by simp)
    have := ih (fun x hx => h x (by simp [hx]))
    simp only [ahd, List.length_cons]
    split <;> omega
theorem bef_self {p : Nat} {l : List Nat} (h : p ∈ l) : Bef p p l := by
  induction l with
  | nil => simp at h
  | cons g r ih =>
    by_cases c : g = p
    · exact .inl c
    · exact .inr ⟨c, ih (by rcases List.mem_cons.1 h with e | e; exact absurd e.symm c; exact e)⟩

theorem Inv.fo_bd {n : Nat} {s : St} (h : Inv n s) : 0 ≤ fo s.ln s.q ∧ fo s.ln s.q ≤ 3 := by
  have hr := h.rest 0
  cases hq : s.q with
  | nil => simp [fo]
  | cons a r =>
    cases r with
    | nil => simp [fo]
    | cons b r =>
      have := hr b (by rw [hq]; rfl)
      simp only [fo]; omega
theorem far_bd {n : Nat} {s : St} (h : Inv n s) (h4 : n ≤ 4) {p : Nat} (hp : p < n) : 0 ≤ far p s ∧ far p s < 60 := by
  have hl := h.ln p hp
  have hf := h.fo_bd
  have hlen := h.len
  unfold far
  by_cases c1 : s.ln p = 1
  · rw [if_pos c1]; omega
  by_cases c2 : s.ln p = 2
  · rw [if_neg c1, if_pos c2]; omega
  rw [if_neg c1, if_neg c2]
  by_cases c5 : s.ln p ≤ 5
  · rw [if_pos c5]
    have := ahd_bd (l := s.q) (ln := s.ln) (p := p) ⟨by omega, c5⟩ (fun x hx => by have := (h.mem x).1 hx; have := h.ln x this.1; omega)
    omega
  · rw [if_neg c5]; omega
theorem who_lt {n : Nat} {s : St} (h : Inv n s) {p : Nat} (hp : p < n) : who n p s < n := by
  unfold who
  by_cases c : 3 ≤ s.ln p
  · rw [if_pos c]
    have hm := fun x hx => ((h.mem x).1 hx).1
    cases hq : s.q with
    | nil => exact hp
    | cons a r =>
      rw [hq] at hm
      cases r with
      | nil => exact hm a (by simp)
      | cons b r =>
        simp only [lead]
        split
        · exact hm b (by simp)
        · exact hm a (by simp)
  · rw [if_neg c]; exact hp

/-- A hand of the row goes a line on and stays in the row. -/
theorem far_calm {n : Nat} {s t : St} (h : Inv n s) {p g : Nat} (hp : p < n) (hg : g < n) (hq : t.q = s.q) (hlo : ∀ x, x ≠ g → t.ln x = s.ln x) (hl : 3 ≤ s.ln g ∧ s.ln g < t.ln g)
    (hS : ∀ x, s.q[0]? = some x → t.wd (1 + n + x) = s.wd (1 + n + x) ∨ s.q[1]? = some g) (hS2 : s.ln g ≠ 4 → ∀ x, s.q[0]? = some x → t.wd (1 + n + x) = s.wd (1 + n + x)) (h5 : s.ln g = 3 → t.ln g = 4) (h5' : s.ln g = 4 → t.ln g = 5) (h6 : s.ln g = 5 → t.ln g = 6) :
    (g = p ∧ t.ln p = 6) ∨ far p t < far p s ∨ (far p t = far p s ∧ g ≠ who n p s ∧ who n p t = who n p s) := by
  have hlp := h.ln p hp
  have hgm := (h.mem g).2 ⟨hg, hl.1⟩
  have hmono : ∀ x, x ∈ s.q → s.ln x ≤ t.ln x := fun x _ => by
    by_cases c : x = g
    · subst c; omega
    · rw [hlo x c]; exact Int.le_refl _
  by_cases c : p = g
  · subst c
    by_cases c5 : s.ln p = 5
    · exact .inl ⟨rfl, h6 c5⟩
    · right; left
      by_cases c6 : s.ln p ≤ 5
      · have := ahd_bef (p := p) (bef_self hgm) hl.2 hmono
        unfold far
        rw [if_neg (show ¬ s.ln p = 1 by omega), if_neg (show ¬ s.ln p = 2 by omega), if_pos c6, if_neg (show ¬ t.ln p = 1 by omega), if_neg (show ¬ t.ln p = 2 by omega), if_pos (show t.ln p ≤ 5 by omega), hq]
        exact this
      · have hfo : fo t.ln s.q = fo s.ln s.q := by
          have hf := h.front hp (.inl (by omega))
          obtain ⟨r, hr⟩ := cons_of hf
          have hnd := h.nodup
          rw [hr] at hnd ⊢
          cases r with
          | nil => rfl
          | cons b r =>
            have : b ≠ p := fun e => by subst e; simp at hnd
            simp only [fo, hlo b this]
        unfold far
        rw [if_neg (show ¬ s.ln p = 1 by omega), if_neg (show ¬ s.ln p = 2 by omega), if_neg c6, if_neg (show ¬ t.ln p = 1 by omega), if_neg (show ¬ t.ln p = 2 by omega), if_neg (show ¬ t.ln p ≤ 5 by omega), hq, hfo]
        omega
  · have htp := hlo p c
    have hgp : g ≠ p := fun e => c e.symm
    by_cases c3 : 3 ≤ s.ln p
    · have hpm := (h.mem p).2 ⟨hp, c3⟩
      by_cases c6 : s.ln p ≤ 5
      · have e1 : far p s = ahd s.ln p s.q := by unfold far; rw [if_neg (by omega), if_neg (by omega), if_pos c6]
        have e2 : far p t = ahd t.ln p s.q := by unfold far; rw [htp, if_neg (by omega), if_neg (by omega), if_pos c6, hq]
        rw [e1, e2]
        by_cases hb : Bef p g s.q
        · exact .inr (.inl (ahd_bef hb hl.2 hmono))
        · right; right
          refine ⟨ahd_not hb hlo, ?_⟩
          unfold who
          rw [htp, if_pos c3, if_pos c3, hq]
          have hnd := h.nodup
          have hhead := h.head
          cases hqq : s.q with
          | nil => rw [hqq] at hpm; simp at hpm
          | cons a r =>
            rw [hqq] at hb hS hS2 hhead hpm hnd
            simp only [Bef, not_or, not_and] at hb
            have hga : g ≠ a := fun e => hb.1 e.symm
            cases r with
            | nil => exact ⟨hga, rfl⟩
            | cons b r =>
              simp only [lead, hlo a hb.1]
              by_cases ca : a = p
              · subst ca
                rw [if_neg (by omega), if_neg (by omega)]
                exact ⟨hga, by first | rfl | trivial⟩
              · have hbb := hb.2 ca
                simp only [Bef, not_or] at hbb
                have hs := hS a rfl
                have hsa : t.wd (1 + n + a) = s.wd (1 + n + a) := by
                  rcases hs with x | x
                  · exact x
                  · simp at x; exact absurd x hbb.1
                rw [hsa]
                split
                · exact ⟨fun e => hbb.1 e.symm, by first | rfl | trivial⟩
                · exact ⟨hga, by first | rfl | trivial⟩
      · have hf := h.front hp (.inl (by omega))
        obtain ⟨r, hr⟩ := cons_of hf
        have hnd := h.nodup
        have e1 : far p s = 34 + 4 * (11 - s.ln p) + fo s.ln s.q := by unfold far; rw [if_neg (by omega), if_neg (by omega), if_neg c6]
        have e2 : far p t = 34 + 4 * (11 - s.ln p) + fo t.ln s.q := by unfold far; rw [htp, if_neg (by omega), if_neg (by omega), if_neg c6, hq]
        rw [e1, e2]
        rw [hr] at hgm hnd hS
        cases r with
        | nil => simp at hgm; exact absurd hgm hgp
        | cons b r =>
          by_cases cb : g = b
          · subst cb
            right; left
            rw [hr]; simp only [fo]; omega
          · right; right
            have hb : b ≠ g := fun e => cb e.symm
            refine ⟨by rw [hr]; simp only [fo, hlo b hb], ?_⟩
            unfold who
            rw [htp, if_pos c3, if_pos c3, hq, hr]
            have hs : t.wd (1 + n + p) = s.wd (1 + n + p) := by
              rcases hS p rfl with x | x
              · exact x
              · simp at x; exact absurd x hb
            simp only [lead, htp, hs]
            split
            · exact ⟨cb, by first | rfl | trivial⟩
            · exact ⟨hgp, by first | rfl | trivial⟩
    · right; right
      unfold far who
      rw [htp, if_neg c3, if_neg c3]
      obtain e | e : s.ln p = 1 ∨ s.ln p = 2 := by omega
      · rw [if_pos e, if_pos e]; exact ⟨rfl, hgp, rfl⟩
      · rw [if_neg (show ¬ s.ln p = 1 by omega), if_pos e, if_neg (show ¬ s.ln p = 1 by omega), if_pos e]; exact ⟨rfl, hgp, rfl⟩

/-- Nothing of what matters turns, and it is not the one whose line surely is a step on. -/
theorem far_same {n : Nat} {s t : St} {p g : Nat} (hq : t.q = s.q) (hl : ∀ x, t.ln x = s.ln x) (hS : ∀ x, s.q[0]? = some x → t.wd (1 + n + x) = s.wd (1 + n + x)) (hw : g ≠ who n p s) :
    far p t = far p s ∧ g ≠ who n p s ∧ who n p t = who n p s := by
  have e : t.ln = s.ln := funext hl
  refine ⟨by unfold far; rw [e, hq], hw, ?_⟩
  unfold who
  rw [e, hq]
  cases hqq : s.q with
  | nil => rfl
  | cons a r =>
    cases r with
    | nil => rfl
    | cons b r =>
      have := hS a (by rw [hqq]; rfl)
      simp only [lead, this]

theorem far_move {n : Nat} {s : St} (h : Inv n s) (h4 : n ≤ 4) {p g : Nat} (hp : p < n) (hg : g < n) :
    (g = p ∧ (stepN n s g).ln p = 6) ∨ far p (stepN n s g) < far p s ∨ (far p (stepN n s g) = far p s ∧ g ≠ who n p s ∧ who n p (stepN n s g) = who n p s) := by
  have hl := h.ln g hg
  have hlp := h.ln p hp
  have hlen := h.len
  have hnd := h.nodup
  have hcase : s.ln g = 1 ∨ s.ln g = 2 ∨ s.ln g = 3 ∨ s.ln g = 4 ∨ s.ln g = 5 ∨ s.ln g = 6 ∨ s.ln g = 7 ∨ s.ln g = 8 ∨ s.ln g = 9 ∨ s.ln g = 10 := by omega
  rcases hcase with e | e | e | e | e | e | e | e | e | e
  · have hst : stepN n s g = { s with wd := upd s.wd (1 + n + g) 0, ln := upd s.ln g 2 } := by simp [stepN, e]
    rw [hst]
    have hnot : g ∉ s.q := fun m => by have := (h.mem g).1 m; omega
    have hlo : ∀ x, x ≠ g → upd s.ln g 2 x = s.ln x := fun x c => upd_other c
    right
    by_cases c : p = g
    · subst c
      left
      unfold far
      simp only [upd_same]
      rw [if_neg (by omega), if_pos trivial, if_pos e]; omega
    · right
      have hgp : g ≠ p := fun x => c x.symm
      have hmem : ∀ x, x ∈ s.q → upd s.ln g 2 x = s.ln x := fun x hx => hlo x (fun c => hnot (c ▸ hx))
      have hfo : fo (upd s.ln g 2) s.q = fo s.ln s.q := by
        cases hq : s.q with
        | nil => rfl
        | cons a r =>
          cases r with
          | nil => rfl
          | cons b r => rw [hq] at hmem; simp only [fo, hmem b (by simp)]
      unfold far who
      simp only [hlo p c, ahd_congr hmem, hfo]
      refine ⟨by first | rfl | trivial, ?_, ?_⟩
      · split
        · rename_i c3
          have hpm := (h.mem p).2 ⟨hp, c3⟩
          cases hq : s.q with
          | nil => rw [hq] at hpm; simp at hpm
          | cons a r =>
            rw [hq] at hnot
            simp only [List.mem_cons, not_or] at hnot
            cases r with
            | nil => exact hnot.1
            | cons b r =>
              simp only [List.mem_cons, not_or] at hnot
              simp only [lead]; split
              · exact hnot.2.1
              · exact hnot.1
        · exact hgp
      · split
        · cases hq : s.q with
          | nil => rfl
          | cons a r =>
            rw [hq] at hmem hnot
            simp only [List.mem_cons, not_or] at hnot
            cases r with
            | nil => rfl
            | cons b r =>
              have : upd s.wd (1 + n + g) 0 (1 + n + a) = s.wd (1 + n + a) := upd_other (by omega)
              simp only [lead, hmem a (by simp), this]
        · rfl
  · have hst : stepN n s g = { wd := upd s.wd 0 (g + 1), ln := upd s.ln g (if s.wd 0 = 0 then 6 else 3), sn := upd s.sn g (s.wd 0), q := s.q ++ [g] } := by simp [stepN, e]
    rw [hst]
    have hi := h.step hg
    rw [hst] at hi
    have hnot : g ∉ s.q := fun m => by have := (h.mem g).1 m; omega
    generalize hv : (if s.wd 0 = 0 then (6 : Int) else 3) = v at hi
    have hlo : ∀ x, x ≠ g → upd s.ln g v x = s.ln x := fun x c => upd_other c
    by_cases c : p = g
    · subst c
      by_cases c0 : s.wd 0 = 0
      · left; rw [if_pos c0] at hv; subst hv; exact ⟨rfl, upd_same _ _ _⟩
      · right; left
        rw [if_neg c0] at hv; subst hv
        have hlen2 := hi.len
        have hb := ahd_bd (ln := upd s.ln p 3) (p := p) (l := s.q ++ [p]) (by rw [upd_same]; omega) (fun x hx => by
          have a := (hi.mem x).1 hx
          have b := hi.ln x a.1
          simp only at a b; omega)
        simp only at hlen2
        unfold far
        simp only [upd_same]
        rw [if_neg (by omega), if_neg (by omega), if_pos (by omega), if_neg (by omega), if_pos e]
        omega
    · right
      have hgp : g ≠ p := fun x => c x.symm
      by_cases c3 : 3 ≤ s.ln p
      · have hpm := (h.mem p).2 ⟨hp, c3⟩
        have hmem : ∀ x, x ∈ s.q → upd s.ln g v x = s.ln x := fun x hx => hlo x (fun c => hnot (c ▸ hx))
        have hv3 : v = 3 := by
          rw [← hv]
          rcases h.tail with ⟨z, -⟩ | ⟨i, a, z1, z2, z3⟩
          · rw [z] at hpm; simp at hpm
          · rw [if_neg (by omega)]
        have hahd : ahd (upd s.ln g v) p (s.q ++ [g]) = ahd s.ln p s.q := by rw [ahd_app hpm, ahd_congr hmem]
        unfold far who
        simp only [hlo p c, hahd, if_pos c3]
        rw [if_neg (show ¬ s.ln p = 1 by omega), if_neg (show ¬ s.ln p = 2 by omega), if_neg (show ¬ s.ln p = 1 by omega), if_neg (show ¬ s.ln p = 2 by omega)]
        cases hq : s.q with
        | nil => rw [hq] at hpm; simp at hpm
        | cons a r =>
          rw [hq] at hnot hmem hpm
          simp only [List.mem_cons, not_or] at hnot
          have hw : ∀ x, upd s.wd 0 (g + 1) (1 + n + x) = s.wd (1 + n + x) := fun x => upd_other (by omega)
          cases r with
          | nil =>
            have hpa : p = a := by simpa using hpm
            subst hpa
            by_cases c5 : s.ln p ≤ 5
            · right
              rw [if_pos c5, if_pos c5]
              simp only [lead, List.cons_append, List.nil_append, hlo p c]
              rw [if_neg (by omega)]
              exact ⟨by first | rfl | trivial, hgp, by first | rfl | trivial⟩
            · left
              rw [if_neg c5, if_neg c5]
              simp only [fo, List.cons_append, List.nil_append, upd_same]
              omega
          | cons b r =>
            right
            simp only [List.mem_cons, not_or] at hnot
            simp only [lead, fo, List.cons_append, hmem a (by simp), hmem b (by simp), hw]
            refine ⟨by first | rfl | trivial, ?_, by first | rfl | trivial⟩
            split
            · exact hnot.2.1
            · exact hnot.1
      · right
        unfold far who
        simp only [hlo p c, if_neg c3]
        refine ⟨?_, hgp, by first | rfl | trivial⟩
        obtain e1 | e1 : s.ln p = 1 ∨ s.ln p = 2 := by omega
        · rw [if_pos e1, if_pos e1]
        · rw [if_neg (show ¬ s.ln p = 1 by omega), if_pos e1, if_neg (show ¬ s.ln p = 1 by omega), if_pos e1]
  · have hst : stepN n s g = { s with wd := upd s.wd (1 + g) 1, ln := upd s.ln g 4 } := by simp [stepN, e]
    rw [hst]
    exact far_calm h hp hg rfl (fun x c => upd_other c) (by simp only [upd_same]; omega) (fun x hx => .inl (upd_other (by omega))) (fun _ x hx => upd_other (by omega)) (fun _ => upd_same _ _ _) (fun x => by omega) (fun x => by omega)
  · obtain ⟨i, a, ha, hb⟩ := h.behind hg (.inr e)
    have hab := (h.adj i a g ha hb).1 (by omega)
    have hst : stepN n s g = { s with wd := upd s.wd (1 + n + a) (g + 1), ln := upd s.ln g 5 } := by
      have : (s.sn g - 1).toNat = a := by omega
      simp [stepN, e, this]
    rw [hst]
    refine far_calm h hp hg rfl (fun x c => upd_other c) (by simp only [upd_same]; omega) (fun x hx => ?_) (fun y => absurd e y) (fun x => by omega) (fun _ => upd_same _ _ _) (fun x => by omega)
    by_cases c : x = a
    · subst c
      have : 0 = i := h.inj hx ha
      subst this
      exact .inr hb
    · exact .inl (upd_other (by omega))
  · by_cases c0 : s.wd (1 + g) = 0
    · have hst : stepN n s g = { s with ln := upd s.ln g 6 } := by simp [stepN, e, c0]
      rw [hst]
      exact far_calm h hp hg rfl (fun x c => upd_other c) (by simp only [upd_same]; omega) (fun x hx => .inl rfl) (fun _ x hx => rfl) (fun x => by omega) (fun x => by omega) (fun _ => upd_same _ _ _)
    · have hst : stepN n s g = { s with ln := upd s.ln g 5 } := by simp [stepN, e, c0]
      rw [hst, upd_self s.ln g e]
      right; right
      refine far_same rfl (fun _ => rfl) (fun _ _ => rfl) ?_
      unfold who
      split
      · rename_i c3
        have hpm := (h.mem p).2 ⟨hp, c3⟩
        have hhead := h.head
        have hadj := h.adj
        cases hq : s.q with
        | nil => rw [hq] at hpm; simp at hpm
        | cons a r =>
          rw [hq] at hhead hadj
          have hga : g ≠ a := fun x => by subst x; have := hhead g rfl; omega
          cases r with
          | nil => exact hga
          | cons b r =>
            simp only [lead]
            split
            · rename_i c9
              intro x; subst x
              have := (hadj 0 a g rfl rfl).2 e
              omega
            · exact hga
      · rename_i c3
        intro x; subst x; omega
  · have hst : stepN n s g = { s with ln := upd s.ln g 7 } := by simp [stepN, e]
    rw [hst]
    exact far_calm h hp hg rfl (fun x c => upd_other c) (by simp only [upd_same]; omega) (fun x hx => .inl rfl) (fun _ x hx => rfl) (fun x => by omega) (fun x => by omega) (fun x => by omega)
  · have hst : stepN n s g = { s with ln := upd s.ln g (if s.wd (1 + n + g) = 0 then 8 else 10), sn := upd s.sn g (s.wd (1 + n + g)) } := by simp [stepN, e]
    rw [hst]
    have hb : 8 ≤ (if s.wd (1 + n + g) = 0 then (8 : Int) else 10) := by split <;> omega
    exact far_calm h hp hg rfl (fun x c => upd_other c) (by simp only [upd_same]; omega) (fun x hx => .inl rfl) (fun _ x hx => rfl) (fun x => by omega) (fun x => by omega) (fun x => by omega)
  · have hf := h.front hg (.inl (by omega))
    by_cases c0 : s.wd 0 = g + 1
    · have hst : stepN n s g = { s with wd := upd s.wd 0 0, ln := upd s.ln g 1, q := s.q.tail } := by simp [stepN, e, c0]
      rw [hst]
      have hq1 : s.q = [g] := by
        rcases h.tail with ⟨z, -⟩ | ⟨i, a, z1, z2, z3⟩
        · rw [z] at hf; simp at hf
        · have : a = g := by omega
          subst this
          have : 0 = i := h.inj hf z1
          subst this
          obtain ⟨r, hr⟩ := cons_of hf
          rw [hr] at z2
          simp only [List.length_cons] at z2
          rw [hr, List.length_eq_zero_iff.1 (show r.length = 0 by omega)]
      right
      by_cases c : p = g
      · subst c
        left
        have := h.fo_bd
        unfold far
        simp only [upd_same]
        rw [if_pos trivial, if_neg (by omega), if_neg (by omega), if_neg (by omega), e]; omega
      · right
        have hgp : g ≠ p := fun x => c x.symm
        have c3 : ¬ 3 ≤ s.ln p := fun z => by
          have := (h.mem p).2 ⟨hp, z⟩
          rw [hq1] at this; simp at this; exact c this
        unfold far who
        simp only [upd_other c, if_neg c3]
        refine ⟨?_, hgp, by first | rfl | trivial⟩
        obtain e1 | e1 : s.ln p = 1 ∨ s.ln p = 2 := by omega
        · rw [if_pos e1, if_pos e1]
        · rw [if_neg (show ¬ s.ln p = 1 by omega), if_pos e1, if_neg (show ¬ s.ln p = 1 by omega), if_pos e1]
    · have hst : stepN n s g = { s with ln := upd s.ln g 9 } := by simp [stepN, e, c0]
      rw [hst]
      exact far_calm h hp hg rfl (fun x c => upd_other c) (by simp only [upd_same]; omega) (fun x hx => .inl rfl) (fun _ x hx => rfl) (fun x => by omega) (fun x => by omega) (fun x => by omega)
  · by_cases c0 : s.wd (1 + n + g) = 0
    · have hst : stepN n s g = { s with ln := upd s.ln g 9, sn := upd s.sn g (s.wd (1 + n + g)) } := by simp [stepN, e, c0]
      rw [hst, upd_self s.ln g e]
      right; right
      refine far_same rfl (fun _ => rfl) (fun _ _ => rfl) ?_
      unfold who
      split
      · obtain ⟨b, y1, y2⟩ := h.nine g hg e
        obtain ⟨r, hr⟩ := cons_of y1
        rw [hr] at y2 hnd ⊢
        cases r with
        | nil => simp at y2
        | cons b' r =>
          simp only [lead]
          rw [if_pos ⟨e, c0⟩]
          intro x; subst x; simp at hnd
      · rename_i c3
        intro x; subst x; omega
    · have hst : stepN n s g = { s with ln := upd s.ln g 10, sn := upd s.sn g (s.wd (1 + n + g)) } := by simp [stepN, e, c0]
      rw [hst]
      exact far_calm h hp hg rfl (fun x c => upd_other c) (by simp only [upd_same]; omega) (fun x hx => .inl rfl) (fun _ x hx => rfl) (fun x => by omega) (fun x => by omega) (fun x => by omega)
  · obtain ⟨b, y1, y2, y3, y5⟩ := h.ten g hg e
    obtain ⟨r, hr⟩ := cons_of y1
    have hst : stepN n s g = { s with wd := upd s.wd (1 + (s.sn g - 1).toNat) 0, ln := upd s.ln g 1, q := s.q.tail } := by simp [stepN, e]
    rw [hst]
    right
    by_cases c : p = g
    · subst c
      left
      have := h.fo_bd
      unfold far
      simp only [upd_same]
      rw [if_pos trivial, if_neg (by omega), if_neg (by omega), if_neg (by omega), e]; omega
    · have hgp : g ≠ p := fun x => c x.symm
      by_cases c3 : 3 ≤ s.ln p
      · left
        have c5 : s.ln p ≤ 5 := by
          apply Classical.byContradiction
          intro z
          have := h.front hp (.inl (by omega))
          rw [y1] at this
          exact hgp (Option.some.inj this)
        rw [hr] at hnd
        have hmem : ∀ x, x ∈ r → upd s.ln g 1 x = s.ln x := fun x hx => upd_other (fun z => by subst z; exact (List.nodup_cons.1 hnd).1 hx)
        unfold far
        simp only [upd_other c, hr, List.tail_cons, ahd_congr hmem]
        rw [if_neg (by omega), if_neg (by omega), if_pos c5, if_neg (by omega), if_neg (by omega), if_pos c5]
        simp only [ahd]
        rw [if_neg hgp, e]; omega
      · right
        unfold far who
        simp only [upd_other c, if_neg c3]
        refine ⟨?_, hgp, by first | rfl | trivial⟩
        obtain e1 | e1 : s.ln p = 1 ∨ s.ln p = 2 := by omega
        · rw [if_pos e1, if_pos e1]
        · rw [if_neg (show ¬ s.ln p = 1 by omega), if_pos e1, if_neg (show ¬ s.ln p = 1 by omega), if_pos e1]

theorem Reach.goes {n k : Nat} {s : St} (h : Reach n k s) (q : Nat) (hq : q < n) : was n s q (100 * n) = true := by
  obtain ⟨h1, h4, hi⟩ := h
  obtain ⟨t, g1, g2, g3⟩ := live (St := St) (n := n) (p := q) hq (fun s h => stepN n s h) (fun s t => Mcs.turns n s t) (fun _ => rfl) (fun s t => by
      show Mcs.step n (Mcs.turns n s t) ((t % n : Nat) : Int) = _
      rw [step_nat _ (Nat.mod_lt _ (by omega))])
    (Inv n) (fun s => isIn n s q) (fun s => (far q s).toNat) (who n q)
    (fun s h hi hh => hi.step hh) (fun s hi => who_lt hi hq)
    (fun s g hi hg => by
      have b1 := far_bd hi h4 hq
      have b2 := far_bd (hi.step hg) h4 hq
      rcases far_move hi h4 hq hg with ⟨x, y⟩ | x | ⟨x, y, z⟩
      · subst x; exact .inl ⟨rfl, by simp [isIn, line_nat _ hg, y]⟩
      · exact .inr (.inl (by omega))
      · exact .inr (.inr ⟨by rw [x], y, z⟩))
    100 s hi (by have := far_bd hi h4 hq; omega)
  exact was_of (by omega) g2 g3
end Go.Proofs.Ytndpimcidnakbaa.Mcs
