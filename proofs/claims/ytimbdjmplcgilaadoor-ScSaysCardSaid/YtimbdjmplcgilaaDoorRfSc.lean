import Derived.Test.YtimbdjmplcgilaaDoorRfPlain
import Derived.Test.YtimbdjmplcgilaaDoorScLaw
import Derived.Test.YtimbdjmplcgilaaDoorRfRes
namespace Go.Proofs.YtimbdjmplcgilaaDoor.Rf
open Pr Tso
set_option linter.unusedVariables false
set_option linter.unusedSimpArgs false

/-! A state where nothing waits as the document's row. -/
def tsOf (f : St) : TS := ⟨memOf f, fun h => locOf f h⟩
def rowS (f : St) : St := row (tsOf f)
theorem row_congr {s t : TS} (hl : ∀ k, k < 3 → s.l k = t.l k) (hm : ∀ w, w < 4 → s.m w = t.m w) : row s = row t := by
  funext j
  by_cases hj : j < 46
  · refine row_ext (f := row s) (s := t) ?_ ?_ ?_ ?_ ?_ ?_ ?_ j hj
    · intro k hk; rw [row_at _ hk, hl k hk]
    · intro k hk; rw [row_r0 _ hk, hl k hk]
    · intro k hk; rw [row_r1 _ hk, hl k hk]
    · intro k hk; rw [row_word _ hk, hm k hk]
    · intro k hk; rw [row_many _ hk, hl k hk]
    · intro k i hk hi; rw [row_bw _ hk hi, hl k hk]
    · intro k i hk hi; rw [row_bv _ hk hi, hl k hk]
  · rw [row_out _ (by omega), row_out _ (by omega)]
theorem dloc_unb (m : Nat → Int) {x : Tso.Loc} (hb : x.b = []) (l : Ln) : dloc m x l = unb (lstep m x l) := by
  obtain ⟨a, r0, r1, b⟩ := x
  simp only at hb
  subst hb
  unfold dloc lstep unb setr
  simp only [look_nil]
  repeat' split
  all_goals first | rfl | omega
theorem rdone_rowS {words : Int} {f : St} {h : Nat} (h3 : h < 3) {l : Ln} (hg : Pr.Good words l) (hw : words ≤ 4) : rdone (rowS f) h l = rowS (done f h l) := by
  unfold rowS
  rw [rdone_row h3 hg hw]
  refine row_congr (fun k hk => ?_) (fun w hw => ?_)
  · show put (tsOf f).l h (dloc (memOf f) (locOf f h) l) k = locOf (done f h l) k
    unfold put
    split
    · subst_vars; rw [done_own (by omega), dloc_unb _ rfl]
    · rename_i hne; exact (done_other (by omega) (by omega) hne).symm
  · show dmem (memOf f) (locOf f h) l w = memOf (done f h l) w
    rw [done_mem (by omega)]; rfl
theorem rowS_at (f : St) {h : Nat} (hh : h < 3) : rowS f (h * 3) = f h := row_at _ hh
theorem rowS_zero : rowS St.zero = fun _ => 0 := by
  funext j
  unfold rowS row tsOf memOf locOf St.zero
  simp
theorem rowS_more {p : List (List Ln)} (f : St) {h : Nat} (hh : h < 3) : rmore p (rowS f) h = more p f h := by
  unfold rmore more; rw [rowS_at f hh]
theorem rowS_line {p : List (List Ln)} (f : St) {h : Nat} (hh : h < 3) : rline p (rowS f) h = line p f h := by
  unfold rline line; rw [rowS_at f hh]
theorem bd_of {words : Int} {p : List (List Ln)} (hf : Fine words p) {f : St} (h : Sc.Reach p f) : ∀ j, 0 ≤ f j ∧ f j ≤ 1000 := by
  have hn := hf.n
  induction h with
  | zero => intro j; simp [St.zero]
  | @step f h hr hh hm ih =>
    intro j
    obtain ⟨ho, hc⟩ := hr.fine hf
    have hg := hf.line (ho.at0 h (by omega)).1 hm
    by_cases hj : j < 4
    · have := ((Sc.Reach.step hr hh hm).fine hf).1.at0 j hj; omega
    · have e3 : ∀ (g : St) v, upd g h v j = g j := fun g v => upd_other (by omega)
      have e4 : ∀ (g : St) i v, (0 ≤ g j ∧ g j ≤ 1000) → (0 ≤ v ∧ v ≤ 1000) → 0 ≤ upd g i v j ∧ upd g i v j ≤ 1000 := fun g i v h1 h2 => by
        unfold upd; split
        · exact h2
        · exact h1
      have e5 : ∀ v, 0 ≤ upd f h v j ∧ upd f h v j ≤ 1000 := fun v => by rw [e3]; exact ih j
      unfold Pr.done
      repeat' split
      · exact e4 _ _ _ (e5 _) (hg.v0 (by assumption))
      · exact e4 _ _ _ (e5 _) (ih _)
      · exact e4 _ _ _ (e5 _) (ih _)
      · exact e4 _ _ _ (e4 _ _ _ (e5 _) (ih _)) (ih _)
      all_goals exact e5 _
theorem rowS_bd {words : Int} {p : List (List Ln)} (hf : Fine words p) {f : St} (h : Sc.Reach p f) : ∀ j, j < 46 → 0 ≤ rowS f j ∧ rowS f j ≤ 1000 := by
  have hb := bd_of hf h
  intro j hj
  unfold rowS
  rcases rcases hj with ⟨k, hk, rfl | rfl | rfl⟩ | ⟨w, hw', rfl⟩ | ⟨k, hk, rfl⟩ | ⟨k, i, hk, hi, rfl | rfl⟩
  · rw [row_at _ hk]; exact hb _
  · rw [row_r0 _ hk]; exact hb _
  · rw [row_r1 _ hk]; exact hb _
  · rw [row_word _ hw']; exact hb _
  · rw [row_many _ hk]; simp [tsOf, locOf]
  · rw [row_bw _ hk hi]; simp [tsOf, locOf]
  · rw [row_bv _ hk hi]; simp [tsOf, locOf]
theorem rregs_rowS (f : St) : ∀ k, k ≤ 3 → rregs (rowS f) k = regs f k
  | 0, _ => rfl
  | k + 1, h => by
    rw [rregs_succ, regs_succ, rregs_rowS f k (by omega)]
    unfold rowS
    rw [row_r0 _ (by omega), row_r1 _ (by omega)]
    simp [tsOf, locOf]
theorem rresult_rowS {words : Int} {p : List (List Ln)} (hn : p.length ≤ 3) (hw : words ≤ 4) (f : St) : rresult words p (rowS f) = result words p f := by
  unfold rresult result
  rw [rregs_rowS f _ hn]
  unfold regs
  congr 1
  refine List.map_congr_left (fun j hj => ?_)
  have : j < words.toNat := by simpa using hj
  unfold rowS
  rw [row_word _ (by omega)]
  simp [tsOf, memOf]
theorem reach_turn {p : List (List Ln)} {f : St} (h : Sc.Reach p f) {k : Nat} (hk : k < p.length) : Sc.Reach p (turn p f k) := by
  unfold turn
  split
  · exact .step h hk (by assumption)
  · exact h
/-- All of a script's hands are there. -/
def inR (p : List (List Ln)) (x : Int) : Prop := 0 ≤ x ∧ x ≤ (p.length : Int) - 1
theorem script_all {p : List (List Ln)} : ∀ (z : List Int) (f : St), (∀ x ∈ z, inR p x) → ∃ g, script p z f = some g
  | [], f, _ => ⟨f, rfl⟩
  | x :: r, f, h => by
    unfold script
    rw [if_pos (show 0 ≤ x ∧ x ≤ (p.length : Int) - 1 from h x (by simp))]
    exact script_all r _ (fun y hy => h y (by simp [hy]))
theorem script_bad {p : List (List Ln)} : ∀ (z : List Int) (f : St), (∃ x ∈ z, ¬ inR p x) → script p z f = none
  | [], f, h => by simp at h
  | x :: r, f, h => by
    unfold script
    by_cases hx : inR p x
    · rw [if_pos (show 0 ≤ x ∧ x ≤ (p.length : Int) - 1 from hx)]
      obtain ⟨y, hy, hn⟩ := h
      rcases List.mem_cons.1 hy with rfl | hy
      · exact absurd hx hn
      · exact script_bad r _ ⟨y, hy, hn⟩
    · rw [if_neg (show ¬ (0 ≤ x ∧ x ≤ (p.length : Int) - 1) from hx)]
theorem getD_mem {z : List Int} {j : Nat} (h : j < z.length) : z.getD j 0 ∈ z := by
  rw [List.getD_eq_getElem?_getD, List.getElem?_eq_getElem h]; exact List.getElem_mem h
/-- One hand's lines: so many rounds as there are. -/
theorem out_step {p : List (List Ln)} {h : Nat} : ∀ (m : Nat) (f : St), out p h (m + 1) f = turn p (out p h m f) h
  | 0, f => by
    have e : ∀ k g, out p h (k + 1) g = if more p g h then out p h k (turn p g h) else g := fun _ _ => rfl
    rw [e]
    unfold out turn
    split <;> rfl
  | m + 1, f => by
    have e : ∀ k g, out p h (k + 1) g = if more p g h then out p h k (turn p g h) else g := fun _ _ => rfl
    rw [e (m + 1) f, e m f]
    by_cases hm : more p f h = true
    · rw [if_pos hm, if_pos hm]; exact out_step m _
    · rw [if_neg hm, if_neg hm]
      unfold turn; rw [if_neg hm]
end Go.Proofs.YtimbdjmplcgilaaDoor.Rf
