import Derived.Test.YtimbdjmplcgilaaDoorTsPlain
namespace Go.Proofs.YtimbdjmplcgilaaDoor.Tso
open Pr
set_option linter.unusedVariables false
set_option linter.unusedSimpArgs false

/-! What a line writes, number by number. -/
theorem upd_at (s : TS) {h : Nat} (h4 : h < 4) (v : Int) : upd (enc s) h v = enc ⟨s.m, put s.l h { s.l h with at' := v }⟩ := by
  funext j
  by_cases hj : j < 60
  · rcases cell_cases hj with a | ⟨k, hk, rfl | rfl⟩ | ⟨w, hw', rfl⟩ | ⟨k, i, hk, hi, rfl | rfl⟩ | ⟨k, hk, rfl⟩
    · rw [enc_at _ a]
      show _ = (put _ _ _ j).at'
      unfold put
      by_cases e : j = h
      · subst e; rw [upd_same, if_pos rfl]
      · rw [upd_other e, if_neg e, enc_at _ a]
    · rw [upd_other (by omega), enc_r0 _ hk, enc_r0 _ hk]
      show _ = (put _ _ _ k).r0
      unfold put; split
      · subst_vars; rfl
      · rfl
    · rw [upd_other (by omega), enc_r1 _ hk, enc_r1 _ hk]
      show _ = (put _ _ _ k).r1
      unfold put; split
      · subst_vars; rfl
      · rfl
    · rw [upd_other (by omega), enc_word _ hw', enc_word _ hw']
    · rw [upd_other (by omega), enc_bw _ hk hi, enc_bw _ hk hi]
      show _ = ((put _ _ _ k).b.getD i (0, 0)).1
      unfold put; split
      · subst_vars; rfl
      · rfl
    · rw [upd_other (by omega), enc_bv _ hk hi, enc_bv _ hk hi]
      show _ = ((put _ _ _ k).b.getD i (0, 0)).2
      unfold put; split
      · subst_vars; rfl
      · rfl
    · rw [upd_other (by omega), enc_many _ hk, enc_many _ hk]
      show _ = ((put _ _ _ k).b.length : Int)
      unfold put; split
      · subst_vars; rfl
      · rfl
  · rw [upd_other (by omega), enc_out _ (by omega), enc_out _ (by omega)]
theorem upd_reg (s : TS) {h : Nat} (h4 : h < 4) (l : Ln) (v : Int) : upd (enc s) (reg h l) v = enc ⟨s.m, put s.l h (setr (s.l h) l v)⟩ := by
  have hrg : reg h l = 4 + h * 2 ∨ reg h l = 4 + h * 2 + 1 := by unfold reg; split <;> omega
  funext j
  by_cases hj : j < 60
  · rcases cell_cases hj with a | ⟨k, hk, rfl | rfl⟩ | ⟨w, hw', rfl⟩ | ⟨k, i, hk, hi, rfl | rfl⟩ | ⟨k, hk, rfl⟩
    · rw [upd_other (by omega), enc_at _ a, enc_at _ a]
      show _ = (put _ _ _ j).at'
      unfold put; split
      · subst_vars; rw [setr_at]
      · rfl
    · rw [enc_r0 _ hk]
      show _ = (put _ _ _ k).r0
      unfold put reg setr
      by_cases hr : 0 < l.r
      · rw [if_pos hr, upd_other (by omega), enc_r0 _ hk]
        split
        · subst_vars; rfl
        · rfl
      · rw [if_neg hr]
        by_cases e : k = h
        · subst e; rw [Nat.add_zero, upd_same, if_pos rfl, if_neg hr]
        · rw [upd_other (by omega), if_neg e, enc_r0 _ hk]
    · rw [enc_r1 _ hk]
      show _ = (put _ _ _ k).r1
      unfold put reg setr
      by_cases hr : 0 < l.r
      · rw [if_pos hr]
        by_cases e : k = h
        · subst e; rw [upd_same, if_pos rfl, if_pos hr]
        · rw [upd_other (by omega), if_neg e, enc_r1 _ hk]
      · rw [if_neg hr, upd_other (by omega), enc_r1 _ hk]
        split
        · subst_vars; rfl
        · rfl
    · rw [upd_other (by omega), enc_word _ hw', enc_word _ hw']
    · rw [upd_other (by omega), enc_bw _ hk hi, enc_bw _ hk hi]
      show _ = ((put _ _ _ k).b.getD i (0, 0)).1
      unfold put; split
      · subst_vars; rw [setr_b]
      · rfl
    · rw [upd_other (by omega), enc_bv _ hk hi, enc_bv _ hk hi]
      show _ = ((put _ _ _ k).b.getD i (0, 0)).2
      unfold put; split
      · subst_vars; rw [setr_b]
      · rfl
    · rw [upd_other (by omega), enc_many _ hk, enc_many _ hk]
      show _ = ((put _ _ _ k).b.length : Int)
      unfold put; split
      · subst_vars; rw [setr_b]
      · rfl
  · rw [upd_other (by omega), enc_out _ (by omega), enc_out _ (by omega)]
theorem upd_word (s : TS) {w : Nat} (hw : w < 4) (v : Int) : upd (enc s) (12 + w) v = enc ⟨upd s.m w v, s.l⟩ := by
  funext j
  by_cases hj : j < 60
  · rcases cell_cases hj with a | ⟨k, hk, rfl | rfl⟩ | ⟨w', hw', rfl⟩ | ⟨k, i, hk, hi, rfl | rfl⟩ | ⟨k, hk, rfl⟩
    · rw [upd_other (by omega), enc_at _ a, enc_at _ a]
    · rw [upd_other (by omega), enc_r0 _ hk, enc_r0 _ hk]
    · rw [upd_other (by omega), enc_r1 _ hk, enc_r1 _ hk]
    · rw [enc_word _ hw']
      show _ = upd s.m w v w'
      by_cases e : w' = w
      · subst e; rw [upd_same, upd_same]
      · rw [upd_other (by omega), upd_other e, enc_word _ hw']
    · rw [upd_other (by omega), enc_bw _ hk hi, enc_bw _ hk hi]
    · rw [upd_other (by omega), enc_bv _ hk hi, enc_bv _ hk hi]
    · rw [upd_other (by omega), enc_many _ hk, enc_many _ hk]
  · rw [upd_other (by omega), enc_out _ (by omega), enc_out _ (by omega)]
theorem upd_push (s : TS) {h : Nat} (h4 : h < 4) (hb : (s.l h).b.length < 5) (w v : Int) :
    upd (upd (upd (enc s) (16 + h * 10 + (s.l h).b.length * 2) w) (16 + h * 10 + (s.l h).b.length * 2 + 1) v) (56 + h) (((s.l h).b.length : Int) + 1) = enc ⟨s.m, put s.l h { s.l h with b := (s.l h).b ++ [(w, v)] }⟩ := by
  funext j
  by_cases hj : j < 60
  · rcases cell_cases hj with a | ⟨k, hk, rfl | rfl⟩ | ⟨w', hw', rfl⟩ | ⟨k, i, hk, hi, rfl | rfl⟩ | ⟨k, hk, rfl⟩
    · rw [upd_other (by omega), upd_other (by omega), upd_other (by omega), enc_at _ a, enc_at _ a]
      show _ = (put _ _ _ j).at'
      unfold put; split
      · subst_vars; rfl
      · rfl
    · rw [upd_other (by omega), upd_other (by omega), upd_other (by omega), enc_r0 _ hk, enc_r0 _ hk]
      show _ = (put _ _ _ k).r0
      unfold put; split
      · subst_vars; rfl
      · rfl
    · rw [upd_other (by omega), upd_other (by omega), upd_other (by omega), enc_r1 _ hk, enc_r1 _ hk]
      show _ = (put _ _ _ k).r1
      unfold put; split
      · subst_vars; rfl
      · rfl
    · rw [upd_other (by omega), upd_other (by omega), upd_other (by omega), enc_word _ hw', enc_word _ hw']
    · rw [enc_bw _ hk hi]
      show _ = ((put _ _ _ k).b.getD i (0, 0)).1
      unfold put
      by_cases e : k = h
      · subst e
        rw [if_pos rfl]
        by_cases ei : i = (s.l k).b.length
        · subst ei
          rw [upd_other (by omega), upd_other (by omega), upd_same]
          simp [List.getD_eq_getElem?_getD]
        · rw [upd_other (by omega), upd_other (by omega), upd_other (by omega), enc_bw _ hk hi]
          simp only [List.getD_eq_getElem?_getD]
          by_cases e2 : i < (s.l k).b.length
          · rw [List.getElem?_append_left e2]
          · rw [List.getElem?_eq_none (by omega), List.getElem?_eq_none (by simp; omega)]
      · rw [if_neg e, upd_other (by omega), upd_other (by omega), upd_other (by omega), enc_bw _ hk hi]
    · rw [enc_bv _ hk hi]
      show _ = ((put _ _ _ k).b.getD i (0, 0)).2
      unfold put
      by_cases e : k = h
      · subst e
        rw [if_pos rfl]
        by_cases ei : i = (s.l k).b.length
        · subst ei
          rw [upd_other (by omega), upd_same]
          simp [List.getD_eq_getElem?_getD]
        · rw [upd_other (by omega), upd_other (by omega), upd_other (by omega), enc_bv _ hk hi]
          simp only [List.getD_eq_getElem?_getD]
          by_cases e2 : i < (s.l k).b.length
          · rw [List.getElem?_append_left e2]
          · rw [List.getElem?_eq_none (by omega), List.getElem?_eq_none (by simp; omega)]
      · rw [if_neg e, upd_other (by omega), upd_other (by omega), upd_other (by omega), enc_bv _ hk hi]
    · rw [enc_many _ hk]
      show _ = ((put _ _ _ k).b.length : Int)
      unfold put
      by_cases e : k = h
      · subst e; rw [upd_same, if_pos rfl]; simp
      · rw [upd_other (by omega), upd_other (by omega), upd_other (by omega), if_neg e, enc_many _ hk]
  · rw [upd_other (by omega), upd_other (by omega), upd_other (by omega), enc_out _ (by omega), enc_out _ (by omega)]
/-- The hand's line begun. -/
def began (s : TS) (h : Nat) : TS := ⟨s.m, put s.l h { s.l h with at' := (s.l h).at' + 1 }⟩
theorem began_enc (s : TS) {h : Nat} (h4 : h < 4) : upd (enc s) h ((s.l h).at' + 1) = enc (began s h) := upd_at s h4 _
theorem began_l (s : TS) (h : Nat) : (began s h).l h = { s.l h with at' := (s.l h).at' + 1 } := put_same _ _ _
theorem began_b (s : TS) (h : Nat) : ((began s h).l h).b = (s.l h).b := by rw [began_l]
theorem rg_at (x : Loc) (v : Int) (l : Ln) : rg { x with at' := v } l = rg x l := rfl
/-- A line that loads. -/
theorem enc_load {words : Int} {p : List (List Ln)} {s : TS} {h : Nat} (h4 : h < 4) (k1 : (nxt p h (s.l h)).k = 1) :
    upd (enc (began s h)) (reg h (nxt p h (s.l h))) (look ((began s h).l h).b ((began s h).m (nxt p h (s.l h)).w.toNat) (nxt p h (s.l h)).w) = enc (step p s h) := by
  rw [upd_reg _ h4, began_l]
  unfold step began mstep lstep
  simp [k1, put_put]
/-- A line that stores. -/
theorem enc_store {p : List (List Ln)} {s : TS} {h : Nat} (h4 : h < 4) (hb : (s.l h).b.length < 5) (k2 : (nxt p h (s.l h)).k = 2) :
    upd (upd (upd (enc (began s h)) (16 + h * 10 + (s.l h).b.length * 2) (nxt p h (s.l h)).w) (16 + h * 10 + (s.l h).b.length * 2 + 1) (rg (s.l h) (nxt p h (s.l h)))) (56 + h) (((s.l h).b.length : Int) + 1) = enc (step p s h) := by
  have e := upd_push (began s h) h4 (by rw [began_b]; exact hb) (nxt p h (s.l h)).w (rg (s.l h) (nxt p h (s.l h)))
  rw [began_b] at e
  rw [e, began_l]
  unfold step began mstep lstep
  simp [k2, put_put]
/-- Any other line. -/
theorem enc_do {p : List (List Ln)} {words : Int} {s : TS} {h : Nat} (h4 : h < 4) (hg : Good words (nxt p h (s.l h))) (hw : words ≤ 4) (k1 : (nxt p h (s.l h)).k ≠ 1) (k2 : (nxt p h (s.l h)).k ≠ 2) :
    done (enc s) h (nxt p h (s.l h)) = enc (step p s h) := by
  generalize hl : nxt p h (s.l h) = l at *
  have h1 := began_enc s h4
  have h0 : enc s h = (s.l h).at' := enc_at s h4
  have hr := enc_reg s h4 l
  have hst : step p s h = ⟨mstep s.m (s.l h) l, put s.l h (lstep s.m (s.l h) l)⟩ := by unfold step; rw [hl]
  rw [hst]
  unfold done
  simp only [h0, hr, h1]
  by_cases k0 : l.k = 0
  · rw [if_pos k0, upd_reg _ h4, began_l]
    unfold began mstep lstep
    simp [k0, put_put]
  · rw [if_neg k0, if_neg k1, if_neg k2]
    by_cases k3 : l.k = 3
    · have hw' := hg.w (by omega) (by omega)
      rw [if_pos k3, upd_word _ (by omega), enc_word _ (by omega), upd_reg _ h4]
      show enc ⟨_, put (began s h).l h (setr ((began s h).l h) l _)⟩ = _
      rw [began_l]
      unfold began mstep lstep
      simp [k3, put_put]
    · rw [if_neg k3]
      by_cases k5 : l.k = 5
      · rw [if_pos k5]
        by_cases hz : rg (s.l h) l = 0
        · rw [if_pos hz, upd_at _ h4]
          unfold mstep lstep
          simp [k5, hz]
        · rw [if_neg hz]
          unfold began mstep lstep
          simp [k5, hz]
      · rw [if_neg k5]
        unfold began mstep lstep
        simp [k0, k1, k2, k3, k5]

/-! No number is large. -/
structure Bd (s : TS) : Prop where
  r0 : ∀ h, 0 ≤ (s.l h).r0 ∧ (s.l h).r0 ≤ 1000
  r1 : ∀ h, 0 ≤ (s.l h).r1 ∧ (s.l h).r1 ≤ 1000
  m : ∀ j, 0 ≤ s.m j ∧ s.m j ≤ 1000
  b : ∀ h, ∀ x ∈ (s.l h).b, 0 ≤ x.2 ∧ x.2 ≤ 1000
theorem look_bd : ∀ (b : List (Int × Int)) (d w : Int), (0 ≤ d ∧ d ≤ 1000) → (∀ x ∈ b, 0 ≤ x.2 ∧ x.2 ≤ 1000) → 0 ≤ look b d w ∧ look b d w ≤ 1000
  | [], d, w, h, _ => h
  | x :: r, d, w, h, hb => by
    rw [look_cons]
    refine look_bd r _ w ?_ (fun y hy => hb y (by simp [hy]))
    split
    · exact hb x (by simp)
    · exact h
theorem rg_bd {s : TS} (hs : Bd s) (h : Nat) (l : Ln) : 0 ≤ rg (s.l h) l ∧ rg (s.l h) l ≤ 1000 := by
  unfold rg; split
  · exact hs.r1 h
  · exact hs.r0 h
theorem setr_bd {x : Loc} (h0 : 0 ≤ x.r0 ∧ x.r0 ≤ 1000) (h1 : 0 ≤ x.r1 ∧ x.r1 ≤ 1000) (l : Ln) {v : Int} (hv : 0 ≤ v ∧ v ≤ 1000) : (0 ≤ (setr x l v).r0 ∧ (setr x l v).r0 ≤ 1000) ∧ 0 ≤ (setr x l v).r1 ∧ (setr x l v).r1 ≤ 1000 := by
  unfold setr; split
  · exact ⟨h0, hv⟩
  · exact ⟨hv, h1⟩
theorem lstep_bd {s : TS} (hs : Bd s) (h : Nat) {words : Int} {l : Ln} (hg : Good words l) : (0 ≤ (lstep s.m (s.l h) l).r0 ∧ (lstep s.m (s.l h) l).r0 ≤ 1000) ∧ 0 ≤ (lstep s.m (s.l h) l).r1 ∧ (lstep s.m (s.l h) l).r1 ≤ 1000 := by
  unfold lstep
  split
  · exact setr_bd (x := { s.l h with at' := (s.l h).at' + 1 }) (hs.r0 h) (hs.r1 h) l (hg.v0 (by assumption))
  split
  · exact setr_bd (x := { s.l h with at' := (s.l h).at' + 1 }) (hs.r0 h) (hs.r1 h) l (look_bd _ _ _ (hs.m _) (hs.b h))
  split
  · exact ⟨hs.r0 h, hs.r1 h⟩
  split
  · exact setr_bd (x := { s.l h with at' := (s.l h).at' + 1 }) (hs.r0 h) (hs.r1 h) l (hs.m _)
  split
  · exact ⟨hs.r0 h, hs.r1 h⟩
  · exact ⟨hs.r0 h, hs.r1 h⟩
theorem Reach.bd {words : Int} {p : List (List Ln)} (hf : Fine words p) {s : TS} (h : Reach p s) : Bd s := by
  induction h with
  | zero => exact ⟨fun h => by simp [TS.zero, Loc.zero], fun h => by simp [TS.zero, Loc.zero], fun h => by simp [TS.zero], fun h x hx => by simp [TS.zero, Loc.zero] at hx⟩
  | @step s k hr hk hc ih =>
    have ho := hr.ok hf
    have hg := nxt_good hf (ho.at0 k).1 (can_mor hc)
    have hl := lstep_bd ih k hg
    refine ⟨fun i => ?_, fun i => ?_, fun j => ?_, fun i => ?_⟩
    · show 0 ≤ (put _ _ _ i).r0 ∧ (put _ _ _ i).r0 ≤ 1000
      unfold put; split
      · exact hl.1
      · exact ih.r0 i
    · show 0 ≤ (put _ _ _ i).r1 ∧ (put _ _ _ i).r1 ≤ 1000
      unfold put; split
      · exact hl.2
      · exact ih.r1 i
    · show 0 ≤ mstep _ _ _ j ∧ mstep _ _ _ j ≤ 1000
      unfold mstep; split
      · unfold upd; split
        · exact rg_bd ih _ _
        · exact ih.m j
      · exact ih.m j
    · show ∀ x ∈ (put _ _ _ i).b, _
      unfold put; split
      · rw [lstep_b]; split
        · intro x hx
          rcases List.mem_append.1 hx with hx | hx
          · exact ih.b k x hx
          · simp at hx; subst hx; exact rg_bd ih _ _
        · exact ih.b k
      · exact ih.b i
  | @flush s k hr hk hb ih =>
    cases hx : (s.l k).b with
    | nil => exact absurd hx hb
    | cons x r =>
      rw [flush_cons hx]
      have hxb := ih.b k x (by rw [hx]; simp)
      refine ⟨fun i => ?_, fun i => ?_, fun j => ?_, fun i => ?_⟩
      · show 0 ≤ (put _ _ _ i).r0 ∧ (put _ _ _ i).r0 ≤ 1000
        unfold put; split
        · exact ih.r0 k
        · exact ih.r0 i
      · show 0 ≤ (put _ _ _ i).r1 ∧ (put _ _ _ i).r1 ≤ 1000
        unfold put; split
        · exact ih.r1 k
        · exact ih.r1 i
      · show 0 ≤ upd _ _ _ j ∧ upd _ _ _ j ≤ 1000
        unfold upd; split
        · exact hxb
        · exact ih.m j
      · show ∀ y ∈ (put _ _ _ i).b, _
        unfold put; split
        · intro y hy; exact ih.b k y (by rw [hx]; simp only at hy; simp [hy])
        · exact ih.b i
theorem enc_bd {words : Int} {p : List (List Ln)} (hf : Fine words p) {s : TS} (h : Reach p s) (j : Nat) : 0 ≤ enc s j ∧ enc s j ≤ 1000 := by
  have ho := h.ok hf
  have hb := h.bd hf
  have hw := hf.w
  have gd : ∀ k i, ((s.l k).b.getD i (0, 0) ∈ (s.l k).b) ∨ (s.l k).b.getD i (0, 0) = (0, 0) := fun k i => by
    by_cases e : i < (s.l k).b.length
    · left; rw [List.getD_eq_getElem?_getD, List.getElem?_eq_getElem e]; exact List.getElem_mem e
    · right; rw [List.getD_eq_getElem?_getD, List.getElem?_eq_none (by omega)]; rfl
  by_cases hj : j < 60
  · rcases cell_cases hj with a | ⟨k, hk, rfl | rfl⟩ | ⟨w, hw', rfl⟩ | ⟨k, i, hk, hi, rfl | rfl⟩ | ⟨k, hk, rfl⟩
    · rw [enc_at _ a]; have := ho.at0 j; omega
    · rw [enc_r0 _ hk]; exact hb.r0 k
    · rw [enc_r1 _ hk]; exact hb.r1 k
    · rw [enc_word _ hw']; exact hb.m w
    · rw [enc_bw _ hk hi]
      rcases gd k i with e | e
      · have := ho.wb k _ e; omega
      · rw [e]; simp
    · rw [enc_bv _ hk hi]
      rcases gd k i with e | e
      · exact hb.b k _ e
      · rw [e]; simp
    · rw [enc_many _ hk]; have := ho.many k; omega
  · rw [enc_out _ (by omega)]; omega
end Go.Proofs.YtimbdjmplcgilaaDoor.Tso
