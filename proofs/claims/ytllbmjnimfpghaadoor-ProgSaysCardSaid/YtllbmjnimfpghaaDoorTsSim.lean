import Derived.Test.YtllbmjnimfpghaaDoorTsCov
namespace Go.Proofs.YtllbmjnimfpghaaDoor.Tso
open Pr
set_option linter.unusedVariables false
set_option linter.unusedSimpArgs false

/-! What may be where stores wait, and where they do not. -/
def locOf (D : St) (h : Nat) : Loc := ⟨D h, D (4 + h * 2), D (4 + h * 2 + 1), []⟩
def memOf (D : St) : Nat → Int := fun j => D (12 + j)
def unb (x : Loc) : Loc := { x with b := [] }
theorem nxt_of (p : List (List Ln)) (h : Nat) {x : Loc} {D : St} (e : x.at' = D h) : nxt p h x = line p D h := by unfold nxt line; rw [e]
theorem mor_of (p : List (List Ln)) (h : Nat) {x : Loc} {D : St} (e : x.at' = D h) : mor p h x = more p D h := by unfold mor more; rw [e]
theorem rg_loc (D : St) (h : Nat) (l : Ln) : rg (locOf D h) l = D (reg h l) := by
  unfold rg reg; split <;> rfl
/-- A line of a hand leaves the other hands alone. -/
theorem done_other {D : St} {h k : Nat} {l : Ln} (hh : h < 4) (hk : k < 4) (hne : k ≠ h) : locOf (done D h l) k = locOf D k := by
  have hr := reg_bd (l := l) hh
  have key : ∀ i, i ≠ h → (i < 4 ∨ ((i = 4 + k * 2 ∨ i = 4 + k * 2 + 1) ∧ True)) → done D h l i = D i := by
    intro i hi hc
    have a1 : i ≠ reg h l := by unfold reg; split <;> omega
    have e1 : ∀ (g : St) v, upd g (reg h l) v i = g i := fun g v => upd_other a1
    have e2 : ∀ (g : St) v (x : Nat), upd g (12 + x) v i = g i := fun g v x => upd_other (by omega)
    have e3 : ∀ (g : St) v, upd g h v i = g i := fun g v => upd_other hi
    unfold done
    repeat' split
    all_goals simp only [e1, e2, e3]
  unfold locOf
  rw [key k hne (.inl hk), key (4 + k * 2) (by omega) (.inr ⟨.inl rfl, trivial⟩), key (4 + k * 2 + 1) (by omega) (.inr ⟨.inr rfl, trivial⟩)]
theorem setr_locs (x : Loc) (l : Ln) (v : Int) : (setr x l v).r0 = (if 0 < l.r then x.r0 else v) ∧ (setr x l v).r1 = (if 0 < l.r then v else x.r1) := by
  unfold setr; split <;> simp
/-- What it does to its own. -/
theorem done_own {D : St} {h : Nat} {l : Ln} (hh : h < 4) : locOf (done D h l) h = unb (lstep (memOf D) (locOf D h) l) := by
  have e0 : ∀ (g : St) v, upd g h v h = v := fun g v => upd_same _ _ _
  have r0 : reg h l = if 0 < l.r then 4 + h * 2 + 1 else 4 + h * 2 := by unfold reg; split <;> omega
  have eh : ∀ (g : St) v, upd g (reg h l) v h = g h := fun g v => upd_other (by rw [r0]; split <;> omega)
  have ew : ∀ (g : St) v (x i : Nat), i < 12 → upd g (12 + x) v i = g i := fun g v x i hi => upd_other (by omega)
  have ea : ∀ (g : St) v (i : Nat), i ≠ h → upd g h v i = g i := fun g v i hi => upd_other hi
  have er : ∀ (g : St) v, upd g (reg h l) v (4 + h * 2) = if 0 < l.r then g (4 + h * 2) else v := by
    intro g v; rw [r0]; split
    · exact upd_other (by omega)
    · exact upd_same _ _ _
  have er1 : ∀ (g : St) v, upd g (reg h l) v (4 + h * 2 + 1) = if 0 < l.r then v else g (4 + h * 2 + 1) := by
    intro g v; rw [r0]; split
    · exact upd_same _ _ _
    · exact upd_other (by omega)
  have hw := ew
  have a0 : ∀ g v, upd g h v (4 + h * 2) = g (4 + h * 2) := fun g v => ea g v _ (by omega)
  have a1 : ∀ g v, upd g h v (4 + h * 2 + 1) = g (4 + h * 2 + 1) := fun g v => ea g v _ (by omega)
  have w0 : ∀ (g : St) v x, upd g (12 + x) v h = g h := fun g v x => ew g v x _ (by omega)
  have w1 : ∀ (g : St) v x, upd g (12 + x) v (4 + h * 2) = g (4 + h * 2) := fun g v x => ew g v x _ (by omega)
  have w2 : ∀ (g : St) v x, upd g (12 + x) v (4 + h * 2 + 1) = g (4 + h * 2 + 1) := fun g v x => ew g v x _ (by omega)
  have hrg := rg_loc D h l
  apply loc_ext
  · show done D h l h = (lstep _ _ _).at'
    rw [lstep_at, hrg]
    show _ = if _ then D h + 1 + l.v else D h + 1
    unfold done
    by_cases k5 : l.k = 5
    · rw [if_neg (by omega), if_neg (by omega), if_neg (by omega), if_neg (by omega), if_pos k5]
      by_cases z : D (reg h l) = 0
      · rw [if_pos z, if_pos ⟨k5, z⟩, e0]
      · rw [if_neg z, if_neg (fun c => z c.2), e0]
    · rw [if_neg (show ¬ (l.k = 5 ∧ D (reg h l) = 0) from fun c => k5 c.1)]
      repeat' split
      all_goals first | omega | simp only [eh, w0, e0]
  · show done D h l (4 + h * 2) = (lstep _ _ _).r0
    unfold done lstep
    rw [hrg]
    by_cases k0 : l.k = 0
    · rw [if_pos k0, if_pos k0, er, (setr_locs _ _ _).1, a0]; rfl
    · rw [if_neg k0, if_neg k0]
      by_cases k1 : l.k = 1
      · rw [if_pos k1, if_pos k1, er, (setr_locs _ _ _).1, a0]; rfl
      · rw [if_neg k1, if_neg k1]
        by_cases k2 : l.k = 2
        · rw [if_pos k2, if_pos k2, w1, a0]; rfl
        · rw [if_neg k2, if_neg k2]
          by_cases k3 : l.k = 3
          · rw [if_pos k3, if_pos k3, er, (setr_locs _ _ _).1, w1, a0]; rfl
          · rw [if_neg k3, if_neg k3]
            by_cases k5 : l.k = 5
            · rw [if_pos k5]
              by_cases z : D (reg h l) = 0
              · rw [if_pos z, if_pos ⟨k5, z⟩, a0]; rfl
              · rw [if_neg z, if_neg (fun c => z c.2), a0]; rfl
            · rw [if_neg k5, if_neg (fun c => k5 c.1), a0]; rfl
  · show done D h l (4 + h * 2 + 1) = (lstep _ _ _).r1
    unfold done lstep
    rw [hrg]
    by_cases k0 : l.k = 0
    · rw [if_pos k0, if_pos k0, er1, (setr_locs _ _ _).2, a1]; rfl
    · rw [if_neg k0, if_neg k0]
      by_cases k1 : l.k = 1
      · rw [if_pos k1, if_pos k1, er1, (setr_locs _ _ _).2, a1]; rfl
      · rw [if_neg k1, if_neg k1]
        by_cases k2 : l.k = 2
        · rw [if_pos k2, if_pos k2, w2, a1]; rfl
        · rw [if_neg k2, if_neg k2]
          by_cases k3 : l.k = 3
          · rw [if_pos k3, if_pos k3, er1, (setr_locs _ _ _).2, w2, a1]; rfl
          · rw [if_neg k3, if_neg k3]
            by_cases k5 : l.k = 5
            · rw [if_pos k5]
              by_cases z : D (reg h l) = 0
              · rw [if_pos z, if_pos ⟨k5, z⟩, a1]; rfl
              · rw [if_neg z, if_neg (fun c => z c.2), a1]; rfl
            · rw [if_neg k5, if_neg (fun c => k5 c.1), a1]; rfl
  · rfl
/-- .. and to the words. -/
theorem done_mem {D : St} {h : Nat} {l : Ln} (hh : h < 4) : memOf (done D h l) = if l.k = 2 ∨ l.k = 3 then upd (memOf D) l.w.toNat (rg (locOf D h) l) else memOf D := by
  have hr := reg_bd (l := l) hh
  have e1 : ∀ (g : St) v i, upd g (reg h l) v (12 + i) = g (12 + i) := fun g v i => upd_other (by omega)
  have e3 : ∀ (g : St) v i, upd g h v (12 + i) = g (12 + i) := fun g v i => upd_other (by omega)
  have e2 : ∀ (g : St) v (x i : Nat), upd g (12 + x) v (12 + i) = if i = x then v else g (12 + i) := fun g v x i => by
    unfold upd
    by_cases e : i = x
    · rw [if_pos e, if_pos (by omega)]
    · rw [if_neg e, if_neg (by omega)]
  rw [rg_loc]
  funext i
  show done D h l (12 + i) = _
  unfold done
  by_cases k0 : l.k = 0
  · rw [if_pos k0, if_neg (by omega), e1, e3]; rfl
  · rw [if_neg k0]
    by_cases k1 : l.k = 1
    · rw [if_pos k1, if_neg (by omega), e1, e3]; rfl
    · rw [if_neg k1]
      by_cases k2 : l.k = 2
      · rw [if_pos k2, if_pos (by omega), e2, e3]; rfl
      · rw [if_neg k2]
        by_cases k3 : l.k = 3
        · rw [if_pos k3, if_pos (by omega), e1, e2, e3]; rfl
        · rw [if_neg k3, if_neg (show ¬ (l.k = 2 ∨ l.k = 3) by omega)]
          repeat' split
          all_goals simp only [e3]; rfl

/-! A hand goes on alone. -/
def rp (p : List (List Ln)) (h : Nat) (m : Nat → Int) : Nat → Loc → Loc
  | 0, x => x
  | n + 1, x => lstep m (rp p h m n x) (nxt p h (rp p h m n x))
theorem rp_add (p : List (List Ln)) (h : Nat) (m : Nat → Int) (a : Nat) (x : Loc) : ∀ n, rp p h m (a + n) x = rp p h m n (rp p h m a x)
  | 0 => rfl
  | n + 1 => by
    show lstep m (rp p h m (a + n) x) (nxt p h (rp p h m (a + n) x)) = lstep m (rp p h m n (rp p h m a x)) (nxt p h (rp p h m n (rp p h m a x)))
    rw [rp_add p h m a x n]
/-- It can, and swaps nothing. -/
def Goes (p : List (List Ln)) (h : Nat) (m : Nat → Int) (n : Nat) (x : Loc) : Prop := ∀ i, i < n → mor p h (rp p h m i x) = true ∧ (nxt p h (rp p h m i x)).k ≠ 3
/-- The hand has gone on by itself where nothing waits. -/
structure Adv (p : List (List Ln)) (h : Nat) (D : St) (x : Loc) (E : St) : Prop where
  r : Sc.Reach p E
  at' : E h = x.at'
  own : unb x = locOf E h
  other : ∀ k, k < 4 → k ≠ h → locOf E k = locOf D k
  mem : ∀ j : Nat, memOf E j = look x.b (memOf D j) (j : Int)
theorem unb_of {x : Loc} (h : x.b = []) : unb x = x := by
  cases x; simp only at h; subst h; rfl
theorem unb_set {m m' : Nat → Int} {x y : Loc} {l : Ln} (e : unb x = unb y) (h1 : l.k = 1 → look x.b (m l.w.toNat) l.w = look y.b (m' l.w.toNat) l.w) (h3 : l.k ≠ 3) : unb (lstep m x l) = unb (lstep m' y l) := by
  obtain ⟨xa, x0, x1, xb⟩ := x
  obtain ⟨ya, y0, y1, yb⟩ := y
  simp only [unb, Loc.mk.injEq] at e
  obtain ⟨rfl, rfl, rfl, -⟩ := e
  simp only at h1
  have er : rg ⟨xa, x0, x1, xb⟩ l = rg ⟨xa, x0, x1, yb⟩ l := rfl
  unfold lstep
  rw [er]
  by_cases k0 : l.k = 0
  · rw [if_pos k0, if_pos k0]; unfold setr; split <;> rfl
  · rw [if_neg k0, if_neg k0]
    by_cases k1 : l.k = 1
    · rw [if_pos k1, if_pos k1]; simp only [h1 k1]; unfold setr; split <;> rfl
    · rw [if_neg k1, if_neg k1]
      by_cases k2 : l.k = 2
      · rw [if_pos k2, if_pos k2]; rfl
      · rw [if_neg k2, if_neg k2, if_neg h3, if_neg h3]
        split <;> rfl
theorem adv {words : Int} {p : List (List Ln)} (hf : Fine words p) {D : St} (hr : Sc.Reach p D) {h : Nat} (hh : h < p.length) : ∀ n, Goes p h (memOf D) n (locOf D h) → ∃ E, Adv p h D (rp p h (memOf D) n (locOf D h)) E
  | 0, _ => ⟨D, hr, rfl, rfl, fun _ _ _ => rfl, fun _ => rfl⟩
  | n + 1, hg => by
    obtain ⟨E, he⟩ := adv hf hr hh n (fun i hi => hg i (by omega))
    obtain ⟨hm, h3⟩ := hg n (by omega)
    have h4 : h < 4 := by have := hf.n; omega
    generalize hx : rp p h (memOf D) n (locOf D h) = x at *
    have hme : more p E h = true := by rw [← mor_of p h (x := x) he.at'.symm]; exact hm
    have hl : nxt p h x = line p E h := nxt_of p h he.at'.symm
    have hgd := hf.line ((he.r.fine hf).1.at0 h h4).1 hme
    rw [hl] at h3
    have e : rp p h (memOf D) (n + 1) (locOf D h) = lstep (memOf D) x (line p E h) := by
      show lstep _ (rp p h (memOf D) n (locOf D h)) (nxt p h (rp p h (memOf D) n (locOf D h))) = _
      rw [hx, hl]
    rw [e]
    have hst := Sc.Reach.step he.r hh hme
    generalize line p E h = l at *
    have hown : unb (lstep (memOf D) x l) = locOf (done E h l) h := by
      rw [done_own h4]
      refine unb_set (by rw [he.own]; rfl) (fun k1 => ?_) h3
      have hw := hgd.w (by omega) (by omega)
      show look x.b (memOf D l.w.toNat) l.w = memOf E l.w.toNat
      rw [he.mem l.w.toNat, Int.toNat_of_nonneg hw.1]
    refine ⟨done E h l, ?_, ?_, hown, fun k hk hne => ?_, fun j => ?_⟩
    · exact hst
    · exact (congrArg Loc.at' hown).symm
    · rw [done_other h4 hk hne]; exact he.other k hk hne
    · rw [done_mem h4, lstep_b]
      by_cases k2 : l.k = 2
      · have hw := hgd.w (by omega) (by omega)
        rw [if_pos (.inl k2), if_pos k2, look_snoc, ← he.mem j, ← he.own]
        unfold upd
        by_cases ej : j = l.w.toNat
        · rw [if_pos ej, if_pos (by omega)]; rfl
        · rw [if_neg ej, if_neg (by omega)]
      · rw [if_neg (by omega), if_neg k2]; exact he.mem j
theorem Adv.quiet {p : List (List Ln)} {h : Nat} {D : St} {x : Loc} {E : St} (a : Adv p h D x E) (hb : x.b = []) : locOf E h = x ∧ memOf E = memOf D := by
  constructor
  · rw [← a.own]; unfold unb; rw [← hb]
  · funext j; rw [a.mem j, hb]; rfl

/-! Without races. -/
theorem no_clash {words : Int} {p : List (List Ln)} (hf : Fine words p) (hn : ¬ Sc.Races p) {D : St} (hr : Sc.Reach p D) {h k : Nat} (hh : h < p.length) (hk : k < p.length) (hne : k ≠ h) (hm : more p D h = true) {n : Nat} (hg : Goes p k (memOf D) n (locOf D k)) {i : Nat} (hi : i < n) :
    Sc.clash (line p D h) (nxt p k (rp p k (memOf D) i (locOf D k))) = false := by
  have hp := hf.n
  obtain ⟨E, he⟩ := adv hf hr hk i (fun j hj => hg j (by omega))
  obtain ⟨hmk, -⟩ := hg i hi
  have e1 : locOf E h = locOf D h := he.other h (by omega) (by omega)
  have eh : E h = D h := congrArg Loc.at' e1
  have em : more p E h = true := by unfold more at hm ⊢; rw [eh]; exact hm
  have el : line p E h = line p D h := by unfold line; rw [eh]
  rw [mor_of p k he.at'.symm] at hmk
  rw [nxt_of p k he.at'.symm, ← el]
  cases hc : Sc.clash (line p E h) (line p E k) with
  | false => rfl
  | true =>
    exfalso
    apply hn
    by_cases o : k < h
    · exact ⟨E, he.r, h, k, o, hh, em, hmk, hc⟩
    · exact ⟨E, he.r, k, h, by omega, hk, hmk, em, by rw [Sc.clash_comm]; exact hc⟩
/-- Words that the hand does not load may change. -/
theorem rp_upd {p : List (List Ln)} {h : Nat} {m : Nat → Int} {x : Loc} {w : Nat} {v : Int} : ∀ n, (∀ i, i < n → (nxt p h (rp p h m i x)).k ≠ 3 ∧ ((nxt p h (rp p h m i x)).k = 1 → (nxt p h (rp p h m i x)).w.toNat ≠ w)) → rp p h (upd m w v) n x = rp p h m n x
  | 0, _ => rfl
  | n + 1, hx => by
    have ih := rp_upd (v := v) n (fun i hi => hx i (by omega))
    obtain ⟨h3, h1⟩ := hx n (by omega)
    show lstep _ (rp p h (upd m w v) n x) (nxt p h (rp p h (upd m w v) n x)) = lstep _ (rp p h m n x) _
    rw [ih]
    generalize rp p h m n x = y at *
    unfold lstep
    by_cases k1 : (nxt p h y).k = 1
    · have e : upd m w v (nxt p h y).w.toNat = m (nxt p h y).w.toNat := upd_other (h1 k1)
      rw [e]
      repeat' split
      all_goals rfl
    · rw [if_neg k1, if_neg k1, if_neg h3, if_neg h3]
theorem goes_upd {p : List (List Ln)} {h : Nat} {m m' : Nat → Int} {x : Loc} {n : Nat} (hg : Goes p h m n x) (e : ∀ i, i ≤ n → rp p h m' i x = rp p h m i x) : Goes p h m' n x := by
  intro i hi; rw [e i (by omega)]; exact hg i hi
/-- Another hand's store, or swap, is nothing to it. -/
theorem other_ok {words : Int} {p : List (List Ln)} (hf : Fine words p) (hn : ¬ Sc.Races p) {D : St} (hr : Sc.Reach p D) {h k : Nat} (hh : h < p.length) (hk : k < p.length) (hne : k ≠ h) (hm : more p D h = true) (ht : (line p D h).k = 2 ∨ (line p D h).k = 3) {n : Nat} (hg : Goes p k (memOf D) n (locOf D k)) (v : Int) :
    rp p k (upd (memOf D) (line p D h).w.toNat v) n (locOf D k) = rp p k (memOf D) n (locOf D k) ∧ Goes p k (upd (memOf D) (line p D h).w.toNat v) n (locOf D k) := by
  have hp := hf.n
  have hgh := hf.line ((hr.fine hf).1.at0 h (by omega)).1 hm
  have key : ∀ i, i < n → (nxt p k (rp p k (memOf D) i (locOf D k))).k ≠ 3 ∧ ((nxt p k (rp p k (memOf D) i (locOf D k))).k = 1 → (nxt p k (rp p k (memOf D) i (locOf D k))).w.toNat ≠ (line p D h).w.toNat) := by
    intro i hi
    refine ⟨(hg i hi).2, fun k1 ew => ?_⟩
    have hc := no_clash hf hn hr hh hk hne hm hg hi
    obtain ⟨E, he⟩ := adv hf hr hk i (fun j hj => hg j (by omega))
    have hmk := (hg i hi).1
    have hgk := nxt_good hf (by rw [← he.at']; exact ((he.r.fine hf).1.at0 k (by omega)).1) hmk
    have w1 := hgk.w (by omega) (by omega)
    have w2 := hgh.w (by omega) (by omega)
    have ew2 : (line p D h).w = (nxt p k (rp p k (memOf D) i (locOf D k))).w := by omega
    unfold Sc.clash Sc.touches at hc
    rw [k1, ew2] at hc
    rcases ht with t | t
    · rw [t] at hc; simp at hc
    · rw [t] at hc; simp at hc
  have all : ∀ i, i ≤ n → rp p k (upd (memOf D) (line p D h).w.toNat v) i (locOf D k) = rp p k (memOf D) i (locOf D k) := fun i hi => rp_upd i (fun j hj => key j (by omega))
  exact ⟨all n (Nat.le_refl _), goes_upd hg all⟩
/-- What waits first is seen: the hand that stored it sees no difference. -/
theorem pop_rp {words : Int} {p : List (List Ln)} (hf : Fine words p) {h : Nat} {m : Nat → Int} {w v : Int} (hw0 : 0 ≤ w) {y : Loc} {r : List (Int × Int)} (hy : y.b = (w, v) :: r) : ∀ n, Goes p h m n y → (∀ i, i < n → 0 ≤ (rp p h m i y).at') → rp p h (upd m w.toNat v) n (pop y) = pop (rp p h m n y) ∧ ∃ r', (rp p h m n y).b = (w, v) :: r'
  | 0, _, _ => ⟨rfl, r, hy⟩
  | n + 1, hg, h0 => by
    obtain ⟨ih, r', hr'⟩ := pop_rp hf hw0 hy n (fun i hi => hg i (by omega)) (fun i hi => h0 i (by omega))
    obtain ⟨hm, h3⟩ := hg n (by omega)
    have hgd := nxt_good hf (h0 n (by omega)) hm
    constructor
    · show lstep _ (rp p h (upd m w.toNat v) n (pop y)) (nxt p h (rp p h (upd m w.toNat v) n (pop y))) = pop (lstep m (rp p h m n y) _)
      rw [ih]
      generalize rp p h m n y = z at *
      have en : nxt p h (pop z) = nxt p h z := rfl
      rw [en]
      generalize nxt p h z = l at *
      by_cases k1 : l.k = 1
      · have hw := hgd.w (by omega) (by omega)
        unfold lstep
        rw [if_neg (by omega), if_pos k1, if_neg (by omega), if_pos k1]
        have e : look (pop z).b (upd m w.toNat v l.w.toNat) l.w = look z.b (m l.w.toNat) l.w := by
          rw [hr', look_cons]
          show look (z.b.drop 1) _ _ = _
          rw [hr']
          show look r' _ _ = _
          unfold upd
          by_cases e : w = l.w
          · rw [if_pos (by rw [e]), if_pos e]
          · rw [if_neg (by omega), if_neg e]
        rw [e]; unfold setr; split <;> rfl
      · rw [lstep_loc (m' := m) k1 h3]
        exact pop_step k1 (by rw [hr']; simp)
    · show ∃ r'', (lstep m (rp p h m n y) _).b = _
      rw [lstep_b]; split
      · exact ⟨r' ++ [_], by rw [hr']; rfl⟩
      · exact ⟨r', hr'⟩
/-- What is, and what would be if nothing waited. -/
structure Sim (p : List (List Ln)) (s : TS) (D : St) : Prop where
  r : Sc.Reach p D
  m : s.m = memOf D
  l : ∀ h, h < p.length → ∃ n, s.l h = rp p h (memOf D) n (locOf D h) ∧ Goes p h (memOf D) n (locOf D h)
theorem first_store {p : List (List Ln)} {h : Nat} {m : Nat → Int} {x : Loc} (hb : x.b = []) : ∀ n, (rp p h m n x).b ≠ [] → ∃ j, j < n ∧ (rp p h m j x).b = [] ∧ (nxt p h (rp p h m j x)).k = 2
  | 0, c => absurd hb c
  | n + 1, c => by
    by_cases e : (rp p h m n x).b = []
    · refine ⟨n, by omega, e, ?_⟩
      have c' : (lstep m (rp p h m n x) (nxt p h (rp p h m n x))).b ≠ [] := c
      rw [lstep_b] at c'
      split at c'
      · assumption
      · exact absurd e c'
    · obtain ⟨j, h1, h2, h3⟩ := first_store hb n e
      exact ⟨j, by omega, h2, h3⟩
theorem sim {words : Int} {p : List (List Ln)} (hf : Fine words p) (hn : ¬ Sc.Races p) {s : TS} (hr : Reach p s) : ∃ D, Sim p s D := by
  have hp := hf.n
  induction hr with
  | zero => exact ⟨St.zero, .zero, rfl, fun h _ => ⟨0, rfl, fun i hi => by omega⟩⟩
  | @step s h hr hh hc ih =>
    obtain ⟨D, sm⟩ := ih
    obtain ⟨n, hl, hg⟩ := sm.l h hh
    have hm := can_mor hc
    have h4 : h < 4 := by omega
    by_cases k3 : (nxt p h (s.l h)).k = 3
    · have hb : (s.l h).b = [] := by
        unfold can at hc; rw [k3] at hc; simpa [hm] using hc
      obtain ⟨E, he⟩ := adv hf sm.r hh n hg
      rw [← hl] at he
      obtain ⟨q1, q2⟩ := he.quiet hb
      have hme : more p E h = true := by rw [← mor_of p h he.at'.symm]; exact hm
      have hln : nxt p h (s.l h) = line p E h := nxt_of p h he.at'.symm
      refine ⟨done E h (line p E h), .step he.r hh hme, ?_, fun k hk => ?_⟩
      · show mstep _ _ _ = _
        rw [done_mem h4, hln, q1, q2, ← sm.m]
        rw [hln] at k3
        unfold mstep; rw [if_pos k3, if_pos (.inr k3)]
      · by_cases ek : k = h
        · subst ek
          refine ⟨0, ?_, fun i hi => by omega⟩
          show put _ _ _ k = locOf _ k
          rw [put_same, done_own h4, q1, q2, ← sm.m, hln]
          refine (unb_of ?_).symm
          rw [lstep_b, if_neg (by rw [← hln]; omega)]; exact hb
        · obtain ⟨n2, e1, e2⟩ := sm.l k hk
          have eo : locOf E k = locOf D k := he.other k (by omega) ek
          rw [← eo, ← q2] at e1 e2
          obtain ⟨a, b⟩ := other_ok hf hn he.r hh hk ek hme (.inr (by rw [← hln]; exact k3)) e2 (rg (locOf E h) (line p E h))
          refine ⟨n2, ?_, ?_⟩
          · show put _ _ _ k = _
            rw [put_other ek, done_other h4 (by omega) ek, done_mem h4, if_pos (.inr (by rw [← hln]; exact k3)), a]
            exact e1
          · rw [done_other h4 (by omega) ek, done_mem h4, if_pos (.inr (by rw [← hln]; exact k3))]
            exact b
    · refine ⟨D, sm.r, ?_, fun k hk => ?_⟩
      · show mstep _ _ _ = _
        unfold mstep; rw [if_neg k3]; exact sm.m
      · by_cases ek : k = h
        · subst ek
          refine ⟨n + 1, ?_, fun i hi => ?_⟩
          · show put _ _ _ k = lstep _ (rp p k (memOf D) n (locOf D k)) (nxt p k (rp p k (memOf D) n (locOf D k)))
            rw [put_same, ← hl, sm.m]
          · by_cases ei : i < n
            · exact hg i ei
            · obtain rfl : i = n := by omega
              rw [← hl]; exact ⟨hm, k3⟩
        · obtain ⟨n2, e1, e2⟩ := sm.l k hk
          exact ⟨n2, by show put _ _ _ k = _; rw [put_other ek]; exact e1, e2⟩
  | @flush s h hr hh hb ih =>
    obtain ⟨D, sm⟩ := ih
    obtain ⟨n, hl, hg⟩ := sm.l h hh
    have h4 : h < 4 := by omega
    obtain ⟨j, hj, hjb, hj2⟩ := first_store (p := p) (h := h) (m := memOf D) (x := locOf D h) rfl n (by rw [← hl]; exact hb)
    obtain ⟨E, he⟩ := adv hf sm.r hh j (fun i hi => hg i (by omega))
    obtain ⟨q1, q2⟩ := he.quiet hjb
    have hme : more p E h = true := by rw [← mor_of p h he.at'.symm]; exact (hg j hj).1
    have hln : nxt p h (rp p h (memOf D) j (locOf D h)) = line p E h := nxt_of p h he.at'.symm
    have hgd := hf.line ((he.r.fine hf).1.at0 h h4).1 hme
    have hk2 : (line p E h).k = 2 := by rw [← hln]; exact hj2
    have hw := hgd.w (by omega) (by omega)
    have hF : done E h (line p E h) = done E h (line p E h) := rfl
    generalize hx : rp p h (memOf D) j (locOf D h) = x at *
    have hy : rp p h (memOf D) (j + 1) (locOf D h) = lstep (memOf D) x (line p E h) := by
      show lstep _ (rp p h (memOf D) j (locOf D h)) (nxt p h (rp p h (memOf D) j (locOf D h))) = _
      rw [hx, hln]
    have hyb : (lstep (memOf D) x (line p E h)).b = [((line p E h).w, rg x (line p E h))] := by
      rw [lstep_b, if_pos hk2, hjb]; rfl
    have hrest : rp p h (memOf D) (n - (j + 1)) (lstep (memOf D) x (line p E h)) = s.l h := by
      rw [← hy, ← rp_add, hl]; congr 1; omega
    have hgr : Goes p h (memOf D) (n - (j + 1)) (lstep (memOf D) x (line p E h)) := by
      intro i hi
      rw [← hy, ← rp_add]; exact hg (j + 1 + i) (by omega)
    have hat : ∀ i, i < n - (j + 1) → 0 ≤ (rp p h (memOf D) i (lstep (memOf D) x (line p E h))).at' := by
      intro i hi
      rw [← hy, ← rp_add]
      obtain ⟨E', he'⟩ := adv hf sm.r hh (j + 1 + i) (fun a ha => hg a (by omega))
      rw [← he'.at']; exact ((he'.r.fine hf).1.at0 h h4).1
    obtain ⟨pa, r', hr'⟩ := pop_rp hf hw.1 hyb (n - (j + 1)) hgr hat
    rw [hrest] at pa hr'
    have hown : locOf (done E h (line p E h)) h = pop (lstep (memOf D) x (line p E h)) := by
      rw [done_own h4, q1, q2]
      unfold pop unb; rw [hyb]; rfl
    have hmem : memOf (done E h (line p E h)) = upd (memOf D) (line p E h).w.toNat (rg x (line p E h)) := by
      rw [done_mem h4, if_pos (.inl hk2), q1, q2]
    refine ⟨done E h (line p E h), .step he.r hh hme, ?_, fun k hk => ?_⟩
    · rw [flush_cons hr', hmem, ← sm.m]
    · rw [flush_cons hr']
      by_cases ek : k = h
      · subst ek
        refine ⟨n - (j + 1), ?_, fun i hi => ?_⟩
        · show put _ _ _ k = _
          rw [put_same, hmem, hown, pa]
          unfold pop; rw [hr']; rfl
        · rw [hmem, hown]
          have := (pop_rp hf hw.1 hyb i (fun a ha => hgr a (by omega)) (fun a ha => hat a (by omega))).1
          rw [this]
          exact hgr i hi
      · obtain ⟨n2, e1, e2⟩ := sm.l k hk
        have eo : locOf E k = locOf D k := he.other k (by omega) ek
        rw [← eo, ← q2] at e1 e2
        obtain ⟨a, b⟩ := other_ok hf hn he.r hh hk ek hme (.inl hk2) e2 (rg x (line p E h))
        rw [q2] at a b
        refine ⟨n2, ?_, ?_⟩
        · show put _ _ _ k = _
          rw [put_other ek, done_other h4 (by omega) ek, hmem, a, ← q2]
          exact e1
        · rw [done_other h4 (by omega) ek, hmem]
          exact b

/-! The ends are the same. -/
theorem result_same {words : Int} {p : List (List Ln)} (hf : Fine words p) {s : TS} {D : St} (hm : s.m = memOf D) (hl : ∀ h, h < p.length → s.l h = locOf D h) : result words p (enc s) = result words p D := by
  have hp := hf.n
  have hw := hf.w
  unfold result
  congr 1
  · refine List.map_congr_left (fun j hj => ?_)
    have hj : j < 2 * p.length := by simpa using hj
    have hk : j / 2 < p.length := by omega
    have hh := hl (j / 2) hk
    by_cases e : j % 2 = 0
    · rw [show 4 + j = 4 + (j / 2) * 2 by omega, enc_r0 s (by omega), hh]; rfl
    · rw [show 4 + j = 4 + (j / 2) * 2 + 1 by omega, enc_r1 s (by omega), hh]; rfl
  · refine List.map_congr_left (fun j hj => ?_)
    have hj : j < words.toNat := by simpa using hj
    rw [enc_word s (by omega), hm]; rfl
theorem rp_b {p : List (List Ln)} {h : Nat} {m : Nat → Int} {x : Loc} : ∀ n, (rp p h m n x).b = [] → ∀ i, i ≤ n → (rp p h m i x).b = []
  | 0, e, i, hi => by obtain rfl : i = 0 := by omega
                      exact e
  | n + 1, e, i, hi => by
    by_cases ei : i = n + 1
    · subst ei; exact e
    · have e' : (lstep m (rp p h m n x) (nxt p h (rp p h m n x))).b = [] := e
      rw [lstep_b] at e'
      split at e'
      · simp at e'
      · exact rp_b n e' i (by omega)
/-- All hands come to where nothing waits. -/
theorem sim_end {words : Int} {p : List (List Ln)} (hf : Fine words p) {s : TS} {D : St} (sm : Sim p s D) (hb : ∀ h, h < p.length → (s.l h).b = []) : ∀ k, k ≤ p.length → ∃ E, Sc.Reach p E ∧ memOf E = memOf D ∧ (∀ h, h < k → locOf E h = s.l h) ∧ ∀ h, k ≤ h → h < p.length → locOf E h = locOf D h
  | 0, _ => ⟨D, sm.r, rfl, fun h hh => by omega, fun _ _ _ => rfl⟩
  | k + 1, hk => by
    have hp := hf.n
    obtain ⟨E, e1, e2, e3, e4⟩ := sim_end hf sm hb k (by omega)
    obtain ⟨n, hl, hg⟩ := sm.l k (by omega)
    rw [← e2, ← e4 k (Nat.le_refl _) (by omega)] at hl hg
    obtain ⟨F, hF⟩ := adv hf e1 (show k < p.length by omega) n hg
    rw [← hl] at hF
    obtain ⟨q1, q2⟩ := hF.quiet (hb k (by omega))
    refine ⟨F, hF.r, by rw [q2, e2], fun h hh => ?_, fun h h1 h2 => ?_⟩
    · by_cases eh : h = k
      · subst eh; exact q1
      · rw [hF.other h (by omega) eh]; exact e3 h (by omega)
    · rw [hF.other h (by omega) (by omega)]; exact e4 h (by omega) h2
theorem ends_quiet {words : Int} {p : List (List Ln)} (hf : Fine words p) (hn : ¬ Sc.Races p) {x : List Int} (h : Ends words p x) : Sc.Ends words p x := by
  obtain ⟨s, hr, ht, rfl⟩ := h
  obtain ⟨D, sm⟩ := sim hf hn hr
  obtain ⟨E, e1, e2, e3, -⟩ := sim_end hf sm (fun h hh => (ht h hh).2) p.length (Nat.le_refl _)
  refine ⟨E, e1, fun h hh => ?_, ?_⟩
  · rw [← mor_of p h (x := s.l h) (congrArg Loc.at' (e3 h hh)).symm]; exact (ht h hh).1
  · exact result_same hf (by rw [e2]; exact sm.m) (fun h hh => (e3 h hh).symm)
/-- All that may be where nothing waits. -/
theorem at_once {words : Int} {p : List (List Ln)} (hf : Fine words p) {D : St} (hr : Sc.Reach p D) : ∃ s, Reach p s ∧ s.m = memOf D ∧ ∀ h, h < p.length → s.l h = locOf D h := by
  have hp := hf.n
  induction hr with
  | zero => exact ⟨_, .zero, rfl, fun _ _ => rfl⟩
  | @step D h hr hh hm ih =>
    obtain ⟨s, h1, h2, h3⟩ := ih
    have h4 : h < 4 := by omega
    have hx := h3 h hh
    have ea : (s.l h).at' = D h := congrArg Loc.at' hx
    have eb : (s.l h).b = [] := congrArg Loc.b hx
    have hln := nxt_of p h ea
    have hc : can p h (s.l h) = true := by
      unfold can; rw [mor_of p h ea, hm, eb]; simp
    have s1 := Reach.step h1 hh hc
    by_cases k2 : (line p D h).k = 2
    · have hb : ((step p s h).l h).b = [((line p D h).w, rg (s.l h) (line p D h))] := by
        show (put _ _ _ h).b = _
        rw [put_same, lstep_b, hln, if_pos k2, eb]; rfl
      have s2 := Reach.flush s1 hh (by rw [hb]; simp)
      refine ⟨_, s2, ?_, fun k hk => ?_⟩
      · rw [flush_cons hb, done_mem h4, if_pos (.inl k2), ← hx, ← h2]
        show upd (mstep _ _ _) _ _ = _
        unfold mstep; rw [hln, if_neg (by omega)]
      · rw [flush_cons hb]
        show put (put _ _ _) _ _ k = _
        by_cases ek : k = h
        · subst ek
          rw [put_same, done_own h4]
          show ({ (put s.l k (lstep s.m (s.l k) (nxt p k (s.l k))) k) with b := [] } : Loc) = _
          rw [put_same, hln, hx, h2]; rfl
        · rw [put_other ek, put_other ek, done_other h4 (by omega) ek]; exact h3 k hk
    · refine ⟨_, s1, ?_, fun k hk => ?_⟩
      · show mstep _ _ _ = _
        rw [done_mem h4]
        unfold mstep; rw [hln, h2, hx]
        by_cases k3 : (line p D h).k = 3
        · rw [if_pos k3, if_pos (.inr k3)]
        · rw [if_neg k3, if_neg (by omega)]
      · show put _ _ _ k = _
        by_cases ek : k = h
        · subst ek
          rw [put_same, done_own h4, hln, h2, hx]
          refine (unb_of ?_).symm
          rw [lstep_b, if_neg k2]; rfl
        · rw [put_other ek, done_other h4 (by omega) ek]; exact h3 k hk
theorem ends_more {words : Int} {p : List (List Ln)} (hf : Fine words p) {x : List Int} (h : Sc.Ends words p x) : Ends words p x := by
  obtain ⟨D, hr, ht, rfl⟩ := h
  obtain ⟨s, h1, h2, h3⟩ := at_once hf hr
  refine ⟨s, h1, fun k hk => ⟨?_, by rw [h3 k hk]; rfl⟩, (result_same hf h2 h3).symm⟩
  rw [mor_of p k (D := D) (by rw [h3 k hk]; rfl)]; exact ht k hk
theorem res_quiet {words : Int} {p : List (List Ln)} (hf : Fine words p) (hn : ¬ Sc.Races p) {L M : List (List Int)} (h : Sc.Res words p L) (k : Res words p M) : L = M :=
  Bfs.Rise.one h.rise k.rise (fun x => by rw [h.mem, k.mem]; exact ⟨ends_more hf, ends_quiet hf hn⟩)
theorem res_more {words : Int} {p : List (List Ln)} (hf : Fine words p) {L M : List (List Int)} (h : Sc.Res words p L) (k : Res words p M) : (∀ x ∈ L, x ∈ M) ∧ L.length ≤ M.length := by
  have e : ∀ x ∈ L, x ∈ M := fun x hx => (k.mem x).2 (ends_more hf ((h.mem x).1 hx))
  exact ⟨e, Bfs.nodup_le L M (Sc.Rise.nodup h.rise) e⟩
theorem alone_quiet {p : List (List Ln)} (h : p.length ≤ 1) : ¬ Sc.Races p := by
  rintro ⟨f, -, a, b, h1, h2, -⟩; omega

/-! Behind fences. -/
structure Fen (p : List (List Ln)) : Prop where
  no5 : ∀ h, h < p.length → ∀ i, i < (lines p h).length → ((lines p h).getD i Ln.zero).k ≠ 5
  fence : ∀ h, h < p.length → ∀ i, i < (lines p h).length → ((lines p h).getD i Ln.zero).k = 2 → i + 1 < (lines p h).length ∧ ((lines p h).getD (i + 1) Ln.zero).k = 4
structure FSim (p : List (List Ln)) (s : TS) (D : St) : Prop where
  r : Sc.Reach p D
  m : s.m = memOf D
  l : ∀ h, h < p.length → s.l h = locOf D h ∨ (more p D h = true ∧ (line p D h).k = 2 ∧ s.l h = lstep (memOf D) (locOf D h) (line p D h))
theorem fsim {words : Int} {p : List (List Ln)} (hf : Fine words p) (hF : Fen p) {s : TS} (hr : Reach p s) : ∃ D, FSim p s D := by
  have hp := hf.n
  have stay : ∀ (m m' : Nat → Int) (x : Loc) (l : Ln), l.k = 2 → lstep m x l = lstep m' x l := fun m m' x l e => lstep_loc (by omega) (by omega)
  induction hr with
  | zero => exact ⟨St.zero, .zero, rfl, fun h _ => .inl rfl⟩
  | @step s h hr hh hc ih =>
    obtain ⟨D, sm⟩ := ih
    have hm := can_mor hc
    have h4 : h < 4 := by omega
    have ho := (sm.r.fine hf).1.at0 h h4
    rcases sm.l h hh with hl | ⟨h1, h2, h3⟩
    · have ea : (s.l h).at' = D h := congrArg Loc.at' hl
      have eb : (s.l h).b = [] := congrArg Loc.b hl
      have hln := nxt_of p h ea
      rw [mor_of p h ea] at hm
      by_cases k2 : (line p D h).k = 2
      · refine ⟨D, sm.r, ?_, fun k hk => ?_⟩
        · show mstep _ _ _ = _
          unfold mstep; rw [hln, if_neg (by omega)]; exact sm.m
        · by_cases ek : k = h
          · subst ek
            refine .inr ⟨hm, k2, ?_⟩
            show put _ _ _ k = _
            rw [put_same, hln, hl, sm.m]
          · have := sm.l k hk
            rw [show (step p s h).l k = s.l k from put_other ek]; exact this
      · refine ⟨done D h (line p D h), .step sm.r hh hm, ?_, fun k hk => ?_⟩
        · show mstep _ _ _ = _
          rw [done_mem h4]
          unfold mstep; rw [hln, sm.m, hl]
          by_cases k3 : (line p D h).k = 3
          · rw [if_pos k3, if_pos (.inr k3)]
          · rw [if_neg k3, if_neg (by omega)]
        · by_cases ek : k = h
          · subst ek
            left
            show put _ _ _ k = _
            rw [put_same, done_own h4, hln, sm.m, hl]
            refine (unb_of ?_).symm
            rw [lstep_b, if_neg k2]; rfl
          · rw [show (step p s h).l k = s.l k from put_other ek]
            have eo := done_other (D := D) (l := line p D h) h4 (show k < 4 by omega) ek
            have eat : done D h (line p D h) k = D k := congrArg Loc.at' eo
            rcases sm.l k hk with a | ⟨a, b, c⟩
            · exact .inl (by rw [eo]; exact a)
            · have el : line p (done D h (line p D h)) k = line p D k := by
                generalize done D h (line p D h) = D' at eat ⊢
                unfold line; rw [eat]
              refine .inr ⟨?_, ?_, ?_⟩
              · unfold more at a ⊢; rw [eat]; exact a
              · rw [el]; exact b
              · rw [eo, el, c]; exact stay _ _ _ _ b
    · exfalso
      have hb : (s.l h).b ≠ [] := by rw [h3, lstep_b, if_pos h2]; simp
      have hmm := h1
      unfold more at hmm
      simp at hmm
      have hi : (D h).toNat < (lines p h).length := by omega
      have hfe := hF.fence h hh _ hi h2
      have hat : (s.l h).at' = D h + 1 := by rw [h3, lstep_at, if_neg (by omega)]; rfl
      have hk : (nxt p h (s.l h)).k = 4 := by
        unfold nxt; rw [hat, show (D h + 1).toNat = (D h).toNat + 1 by omega]; exact hfe.2
      unfold can at hc
      rw [hk] at hc
      simp [hb] at hc
  | @flush s h hr hh hb ih =>
    obtain ⟨D, sm⟩ := ih
    have h4 : h < 4 := by omega
    rcases sm.l h hh with hl | ⟨h1, h2, h3⟩
    · exact absurd (congrArg Loc.b hl) hb
    · have hbb : (s.l h).b = [((line p D h).w, rg (locOf D h) (line p D h))] := by rw [h3, lstep_b, if_pos h2]; rfl
      refine ⟨done D h (line p D h), .step sm.r hh h1, ?_, fun k hk => ?_⟩
      · rw [flush_cons hbb, done_mem h4, if_pos (.inl h2), sm.m]
      · rw [flush_cons hbb]
        show put _ _ _ k = _ ∨ _ ∧ _ ∧ put _ _ _ k = _
        by_cases ek : k = h
        · subst ek
          left
          rw [put_same, done_own h4, h3]; rfl
        · rw [put_other ek]
          have eo := done_other (D := D) (l := line p D h) h4 (show k < 4 by omega) ek
          have eat : done D h (line p D h) k = D k := congrArg Loc.at' eo
          rcases sm.l k hk with a | ⟨a, b, c⟩
          · exact .inl (by rw [eo]; exact a)
          · have el : line p (done D h (line p D h)) k = line p D k := by
              generalize done D h (line p D h) = D' at eat ⊢
              unfold line; rw [eat]
            refine .inr ⟨?_, ?_, ?_⟩
            · unfold more at a ⊢; rw [eat]; exact a
            · rw [el]; exact b
            · rw [eo, el, c]; exact stay _ _ _ _ b
theorem ends_fenced {words : Int} {p : List (List Ln)} (hf : Fine words p) (hF : Fen p) {x : List Int} (h : Ends words p x) : Sc.Ends words p x := by
  obtain ⟨s, hr, ht, rfl⟩ := h
  obtain ⟨D, sm⟩ := fsim hf hF hr
  have hl : ∀ h, h < p.length → s.l h = locOf D h := by
    intro h hh
    rcases sm.l h hh with a | ⟨a, b, c⟩
    · exact a
    · exfalso
      have := (ht h hh).2
      rw [c, lstep_b, if_pos b] at this
      simp at this
  refine ⟨D, sm.r, fun h hh => ?_, result_same hf sm.m hl⟩
  rw [← mor_of p h (x := s.l h) (by rw [hl h hh]; rfl)]; exact (ht h hh).1
theorem res_fenced {words : Int} {p : List (List Ln)} (hf : Fine words p) (hF : Fen p) {L M : List (List Int)} (h : Sc.Res words p L) (k : Res words p M) : L = M :=
  Bfs.Rise.one h.rise k.rise (fun x => by rw [h.mem, k.mem]; exact ⟨ends_more hf, ends_fenced hf hF⟩)

/-! Two hands the other way round. -/
def sh (h : Nat) : Nat := if h = 0 then 1 else if h = 1 then 0 else h
theorem sh_sh (h : Nat) : sh (sh h) = h := by unfold sh; repeat' split
                                              all_goals omega
theorem sh_lt {h : Nat} (hh : h < 2) : sh h < 2 := by unfold sh; repeat' split
                                                      all_goals omega
theorem sh_swi {h : Nat} (hh : h < 2) : sh h = Sc.swi h := by
  obtain rfl | rfl : h = 0 ∨ h = 1 := by omega
  · rfl
  · rfl
def swT (s : TS) : TS := ⟨s.m, fun h => s.l (sh h)⟩
theorem put_sh (f : Nat → Loc) (h : Nat) (x : Loc) : (fun k => put f h x (sh k)) = put (fun k => f (sh k)) (sh h) x := by
  funext k
  unfold put
  by_cases e : sh k = h
  · rw [if_pos e, if_pos (by rw [← e, sh_sh])]
  · rw [if_neg e, if_neg (fun c => e (by rw [c, sh_sh]))]
theorem nxt_sh (a b : List Ln) {h : Nat} (hh : h < 2) (x : Loc) : nxt [b, a] (sh h) x = nxt [a, b] h x := by
  unfold nxt; rw [sh_swi hh, Sc.lines_sw a b hh]
theorem mor_sh (a b : List Ln) {h : Nat} (hh : h < 2) (x : Loc) : mor [b, a] (sh h) x = mor [a, b] h x := by
  unfold mor; rw [sh_swi hh, Sc.lines_sw a b hh]
theorem swT_l (s : TS) (h : Nat) : (swT s).l (sh h) = s.l h := by show s.l (sh (sh h)) = _; rw [sh_sh]
theorem swT_step (a b : List Ln) (s : TS) {h : Nat} (hh : h < 2) : swT (step [a, b] s h) = step [b, a] (swT s) (sh h) := by
  unfold step
  rw [swT_l, nxt_sh a b hh]
  show (⟨_, _⟩ : TS) = _
  rw [put_sh]; rfl
theorem swT_flush (s : TS) (h : Nat) : swT (flush s h) = flush (swT s) (sh h) := by
  cases hb : (s.l h).b with
  | nil => unfold flush; rw [swT_l, hb]
  | cons x r =>
    rw [flush_cons hb, flush_cons (s := swT s) (h := sh h) (x := x) (r := r) (by rw [swT_l]; exact hb), swT_l]
    show (⟨_, _⟩ : TS) = _
    rw [put_sh]; rfl
theorem Reach.sw {a b : List Ln} {s : TS} (h : Reach [a, b] s) : Reach [b, a] (swT s) := by
  induction h with
  | zero => exact .zero
  | @step s h hr hh hc ih =>
    have h2 : h < 2 := by simpa using hh
    rw [swT_step a b s h2]
    refine .step ih (by simpa using sh_lt h2) ?_
    unfold can at hc ⊢
    rw [swT_l, mor_sh a b h2, nxt_sh a b h2]; exact hc
  | @flush s h hr hh hb ih =>
    have h2 : h < 2 := by simpa using hh
    rw [swT_flush]
    exact .flush ih (by simpa using sh_lt h2) (by rw [swT_l]; exact hb)
theorem Term.sw {a b : List Ln} {s : TS} (h : Term [a, b] s) : Term [b, a] (swT s) := by
  intro k hk
  have h2 : k < 2 := by simpa using hk
  have h3 := h (sh k) (by simpa using sh_lt h2)
  rw [← mor_sh a b (sh_lt h2), sh_sh] at h3
  exact h3
theorem result_sw {words : Int} (hw : words ≤ 4) (a b : List Ln) (s : TS) : result words [b, a] (enc (swT s)) = Sc.turned (result words [a, b] (enc s)) := by
  rw [Sc.result2, Sc.result2]
  have e : ∀ j ∈ List.range words.toNat, enc (swT s) (12 + j) = enc s (12 + j) := fun j hj => by
    have : j < words.toNat := by simpa using hj
    rw [enc_word _ (by omega), enc_word _ (by omega)]; rfl
  rw [List.map_congr_left e]
  have q4 : enc (swT s) 4 = enc s 6 := by rw [enc_r0 (swT s) (h := 0) (by omega), enc_r0 s (h := 1) (by omega)]; rfl
  have q5 : enc (swT s) 5 = enc s 7 := by rw [enc_r1 (swT s) (h := 0) (by omega), enc_r1 s (h := 1) (by omega)]; rfl
  have q6 : enc (swT s) 6 = enc s 4 := by rw [enc_r0 (swT s) (h := 1) (by omega), enc_r0 s (h := 0) (by omega)]; rfl
  have q7 : enc (swT s) 7 = enc s 5 := by rw [enc_r1 (swT s) (h := 1) (by omega), enc_r1 s (h := 0) (by omega)]; rfl
  rw [q4, q5, q6, q7]
  simp [Sc.turned]
theorem Ends.sw {words : Int} (hw : words ≤ 4) {a b : List Ln} {x : List Int} (h : Ends words [a, b] x) : Ends words [b, a] (Sc.turned x) := by
  obtain ⟨s, hr, ht, rfl⟩ := h
  exact ⟨_, hr.sw, ht.sw, (result_sw hw a b s).symm⟩
theorem Ends.long {words : Int} {a b : List Ln} {x : List Int} (h : Ends words [a, b] x) : 4 ≤ x.length := by
  obtain ⟨s, hr, ht, rfl⟩ := h
  rw [Sc.result2]; simp
theorem swT_swT (s : TS) : swT (swT s) = s := by
  show (⟨s.m, fun h => s.l (sh (sh h))⟩ : TS) = s
  simp only [sh_sh]
theorem turned_turned {words : Int} (hw : words ≤ 4) {a b : List Ln} {x : List Int} (h : Ends words [a, b] x) : Sc.turned (Sc.turned x) = x := by
  obtain ⟨s, hr, ht, rfl⟩ := h
  rw [← result_sw hw, ← result_sw hw, swT_swT]
theorem turned_le {words : Int} (hw : words ≤ 4) {a b : List Ln} {R S : List (List Int)} (h : Res words [a, b] R) (k : Res words [b, a] S) : R.length ≤ S.length := by
  have := Bfs.nodup_le (R.map Sc.turned) S (Sc.nodup_map Sc.turned R (fun x hx y hy e => by
    have := congrArg Sc.turned e
    rw [turned_turned hw ((h.mem x).1 hx), turned_turned hw ((h.mem y).1 hy)] at this
    exact this) (Sc.Rise.nodup h.rise)) (fun y hy => by
    obtain ⟨x, hx, rfl⟩ := List.mem_map.1 hy
    exact (k.mem _).2 (((h.mem x).1 hx).sw hw))
  simpa using this
theorem turned_len {words : Int} (hw : words ≤ 4) {a b : List Ln} {R S : List (List Int)} (h : Res words [a, b] R) (k : Res words [b, a] S) : R.length = S.length :=
  Nat.le_antisymm (turned_le hw h k) (turned_le hw k h)
theorem ends_len {words : Int} {p : List (List Ln)} {x : List Int} (h : Ends words p x) : x.length = 2 * p.length + words.toNat := by
  obtain ⟨f, hr, ht, rfl⟩ := h
  simp [result]
end Go.Proofs.YtllbmjnimfpghaaDoor.Tso
