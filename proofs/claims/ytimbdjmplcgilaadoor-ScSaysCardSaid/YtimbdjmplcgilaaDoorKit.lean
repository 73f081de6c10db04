namespace Go.Proofs.YtimbdjmplcgilaaDoor

/-- A row of numbers with one of them put anew. -/
def upd (f : Nat → Int) (i : Nat) (v : Int) : Nat → Int := fun j => if j = i then v else f j
theorem upd_same (f : Nat → Int) (i : Nat) (v : Int) : upd f i v i = v := by simp [upd]
theorem upd_other {f : Nat → Int} {i j : Nat} {v : Int} (h : j ≠ i) : upd f i v j = f j := by simp [upd, h]

theorem upd_upd (f : Nat → Int) (i : Nat) (a b : Int) : upd (upd f i a) i b = upd f i b := by
  funext j; unfold upd; split <;> rfl

theorem upd_self (f : Nat → Int) (i : Nat) {v : Int} (h : f i = v) : upd f i v = f := by
  funext j; unfold upd; split
  · subst_vars; rfl
  · rfl

/-- The sum of the first n. -/
def sumTo (f : Nat → Int) : Nat → Int
  | 0 => 0
  | j + 1 => sumTo f j + f j
theorem sumTo_upd_out {f : Nat → Int} {i : Nat} {v : Int} {n : Nat} (h : n ≤ i) : sumTo (upd f i v) n = sumTo f n := by
  induction n with
  | zero => rfl
  | succ n ih => simp only [sumTo, ih (by omega), upd_other (f := f) (v := v) (show n ≠ i by omega)]
theorem sumTo_upd {f : Nat → Int} {i : Nat} {v : Int} {n : Nat} (h : i < n) : sumTo (upd f i v) n = sumTo f n - f i + v := by
  induction n with
  | zero => omega
  | succ n ih =>
    by_cases hi : i = n
    · subst hi
      simp only [sumTo, sumTo_upd_out (f := f) (v := v) (Nat.le_refl i), upd_same]; omega
    · simp only [sumTo, ih (by omega), upd_other (f := f) (v := v) (show n ≠ i by omega)]; omega

theorem sumTo_congr {f g : Nat → Int} {n : Nat} (h : ∀ i, i < n → f i = g i) : sumTo f n = sumTo g n := by
  induction n with
  | zero => rfl
  | succ n ih => simp only [sumTo, ih (fun i hi => h i (by omega)), h n (by omega)]
theorem sumTo_le {f g : Nat → Int} {n : Nat} (h : ∀ i, i < n → f i ≤ g i) : sumTo f n ≤ sumTo g n := by
  induction n with
  | zero => simp [sumTo]
  | succ n ih =>
    have := ih (fun i hi => h i (by omega))
    have := h n (by omega)
    simp only [sumTo]; omega
set_option linter.unusedSimpArgs false in
/-- One falls by more than another one rises. -/
theorem sumTo_two {f g : Nat → Int} {n a o : Nat} {c : Int} (ha : a < n) (h : ∀ i, i < n → i ≠ a → f i ≤ g i + (if i = o then c else 0)) (hc : 0 ≤ c) (hf : f a + c < g a) : sumTo f n < sumTo g n := by
  have key : ∀ m, m ≤ n → sumTo f m ≤ sumTo g m + (if o < m then c else 0) + (if a < m then f a - g a else 0) := by
    intro m
    induction m with
    | zero => intro _; simp [sumTo]
    | succ m ih =>
      intro hm
      have i1 := ih (by omega)
      have i2 := h m (by omega)
      simp only [sumTo]
      by_cases e : m = a
      · subst e
        by_cases x : o < m
        · simp only [x, show o < m + 1 by omega, show m < m + 1 by omega, show ¬ m < m by omega, if_true, if_false] at i1 ⊢; omega
        · by_cases y : o < m + 1
          · simp only [x, y, show m < m + 1 by omega, show ¬ m < m by omega, if_true, if_false] at i1 ⊢; omega
          · simp only [x, y, show m < m + 1 by omega, show ¬ m < m by omega, if_true, if_false] at i1 ⊢; omega
      · have i3 := i2 e
        by_cases x : o < m
        · have ne : ¬ m = o := by omega
          simp only [x, show o < m + 1 by omega, ne, if_true, if_false] at i1 i3 ⊢
          by_cases y : a < m
          · simp only [y, show a < m + 1 by omega, if_true] at i1 ⊢; omega
          · simp only [y, show ¬ a < m + 1 by omega, if_false] at i1 ⊢; omega
        · by_cases z : m = o
          · simp only [x, show o < m + 1 by omega, z, if_true, if_false] at i1 i3 ⊢
            by_cases y : a < o
            · simp only [y, show a < o + 1 by omega, if_true] at i1 ⊢
              subst z; omega
            · simp only [y, show ¬ a < o + 1 by omega, if_false] at i1 ⊢
              subst z; omega
          · simp only [x, show ¬ o < m + 1 by omega, z, if_false] at i1 i3 ⊢
            by_cases y : a < m
            · simp only [y, show a < m + 1 by omega, if_true] at i1 ⊢; omega
            · simp only [y, show ¬ a < m + 1 by omega, if_false] at i1 ⊢; omega
  have := key n (Nat.le_refl n)
  simp only [ha, if_true] at this
  split at this <;> omega
theorem sumTo_lt {f g : Nat → Int} {n a : Nat} (ha : a < n) (h : ∀ i, i < n → i ≠ a → f i ≤ g i) (hf : f a < g a) : sumTo f n < sumTo g n :=
  sumTo_two (o := a) (c := 0) ha (fun i hi hia => by have := h i hi hia; simp; exact this) (by omega) (by omega)

/-- The last of the first j that is so; p, if none is. -/
def pick (f : Nat → Bool) (p : Nat) : Nat → Nat
  | 0 => p
  | j + 1 => if f j = true then j else pick f p j
theorem pick_ok {f : Nat → Bool} {p n : Nat} (h : ∃ i, i < n ∧ f i = true) : pick f p n < n ∧ f (pick f p n) = true := by
  induction n with
  | zero => obtain ⟨i, hi, -⟩ := h; omega
  | succ n ih =>
    unfold pick
    by_cases e : f n = true
    · rw [if_pos e]; exact ⟨by omega, e⟩
    · rw [if_neg e]
      obtain ⟨i, hi, hf⟩ := h
      have : i ≠ n := fun x => e (x ▸ hf)
      have := ih ⟨i, by omega, hf⟩
      exact ⟨by omega, this.2⟩
theorem pick_congr {f g : Nat → Bool} {p n : Nat} (h : ∀ i, i < n → f i = g i) : pick f p n = pick g p n := by
  induction n with
  | zero => rfl
  | succ n ih => unfold pick; rw [h n (by omega), ih (fun i hi => h i (by omega))]

/-- How many of the first j are so. -/
def cnt (f : Nat → Bool) : Nat → Int
  | 0 => 0
  | j + 1 => cnt f j + (if f j = true then 1 else 0)
theorem cnt_bd (f : Nat → Bool) (j : Nat) : 0 ≤ cnt f j ∧ cnt f j ≤ j := by
  induction j with
  | zero => simp [cnt]
  | succ j ih => unfold cnt; split <;> omega
theorem cnt_hit {f : Nat → Bool} {j : Nat} (h : f j = true) : cnt f (j + 1) = cnt f j + 1 := by simp [cnt, h]
theorem cnt_miss {f : Nat → Bool} {j : Nat} (h : f j = false) : cnt f (j + 1) = cnt f j := by simp [cnt, h]
theorem cnt_none {f : Nat → Bool} {n : Nat} (h : ∀ i, i < n → f i = false) : cnt f n = 0 := by
  induction n with
  | zero => rfl
  | succ n ih => rw [cnt_miss (h n (by omega))]; exact ih (fun i hi => h i (by omega))
theorem cnt_one {f : Nat → Bool} {n : Nat} (h : ∀ i j, i < n → j < n → f i = true → f j = true → i = j) : cnt f n ≤ 1 := by
  induction n with
  | zero => simp [cnt]
  | succ n ih =>
    cases hn : f n with
    | false => rw [cnt_miss hn]; exact ih (fun i j hi hj => h i j (by omega) (by omega))
    | true =>
      rw [cnt_hit hn, cnt_none (n := n) (fun i hi => by
        cases hi' : f i with
        | false => rfl
        | true => have := h i n (by omega) (by omega) hi' hn; omega)]
      omega

theorem cnt_congr {f g : Nat → Bool} {n : Nat} (h : ∀ i, i < n → f i = g i) : cnt f n = cnt g n := by
  induction n with
  | zero => rfl
  | succ n ih => simp only [cnt, ih (fun i hi => h i (by omega)), h n (by omega)]
/-- One of them turned. -/
theorem cnt_turn {f g : Nat → Bool} {n p : Nat} (hp : p < n) (h : ∀ i, i < n → i ≠ p → g i = f i) :
    cnt g n = cnt f n - (if f p = true then 1 else 0) + (if g p = true then 1 else 0) := by
  induction n with
  | zero => omega
  | succ n ih =>
    by_cases hn : p = n
    · subst hn
      simp only [cnt, cnt_congr (f := g) (g := f) (n := p) (fun i hi => h i (by omega) (by omega))]; omega
    · simp only [cnt, ih (by omega) (fun i hi => h i (by omega)), h n (by omega) (fun e => hn e.symm)]; omega

theorem cnt_upd {f : Nat → Int} {n p : Nat} (P : Int → Bool) (v : Int) (hp : p < n) :
    cnt (fun h => P (upd f p v h)) n = cnt (fun h => P (f h)) n - (if P (f p) = true then 1 else 0) + (if P v = true then 1 else 0) := by
  rw [cnt_turn (f := fun h => P (f h)) (g := fun h => P (upd f p v h)) hp (fun i _ hi => by simp only [upd_other hi])]
  simp only [upd_same]

theorem cnt_le {f g : Nat → Bool} {n : Nat} (h : ∀ i, i < n → f i = true → g i = true) : cnt f n ≤ cnt g n := by
  induction n with
  | zero => simp [cnt]
  | succ n ih =>
    have := ih (fun i hi => h i (by omega))
    have := h n (by omega)
    cases hf : f n with
    | false => rw [cnt_miss hf]; simp only [cnt]; split <;> omega
    | true => rw [cnt_hit hf, cnt_hit (this hf)]; omega
theorem cnt_lt {f g : Nat → Bool} {n v : Nat} (hv : v < n) (h1 : f v = false) (h2 : g v = true) (h : ∀ i, i < n → f i = true → g i = true) : cnt f n + 1 ≤ cnt g n := by
  induction n with
  | zero => omega
  | succ n ih =>
    by_cases e : v = n
    · subst e
      rw [cnt_miss h1, cnt_hit h2]
      have := cnt_le (f := f) (g := g) (n := v) (fun i hi => h i (by omega)); omega
    · have := ih (by omega) (fun i hi => h i (by omega))
      have := h n (by omega)
      cases hf : f n with
      | false => rw [cnt_miss hf]; simp only [cnt]; split <;> omega
      | true => rw [cnt_hit hf, cnt_hit (this hf)]; omega
theorem cnt_two {f : Nat → Bool} {n a b : Nat} (ha : a < n) (hb : b < n) (hab : a ≠ b) (h1 : f a = true) (h2 : f b = true) : 2 ≤ cnt f n := by
  have x := cnt_lt (f := fun i => f i && decide (i ≠ a)) (g := f) ha (by simp) h1 (fun i _ x => by simp at x; exact x.1)
  have y := cnt_lt (f := fun _ => false) (g := fun i => f i && decide (i ≠ a)) (n := n) hb rfl (by simp [h2]; omega) (fun i _ x => by simp at x)
  rw [cnt_none (f := fun _ => false) (fun _ _ => rfl)] at y
  omega
theorem cnt_pos {f : Nat → Bool} {n i : Nat} (hi : i < n) (h : f i = true) : 0 < cnt f n := by
  have := cnt_lt (f := fun _ => false) (g := f) (n := n) hi rfl h (fun _ _ x => by simp at x)
  have := (cnt_bd (fun _ => false) n).1
  omega
theorem cnt_pos_iff {f : Nat → Bool} {n : Nat} : 0 < cnt f n ↔ ∃ i, i < n ∧ f i = true := by
  refine ⟨fun h => ?_, fun ⟨i, h1, h2⟩ => cnt_pos h1 h2⟩
  apply Classical.byContradiction
  intro hn
  have := cnt_none (f := f) (n := n) (fun i hi => by
    cases hf : f i with
    | false => rfl
    | true => exact absurd ⟨i, hi, hf⟩ hn)
  omega
theorem sumTo_bd {f : Nat → Int} {n p : Nat} {X : Int} (hp : p < n) (h0 : f p = 0) (h : ∀ i, i < n → i ≠ p → f i ≤ X) : sumTo f n ≤ (n - 1) * X := by
  have key : ∀ m, m ≤ n → sumTo f m ≤ m * X - (if p < m then X else 0) := by
    intro m
    induction m with
    | zero => intro _; simp [sumTo]
    | succ m ih =>
      intro hm
      have i1 := ih (by omega)
      have e : ((m + 1 : Nat) : Int) * X = m * X + X := by rw [Int.natCast_add, Int.add_mul]; simp
      simp only [sumTo, e]
      by_cases c : m = p
      · subst c
        rw [if_neg (by omega)] at i1
        rw [if_pos (by omega), h0]; omega
      · have := h m (by omega) c
        by_cases x : p < m
        · rw [if_pos x] at i1; rw [if_pos (by omega)]; omega
        · rw [if_neg x] at i1; rw [if_neg (by omega)]; omega
  have := key n (Nat.le_refl n)
  rw [if_pos hp] at this
  rw [Int.sub_mul]; omega

/-- The place of p in a row. -/
def pos (p : Nat) : List Nat → Nat
  | [] => 0
  | h :: r => if h = p then 0 else pos p r + 1
theorem pos_append {p : Nat} {l m : List Nat} (h : p ∈ l) : pos p (l ++ m) = pos p l := by
  induction l with
  | nil => simp at h
  | cons g r ih =>
    simp only [List.cons_append, pos]
    by_cases e : g = p
    · simp [e]
    · simp only [e, if_false]
      rw [ih (by rcases List.mem_cons.1 h with rfl | h; exact absurd rfl e; exact h)]
theorem pos_last {p : Nat} {l : List Nat} (h : p ∉ l) : pos p (l ++ [p]) = l.length := by
  induction l with
  | nil => simp [pos]
  | cons g r ih =>
    have e : g ≠ p := fun e => h (by simp [e])
    simp only [List.cons_append, pos, e, if_false, List.length_cons]
    rw [ih (fun m => h (by simp [m]))]
theorem pos_lt {p : Nat} {l : List Nat} (h : p ∈ l) : pos p l < l.length := by
  induction l with
  | nil => simp at h
  | cons g r ih =>
    simp only [pos, List.length_cons]
    by_cases e : g = p
    · simp [e]
    · simp only [e, if_false]
      have := ih (by rcases List.mem_cons.1 h with rfl | h; exact absurd rfl e; exact h)
      omega
theorem nodup_len : ∀ (n : Nat) (l : List Nat), l.Nodup → (∀ h, h ∈ l → h < n) → l.length ≤ n := by
  intro n
  induction n with
  | zero =>
    intro l _ h
    cases l with
    | nil => simp
    | cons a r => have := h a (by simp); omega
  | succ n ih =>
    intro l hn h
    have h1 := ih (l.erase n) (hn.erase n) (fun g hg => by
      have := (hn.mem_erase_iff).1 hg
      have := h g this.2
      omega)
    rw [List.length_erase] at h1
    split at h1 <;> omega

/-- WHO WAITS COMES IN. A number V that no line of anybody raises; a hand r whose next line lowers it (or brings p in), and that stays the one till it does that line. -/
theorem live {St : Type} {n p : Nat} (hp : p < n) (step : St → Nat → St) (tr : St → Nat → St) (tr0 : ∀ s, tr s 0 = s) (tr1 : ∀ s t, tr s (t + 1) = step (tr s t) (t % n))
    (Inv : St → Prop) (isin : St → Bool) (V : St → Nat) (r : St → Nat)
    (hstep : ∀ s h, Inv s → h < n → Inv (step s h)) (hr : ∀ s, Inv s → r s < n)
    (hmove : ∀ s h, Inv s → h < n → (h = p ∧ isin (step s h) = true) ∨ V (step s h) < V s ∨ (V (step s h) = V s ∧ h ≠ r s ∧ r (step s h) = r s)) :
    ∀ R s, Inv s → V s < R → ∃ t, t < R * n ∧ t % n = p ∧ isin (tr s (t + 1)) = true := by
  have hInv : ∀ s t, Inv s → Inv (tr s t) := by
    intro s t hs
    induction t with
    | zero => rw [tr0]; exact hs
    | succ t ih => rw [tr1]; exact hstep _ _ ih (Nat.mod_lt _ (by omega))
  have hround : ∀ s, Inv s → ∀ j, j ≤ n → (∃ t, t < j ∧ t % n = p ∧ isin (tr s (t + 1)) = true) ∨ V (tr s j) < V s ∨ (V (tr s j) = V s ∧ r (tr s j) = r s ∧ j ≤ r s) := by
    intro s hs j
    induction j with
    | zero => intro _; exact .inr (.inr ⟨by rw [tr0], by rw [tr0], by omega⟩)
    | succ j ih =>
      intro hj
      have e : j % n = j := Nat.mod_eq_of_lt (by omega)
      rcases ih (by omega) with ⟨t, h1, h2, h3⟩ | h | ⟨h1, h2, h3⟩
      · exact .inl ⟨t, by omega, h2, h3⟩
      · rcases hmove (tr s j) j (hInv s j hs) (by omega) with ⟨g1, g2⟩ | g | ⟨g, -, -⟩
        · exact .inl ⟨j, by omega, by rw [e]; exact g1, by rw [tr1, e]; exact g2⟩
        · refine .inr (.inl ?_); rw [tr1, e]; omega
        · refine .inr (.inl ?_); rw [tr1, e]; omega
      · rcases hmove (tr s j) j (hInv s j hs) (by omega) with ⟨g1, g2⟩ | g | ⟨g1, g2, g3⟩
        · exact .inl ⟨j, by omega, by rw [e]; exact g1, by rw [tr1, e]; exact g2⟩
        · refine .inr (.inl ?_); rw [tr1, e]; omega
        · refine .inr (.inr ⟨?_, ?_, ?_⟩)
          · rw [tr1, e]; omega
          · rw [tr1, e]; rw [g3, h2]
          · rw [h2] at g2; omega
  have htr : ∀ s t, tr s (n + t) = tr (tr s n) t := by
    intro s t
    induction t with
    | zero => rw [tr0]; rfl
    | succ t ih => rw [← Nat.add_assoc, tr1, tr1, ih, Nat.add_mod_left]
  intro R
  induction R with
  | zero => intro s _ h; omega
  | succ R ih =>
    intro s hs hV
    rcases hround s hs n (Nat.le_refl n) with ⟨t, h1, h2, h3⟩ | h | ⟨-, -, h⟩
    · exact ⟨t, by rw [Nat.succ_mul]; omega, h2, h3⟩
    · obtain ⟨t, h1, h2, h3⟩ := ih (tr s n) (hInv s n hs) (by omega)
      exact ⟨n + t, by rw [Nat.succ_mul]; omega, by rw [Nat.add_mod_left]; exact h2, by rw [Nat.add_assoc, htr]; exact h3⟩
    · have := hr s hs; omega
end Go.Proofs.YtimbdjmplcgilaaDoor
