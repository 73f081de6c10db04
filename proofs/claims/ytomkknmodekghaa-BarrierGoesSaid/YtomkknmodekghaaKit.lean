namespace Go.Proofs.Ytomkknmodekghaa

/-- A row of numbers with one of them put anew. -/
def upd (f : Nat → Int) (i : Nat) (v : Int) : Nat → Int := fun j => if j = i then v else f j
theorem upd_same (f : Nat → Int) (i : Nat) (v : Int) : upd f i v i = v := by simp [upd]
theorem upd_other {f : Nat → Int} {i j : Nat} {v : Int} (h : j ≠ i) : upd f i v j = f j := by simp [upd, h]

/-- The sum of the first n. -/
def sumTo (f : Nat → Int) : Nat → Int
  | 0 => 0
  | j + 1 => sumTo f j + f j
theorem sumTo_upd_out {f : Nat → Int} {i : Nat} {v : Int} {n : Nat} (h : n ≤ i) : sumTo (upd f i v) n = sumTo f n := by
  induction n with
  | zero => rfl
  | succ n ih => simp only [sumTo, ih (by omega), upd_other (f := f) (v := v) (show n ≠ i by omega)]
theorem sumTo_upd {f : Nat → Int} {i : Nat} {v : Int} {n : Nat} (h : i < n) : sumTo (upd f i v) n = sumTo f n - f i + v := by
  induction n with
  | zero => omega
  | succ n ih =>
    by_cases hi : i = n
    · subst hi
      simp only [sumTo, sumTo_upd_out (f := f) (v := v) (Nat.le_refl i), upd_same]; omega
    · simp only [sumTo, ih (by omega), upd_other (f := f) (v := v) (show n ≠ i by omega)]; omega

/-- How many of the first j are so. -/
def cnt (f : Nat → Bool) : Nat → Int
  | 0 => 0
  | j + 1 => cnt f j + (if f j = true then 1 else 0)
theorem cnt_bd (f : Nat → Bool) (j : Nat) : 0 ≤ cnt f j ∧ cnt f j ≤ j := by
  induction j with
  | zero => simp [cnt]
  | succ j ih => unfold cnt; split <;> omega
theorem cnt_hit {f : Nat → Bool} {j : Nat} (h : f j = true) : cnt f (j + 1) = cnt f j + 1 := by simp [cnt, h]
theorem cnt_miss {f : Nat → Bool} {j : Nat} (h : f j = false) : cnt f (j + 1) = cnt f j := by simp [cnt, h]
theorem cnt_none {f : Nat → Bool} {n : Nat} (h : ∀ i, i < n → f i = false) : cnt f n = 0 := by
  induction n with
  | zero => rfl
  | succ n ih => rw [cnt_miss (h n (by omega))]; exact ih (fun i hi => h i (by omega))
theorem cnt_one {f : Nat → Bool} {n : Nat} (h : ∀ i j, i < n → j < n → f i = true → f j = true → i = j) : cnt f n ≤ 1 := by
  induction n with
  | zero => simp [cnt]
  | succ n ih =>
    cases hn : f n with
    | false => rw [cnt_miss hn]; exact ih (fun i j hi hj => h i j (by omega) (by omega))
    | true =>
      rw [cnt_hit hn, cnt_none (n := n) (fun i hi => by
        cases hi' : f i with
        | false => rfl
        | true => have := h i n (by omega) (by omega) hi' hn; omega)]
      omega

theorem cnt_congr {f g : Nat → Bool} {n : Nat} (h : ∀ i, i < n → f i = g i) : cnt f n = cnt g n := by
  induction n with
  | zero => rfl
  | succ n ih => simp only [cnt, ih (fun i hi => h i (by omega)), h n (by omega)]
/-- One of them turned. -/
theorem cnt_turn {f g : Nat → Bool} {n p : Nat} (hp : p < n) (h : ∀ i, i < n → i ≠ p → g i = f i) :
    cnt g n = cnt f n - (if f p = true then 1 else 0) + (if g p = true then 1 else 0) := by
  induction n with
  | zero => omega
  | succ n ih =>
    by_cases hn : p = n
    · subst hn
      simp only [cnt, cnt_congr (f := g) (g := f) (n := p) (fun i hi => h i (by omega) (by omega))]; omega
    · simp only [cnt, ih (by omega) (fun i hi => h i (by omega)), h n (by omega) (fun e => hn e.symm)]; omega

theorem cnt_upd {f : Nat → Int} {n p : Nat} (P : Int → Bool) (v : Int) (hp : p < n) :
    cnt (fun h => P (upd f p v h)) n = cnt (fun h => P (f h)) n - (if P (f p) = true then 1 else 0) + (if P v = true then 1 else 0) := by
  rw [cnt_turn (f := fun h => P (f h)) (g := fun h => P (upd f p v h)) hp (fun i _ hi => by simp only [upd_other hi])]
  simp only [upd_same]

/-- The place of p in a row. -/
def pos (p : Nat) : List Nat → Nat
  | [] => 0
  | h :: r => if h = p then 0 else pos p r + 1
theorem pos_append {p : Nat} {l m : List Nat} (h : p ∈ l) : pos p (l ++ m) = pos p l := by
  induction l with
  | nil => simp at h
  | cons g r ih =>
    simp only [List.cons_append, pos]
    by_cases e : g = p
    · simp [e]
    · simp only [e, if_false]
      rw [ih (by rcases List.mem_cons.1 h with rfl | h; exact absurd rfl e; exact h)]
theorem pos_last {p : Nat} {l : List Nat} (h : p ∉ l) : pos p (l ++ [p]) = l.length := by
  induction l with
  | nil => simp [pos]
  | cons g r ih =>
    have e : g ≠ p := fun e => h (by simp [e])
    simp only [List.cons_append, pos, e, if_false, List.length_cons]
    rw [ih (fun m => h (by simp [m]))]
theorem pos_lt {p : Nat} {l : List Nat} (h : p ∈ l) : pos p l < l.length := by
  induction l with
  | nil => simp at h
  | cons g r ih =>
    simp only [pos, List.length_cons]
    by_cases e : g = p
    · simp [e]
    · simp only [e, if_false]
      have := ih (by rcases List.mem_cons.1 h with rfl | h; exact absurd rfl e; exact h)
      omega
theorem nodup_len : ∀ (n : Nat) (l : List Nat), l.Nodup → (∀ h, h ∈ l → h < n) → l.length ≤ n := by
  intro n
  induction n with
  | zero =>
    intro l _ h
    cases l with
    | nil => simp
    | cons a r => have := h a (by simp); omega
  | succ n ih =>
    intro l hn h
    have h1 := ih (l.erase n) (hn.erase n) (fun g hg => by
      have := (hn.mem_erase_iff).1 hg
      have := h g this.2
      omega)
    rw [List.length_erase] at h1
    split at h1 <;> omega

/-- WHO WAITS COMES IN. A number V that no line of anybody raises; a hand r whose next line lowers it (or brings p in), and that stays the one till it does that line. -/
theorem live {St : Type} {n p : Nat} (hp : p < n) (step : St → Nat → St) (tr : St → Nat → St) (tr0 : ∀ s, tr s 0 = s) (tr1 : ∀ s t, tr s (t + 1) = step (tr s t) (t % n))
    (Inv : St → Prop) (isin : St → Bool) (V : St → Nat) (r : St → Nat)
    (hstep : ∀ s h, Inv s → h < n → Inv (step s h)) (hr : ∀ s, Inv s → r s < n)
    (hmove : ∀ s h, Inv s → h < n → (h = p ∧ isin (step s h) = true) ∨ V (step s h) < V s ∨ (V (step s h) = V s ∧ h ≠ r s ∧ r (step s h) = r s)) :
    ∀ R s, Inv s → V s < R → ∃ t, t < R * n ∧ t % n = p ∧ isin (tr s (t + 1)) = true := by
  have hInv : ∀ s t, Inv s → Inv (tr s t) := by
    intro s t hs
    induction t with
    | zero => rw [tr0]; exact hs
    | succ t ih => rw [tr1]; exact hstep _ _ ih (Nat.mod_lt _ (by omega))
  have hround : ∀ s, Inv s → ∀ j, j ≤ n → (∃ t, t < j ∧ t % n = p ∧ isin (tr s (t + 1)) = true) ∨ V (tr s j) < V s ∨ (V (tr s j) = V s ∧ r (tr s j) = r s ∧ j ≤ r s) := by
    intro s hs j
    induction j with
    | zero => intro _; exact .inr (.inr ⟨by rw [tr0], by rw [tr0], by omega⟩)
    | succ j ih =>
      intro hj
      have e : j % n = j := Nat.mod_eq_of_lt (by omega)
      rcases ih (by omega) with ⟨t, h1, h2, h3⟩ | h | ⟨h1, h2, h3⟩
      · exact .inl ⟨t, by omega, h2, h3⟩
      · rcases hmove (tr s j) j (hInv s j hs) (by omega) with ⟨g1, g2⟩ | g | ⟨g, -, -⟩
        · exact .inl ⟨j, by omega, by rw [e]; exact g1, by rw [tr1, e]; exact g2⟩
        · refine .inr (.inl ?_); rw [tr1, e]; omega
        · refine .inr (.inl ?_); rw [tr1, e]; omega
      · rcases hmove (tr s j) j (hInv s j hs) (by omega) with ⟨g1, g2⟩ | g | ⟨g1, g2, g3⟩
        · exact .inl ⟨j, by omega, by rw [e]; exact g1, by rw [tr1, e]; exact g2⟩
        · refine .inr (.inl ?_); rw [tr1, e]; omega
        · refine .inr (.inr ⟨?_, ?_, ?_⟩)
          · rw [tr1, e]; omega
          · rw [tr1, e]; rw [g3, h2]
          · rw [h2] at g2; omega
  have htr : ∀ s t, tr s (n + t) = tr (tr s n) t := by
    intro s t
    induction t with
    | zero => rw [tr0]; rfl
    | succ t ih => rw [← Nat.add_assoc, tr1, tr1, ih, Nat.add_mod_left]
  intro R
  induction R with
  | zero => intro s _ h; omega
  | succ R ih =>
    intro s hs hV
    rcases hround s hs n (Nat.le_refl n) with ⟨t, h1, h2, h3⟩ | h | ⟨-, -, h⟩
    · exact ⟨t, by rw [Nat.succ_mul]; omega, h2, h3⟩
    · obtain ⟨t, h1, h2, h3⟩ := ih (tr s n) (hInv s n hs) (by omega)
      exact ⟨n + t, by rw [Nat.succ_mul]; omega, by rw [Nat.add_mod_left]; exact h2, by rw [Nat.add_assoc, htr]; exact h3⟩
    · have := hr s hs; omega
end Go.Proofs.Ytomkknmodekghaa
