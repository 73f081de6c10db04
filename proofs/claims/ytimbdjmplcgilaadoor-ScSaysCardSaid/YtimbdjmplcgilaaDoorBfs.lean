namespace Go.Proofs.YtimbdjmplcgilaaDoor.Bfs
set_option linter.unusedVariables false

/-! A search by a queue that takes each thing once; rows that rise. No program. -/
theorem nodup_le {α : Type} [DecidableEq α] : ∀ (l m : List α), l.Nodup → (∀ a ∈ l, a ∈ m) → l.length ≤ m.length
  | [], m, _, _ => by simp
  | a :: r, m, hn, h => by
    obtain ⟨h1, h2⟩ := List.nodup_cons.1 hn
    have ha := h a (by simp)
    have := nodup_le r (m.erase a) h2 (fun b hb => by
      have hne : b ≠ a := fun e => h1 (e ▸ hb)
      exact (List.mem_erase_of_ne hne).2 (h b (by simp [hb])))
    rw [List.length_erase_of_mem ha] at this
    have hp : 0 < m.length := List.length_pos_of_mem ha
    simp only [List.length_cons]
    omega

section
variable {α : Type} [DecidableEq α]
inductive Reach (z : α) (succ : α → List α) : α → Prop
  | zero : Reach z succ z
  | step {a b : α} : Reach z succ a → b ∈ succ a → Reach z succ b
def add (l : List α) (x : α) : List α := if x ∈ l then l else l ++ [x]
def addAll (l : List α) (xs : List α) : List α := xs.foldl add l
theorem addAll_nil (l : List α) : addAll l [] = l := rfl
theorem addAll_one (l : List α) (x : α) : addAll l [x] = add l x := rfl
theorem addAll_append (l xs ys : List α) : addAll l (xs ++ ys) = addAll (addAll l xs) ys := by simp [addAll]
theorem mem_add {l : List α} {x a : α} : a ∈ add l x ↔ a ∈ l ∨ a = x := by
  unfold add; split
  · exact ⟨.inl, fun h => h.elim id (fun e => by subst e; assumption)⟩
  · simp
theorem mem_addAll {xs : List α} : ∀ {l : List α} {a : α}, a ∈ addAll l xs ↔ a ∈ l ∨ a ∈ xs := by
  induction xs with
  | nil => intro l a; simp [addAll]
  | cons x r ih =>
    intro l a
    show a ∈ addAll (add l x) r ↔ _
    rw [ih, mem_add]; simp [or_assoc]
theorem add_nodup {l : List α} {x : α} (h : l.Nodup) : (add l x).Nodup := by
  unfold add; split
  · exact h
  · rename_i hx
    rw [List.nodup_append]
    exact ⟨h, by simp, fun a ha b hb => by simp at hb; subst hb; exact fun e => hx (e ▸ ha)⟩
theorem addAll_nodup {xs : List α} : ∀ {l : List α}, l.Nodup → (addAll l xs).Nodup := by
  induction xs with
  | nil => intro l h; exact h
  | cons x r ih => intro l h; exact ih (add_nodup h)
theorem add_pre (l : List α) (x : α) : ∃ t, add l x = l ++ t := by
  unfold add; split
  · exact ⟨[], by simp⟩
  · exact ⟨[x], rfl⟩
theorem addAll_pre (xs : List α) : ∀ l : List α, ∃ t, addAll l xs = l ++ t := by
  induction xs with
  | nil => intro l; exact ⟨[], by simp [addAll]⟩
  | cons x r ih =>
    intro l
    obtain ⟨t, h⟩ := ih (add l x)
    obtain ⟨t', h'⟩ := add_pre l x
    exact ⟨t' ++ t, by show addAll (add l x) r = _; rw [h, h', List.append_assoc]⟩
theorem addAll_get {l xs : List α} {i : Nat} (h : i < l.length) : (addAll l xs)[i]? = l[i]? := by
  obtain ⟨t, e⟩ := addAll_pre xs l
  rw [e, List.getElem?_append_left h]
theorem addAll_take {l xs : List α} {i : Nat} (h : i ≤ l.length) : (addAll l xs).take i = l.take i := by
  obtain ⟨t, e⟩ := addAll_pre xs l
  rw [e, List.take_append_of_le_length h]
theorem addAll_len (l xs : List α) : l.length ≤ (addAll l xs).length := by
  obtain ⟨t, e⟩ := addAll_pre xs l
  rw [e]; simp

/-- So far so good: the first i were looked at. -/
structure Inv (z : α) (succ : α → List α) (l : List α) (i : Nat) : Prop where
  nodup : l.Nodup
  zero : z ∈ l
  reach : ∀ a ∈ l, Reach z succ a
  closed : ∀ j a, j < i → l[j]? = some a → ∀ b ∈ succ a, b ∈ l
  le : i ≤ l.length
theorem Inv.start (z : α) (succ : α → List α) : Inv z succ [z] 0 :=
  ⟨by simp, by simp, fun a h => by simp at h; subst h; exact .zero, fun j a h => by omega, by omega⟩
/-- Some of what follows from the i-th was added. -/
theorem Inv.some {z : α} {succ : α → List α} {l : List α} {i : Nat} (h : Inv z succ l i) {a : α} (ha : l[i]? = .some a) {xs : List α} (hx : ∀ b ∈ xs, b ∈ succ a) : Inv z succ (addAll l xs) i := by
  have hi := (List.getElem?_eq_some_iff.1 ha).1
  refine ⟨addAll_nodup h.nodup, mem_addAll.2 (.inl h.zero), fun b hb => ?_, fun j b hj hb c hc => ?_, Nat.le_trans h.le (addAll_len _ _)⟩
  · rcases mem_addAll.1 hb with hb | hb
    · exact h.reach b hb
    · exact .step (h.reach a (List.mem_of_getElem? ha)) (hx b hb)
  · rw [addAll_get (by omega)] at hb
    exact mem_addAll.2 (.inl (h.closed j b hj hb c hc))
theorem Inv.next {z : α} {succ : α → List α} {l : List α} {i : Nat} (h : Inv z succ l i) {a : α} (ha : l[i]? = .some a) : Inv z succ (addAll l (succ a)) (i + 1) := by
  have hi := (List.getElem?_eq_some_iff.1 ha).1
  have h' := h.some ha (xs := succ a) (fun _ hb => hb)
  refine ⟨h'.nodup, h'.zero, h'.reach, fun j b hj hb c hc => ?_, by have := addAll_len l (succ a); omega⟩
  by_cases e : j = i
  · subst e
    rw [addAll_get hi, ha] at hb
    cases hb
    exact mem_addAll.2 (.inr hc)
  · exact h'.closed j b (by omega) hb c hc
omit [DecidableEq α] in
theorem Inv.all {z : α} {succ : α → List α} {l : List α} (h : Inv z succ l l.length) {a : α} : a ∈ l ↔ Reach z succ a := by
  refine ⟨h.reach a, fun hr => ?_⟩
  induction hr with
  | zero => exact h.zero
  | step _ hb ih =>
    obtain ⟨j, hj⟩ := List.getElem?_of_mem ih
    exact h.closed j _ (List.getElem?_eq_some_iff.1 hj).1 hj _ hb
theorem Inv.bound {z : α} {succ : α → List α} {l : List α} {i : Nat} (h : Inv z succ l i) {cov : List α} (hc : ∀ a, Reach z succ a → a ∈ cov) : l.length ≤ cov.length :=
  nodup_le l cov h.nodup (fun a ha => hc a (h.reach a ha))
end

/-! Rows by their first difference. -/
def cmpL : List Int → List Int → Int
  | [], [] => 0
  | [], _ :: _ => -1
  | _ :: _, [] => 1
  | x :: a, y :: b => if x < y then -1 else if y < x then 1 else cmpL a b
def ltL (a b : List Int) : Bool := decide (cmpL a b < 0)
theorem cmpL_range (a b : List Int) : cmpL a b = -1 ∨ cmpL a b = 0 ∨ cmpL a b = 1 := by
  induction a generalizing b with
  | nil => cases b <;> simp [cmpL]
  | cons x a ih =>
    cases b with
    | nil => simp [cmpL]
    | cons y b => unfold cmpL; split; · simp
                  split; · simp
                  exact ih b
theorem cmpL_neg (a b : List Int) : cmpL b a = - cmpL a b := by
  induction a generalizing b with
  | nil => cases b <;> simp [cmpL]
  | cons x a ih =>
    cases b with
    | nil => simp [cmpL]
    | cons y b =>
      unfold cmpL
      by_cases h1 : x < y
      · rw [if_neg (by omega), if_pos h1, if_pos h1]; simp
      · by_cases h2 : y < x
        · rw [if_pos h2, if_neg h1, if_pos h2]
        · rw [if_neg h2, if_neg h1, if_neg h1, if_neg h2]; exact ih b
theorem cmpL_zero {a b : List Int} : cmpL a b = 0 ↔ a = b := by
  induction a generalizing b with
  | nil => cases b <;> simp [cmpL]
  | cons x a ih =>
    cases b with
    | nil => simp [cmpL]
    | cons y b =>
      unfold cmpL
      by_cases h1 : x < y
      · rw [if_pos h1]; simp; omega
      · by_cases h2 : y < x
        · rw [if_neg h1, if_pos h2]; simp; omega
        · rw [if_neg h1, if_neg h2, ih, List.cons.injEq]
          exact ⟨fun e => ⟨by omega, e⟩, fun e => e.2⟩
theorem ltL_trans {a b c : List Int} (h1 : ltL a b = true) (h2 : ltL b c = true) : ltL a c = true := by
  simp only [ltL, decide_eq_true_eq] at *
  induction a generalizing b c with
  | nil =>
    cases b with
    | nil => simp [cmpL] at h1
    | cons y b => cases c with
      | nil => simp [cmpL] at h2
      | cons z c => simp [cmpL]
  | cons x a ih =>
    cases b with
    | nil => simp [cmpL] at h1
    | cons y b =>
      cases c with
      | nil => simp [cmpL] at h2
      | cons z c =>
        unfold cmpL at h1 h2 ⊢
        by_cases x1 : x < z
        · rw [if_pos x1]; omega
        · by_cases y1 : x < y
          · rw [if_neg (by omega), if_pos (by omega)] at h2; omega
          · by_cases y2 : y < x
            · rw [if_neg y1, if_pos y2] at h1; omega
            · rw [if_neg y1, if_neg y2] at h1
              by_cases y3 : z < x
              · rw [if_neg (by omega), if_pos (by omega)] at h2; omega
              · rw [if_neg (by omega), if_neg (by omega)] at h2
                rw [if_neg x1, if_neg y3]
                exact ih h1 h2
theorem ltL_irrefl (a : List Int) : ltL a a = false := by
  have : cmpL a a = 0 := cmpL_zero.2 rfl
  simp [ltL, this]
theorem ltL_asymm {a b : List Int} (h : ltL a b = true) : ltL b a = false := by
  have := cmpL_neg a b
  simp only [ltL, decide_eq_true_eq, decide_eq_false_iff_not] at *
  omega
theorem ltL_total {a b : List Int} (h1 : ltL a b = false) (h2 : ltL b a = false) : a = b := by
  have := cmpL_neg a b
  simp only [ltL, decide_eq_false_iff_not] at *
  exact cmpL_zero.1 (by omega)
/-- Rising, each once. -/
def Rise (l : List (List Int)) : Prop := l.Pairwise (fun a b => ltL a b = true)
theorem Rise.one : ∀ {l m : List (List Int)}, Rise l → Rise m → (∀ x, x ∈ l ↔ x ∈ m) → l = m
  | [], [], _, _, _ => rfl
  | [], b :: m, _, _, h => absurd ((h b).2 (by simp)) (by simp)
  | a :: l, [], _, _, h => absurd ((h a).1 (by simp)) (by simp)
  | a :: l, b :: m, hl, hm, h => by
    obtain ⟨l1, l2⟩ := List.pairwise_cons.1 hl
    obtain ⟨m1, m2⟩ := List.pairwise_cons.1 hm
    have e : a = b := by
      rcases List.mem_cons.1 ((h a).1 (by simp)) with e | ha
      · exact e
      · rcases List.mem_cons.1 ((h b).2 (by simp)) with e | hb
        · exact e.symm
        · have := ltL_asymm (m1 a ha)
          rw [l1 b hb] at this
          cases this
    subst e
    rw [Rise.one l2 m2 (fun x => ?_)]
    have := h x
    simp only [List.mem_cons] at this
    constructor
    · intro hx
      rcases this.1 (.inr hx) with e | h'
      · subst e; have := l1 x hx; rw [ltL_irrefl] at this; cases this
      · exact h'
    · intro hx
      rcases this.2 (.inr hx) with e | h'
      · subst e; have := m1 x hx; rw [ltL_irrefl] at this; cases this
      · exact h'
/-- Of like neighbours the first. -/
def once : List (List Int) → List (List Int)
  | [] => []
  | [a] => [a]
  | a :: b :: r => if a = b then once (b :: r) else a :: once (b :: r)
theorem mem_once {x : List Int} : ∀ {l : List (List Int)}, x ∈ once l ↔ x ∈ l
  | [] => by simp [once]
  | [a] => by simp [once]
  | a :: b :: r => by
    unfold once
    split
    · rename_i e
      rw [mem_once (l := b :: r)]; subst e; simp
    · rw [List.mem_cons, mem_once (l := b :: r), List.mem_cons]
      simp
theorem once_rise : ∀ {l : List (List Int)}, l.Pairwise (fun a b => ltL b a = false) → Rise (once l)
  | [], _ => by simp [once, Rise]
  | [a], _ => by simp [once, Rise]
  | a :: b :: r, h => by
    obtain ⟨h1, h2⟩ := List.pairwise_cons.1 h
    unfold once
    split
    · exact once_rise h2
    · rename_i e
      refine List.pairwise_cons.2 ⟨fun c hc => ?_, once_rise h2⟩
      have hc := mem_once.1 hc
      obtain ⟨h3, -⟩ := List.pairwise_cons.1 h2
      have lab : ltL a b = true := by
        cases q : ltL a b with
        | true => rfl
        | false => exact absurd (ltL_total q (h1 b (by simp))) e
      rcases List.mem_cons.1 hc with rfl | hc
      · exact lab
      · cases q : ltL b c with
        | true => exact ltL_trans lab q
        | false => rw [← ltL_total q (h3 c hc)]; exact lab
end Go.Proofs.YtimbdjmplcgilaaDoor.Bfs
