import Derived.Test.YtllbmjnimfpghaaDoorTsPlain
namespace Go.Proofs.YtllbmjnimfpghaaDoor.Tso
open Pr
set_option linter.unusedVariables false
set_option linter.unusedSimpArgs false

/-! How many states there are at most: each comes from what the words saw, and then lines that touch no word. -/
/-- The next line touches no word. -/
def isLoc (p : List (List Ln)) (h : Nat) (x : Loc) : Bool :=
  mor p h x && !((nxt p h x).k == 1) && !((nxt p h x).k == 3) && (!((nxt p h x).k == 4) || x.b.isEmpty)
def lo (p : List (List Ln)) (h : Nat) (x : Loc) : Loc := if isLoc p h x then lstep (fun _ => 0) x (nxt p h x) else x
def trl (p : List (List Ln)) (h : Nat) : Nat → Loc → Loc
  | 0, x => x
  | n + 1, x => lo p h (trl p h n x)
/-- .. until something waits. -/
def trF (p : List (List Ln)) (h : Nat) : Nat → Loc → Loc
  | 0, x => x
  | n + 1, x => if (trF p h n x).b = [] then lo p h (trF p h n x) else trF p h n x
def tr (p : List (List Ln)) (t : Nat → Nat) (s : TS) : TS := ⟨s.m, fun h => trl p h (t h) (s.l h)⟩
def doL (p : List (List Ln)) (h : Nat) (s : TS) : TS := step p ⟨s.m, put s.l h (trl p h 5 (s.l h))⟩ h
def doF (p : List (List Ln)) (h : Nat) (s : TS) : TS := flush ⟨s.m, put s.l h (trF p h 5 (s.l h))⟩ h
theorem trl_stay {p : List (List Ln)} {h : Nat} {x : Loc} (hx : isLoc p h x = false) : ∀ n, trl p h n x = x
  | 0 => rfl
  | n + 1 => by unfold trl; rw [trl_stay hx n]; unfold lo; rw [if_neg (by rw [hx]; simp)]
theorem trl_add (p : List (List Ln)) (h a : Nat) (x : Loc) : ∀ n, trl p h (a + n) x = trl p h n (trl p h a x)
  | 0 => rfl
  | n + 1 => by
    show lo p h (trl p h (a + n) x) = lo p h (trl p h n (trl p h a x))
    rw [trl_add p h a x n]
theorem trl_one (p : List (List Ln)) (h n : Nat) (x : Loc) : trl p h (n + 1) x = trl p h n (lo p h x) := by
  rw [Nat.add_comm, trl_add]; rfl
theorem lstep_loc {m m' : Nat → Int} {x : Loc} {l : Ln} (h1 : l.k ≠ 1) (h3 : l.k ≠ 3) : lstep m x l = lstep m' x l := by
  unfold lstep; rw [if_neg h1, if_neg h1, if_neg h3, if_neg h3]
theorem isLoc_all {p : List (List Ln)} {h : Nat} {x : Loc} (hx : isLoc p h x = true) : mor p h x = true ∧ (nxt p h x).k ≠ 1 ∧ (nxt p h x).k ≠ 3 ∧ ((nxt p h x).k = 4 → x.b = []) := by
  unfold isLoc at hx
  simp only [Bool.and_eq_true, Bool.not_eq_true', beq_eq_false_iff_ne, Bool.or_eq_true, List.isEmpty_iff] at hx
  obtain ⟨⟨⟨h1, h2⟩, h3⟩, h4⟩ := hx
  exact ⟨h1, h2, h3, fun e => h4.resolve_left (fun c => c e)⟩
theorem isLoc_of {p : List (List Ln)} {h : Nat} {x : Loc} (h1 : mor p h x = true) (h2 : (nxt p h x).k ≠ 1) (h3 : (nxt p h x).k ≠ 3) (h4 : (nxt p h x).k = 4 → x.b = []) : isLoc p h x = true := by
  unfold isLoc
  simp only [Bool.and_eq_true, Bool.not_eq_true', beq_eq_false_iff_ne, Bool.or_eq_true, List.isEmpty_iff]
  refine ⟨⟨⟨h1, h2⟩, h3⟩, ?_⟩
  by_cases e : (nxt p h x).k = 4
  · exact .inr (h4 e)
  · exact .inl e
theorem lo_yes {p : List (List Ln)} {h : Nat} {x : Loc} (hx : isLoc p h x = true) (m : Nat → Int) : lo p h x = lstep m x (nxt p h x) := by
  unfold lo; rw [if_pos hx]
  have := isLoc_all hx
  exact lstep_loc this.2.1 this.2.2.1
theorem lo_b {p : List (List Ln)} {h : Nat} (x : Loc) : ∃ t, (lo p h x).b = x.b ++ t ∧ t.length ≤ 1 := by
  unfold lo; split
  · rw [lstep_b]; split
    · exact ⟨_, rfl, by simp⟩
    · exact ⟨[], by simp, by simp⟩
  · exact ⟨[], by simp, by simp⟩
theorem trl_b {p : List (List Ln)} {h : Nat} (x : Loc) : ∀ n, ∃ t, (trl p h n x).b = x.b ++ t ∧ t.length ≤ n
  | 0 => ⟨[], by simp [trl], by simp⟩
  | n + 1 => by
    obtain ⟨t, h1, h2⟩ := trl_b x n
    obtain ⟨u, h3, h4⟩ := lo_b (p := p) (h := h) (trl p h n x)
    exact ⟨t ++ u, by show (lo p h _).b = _; rw [h3, h1, List.append_assoc], by simp; omega⟩
/-- What is popped makes no difference to lines that touch no word. -/
def pop (x : Loc) : Loc := { x with b := x.b.drop 1 }
theorem pop_step {m : Nat → Int} {x : Loc} {l : Ln} (h1 : l.k ≠ 1) (hb : x.b ≠ []) : lstep m (pop x) l = pop (lstep m x l) := by
  have e1 : rg (pop x) l = rg x l := rfl
  obtain ⟨y, r, hy⟩ := List.exists_cons_of_ne_nil hb
  unfold lstep
  by_cases k0 : l.k = 0
  · rw [if_pos k0, if_pos k0]; unfold setr; split <;> rfl
  · rw [if_neg k0, if_neg k0, if_neg h1, if_neg h1]
    by_cases k2 : l.k = 2
    · rw [if_pos k2, if_pos k2]; unfold pop; simp only [hy]; rfl
    · rw [if_neg k2, if_neg k2]
      by_cases k3 : l.k = 3
      · rw [if_pos k3, if_pos k3]; unfold setr; split <;> rfl
      · rw [if_neg k3, if_neg k3, e1]
        split <;> rfl
theorem pop_loc {p : List (List Ln)} {h : Nat} {x : Loc} (hb : x.b ≠ []) (hx : isLoc p h x = true) : isLoc p h (pop x) = true ∧ lo p h (pop x) = pop (lo p h x) := by
  obtain ⟨h1, h2, h3, h4⟩ := isLoc_all hx
  have e : isLoc p h (pop x) = true := isLoc_of h1 h2 h3 (fun k => absurd (h4 k) hb)
  refine ⟨e, ?_⟩
  rw [lo_yes e (fun _ => 0), lo_yes hx (fun _ => 0)]
  exact pop_step h2 hb
theorem trl_ne {p : List (List Ln)} {h : Nat} {x : Loc} (hb : x.b ≠ []) (n : Nat) : (trl p h n x).b ≠ [] := by
  obtain ⟨t, h1, -⟩ := trl_b (p := p) (h := h) x n
  rw [h1]; simp [hb]
theorem pop_trl {p : List (List Ln)} {h : Nat} {x : Loc} (hb : x.b ≠ []) : ∀ n, (∀ i, i < n → isLoc p h (trl p h i x) = true) → trl p h n (pop x) = pop (trl p h n x)
  | 0, _ => rfl
  | n + 1, hx => by
    show lo p h (trl p h n (pop x)) = pop (lo p h (trl p h n x))
    rw [pop_trl hb n (fun i hi => hx i (by omega))]
    exact (pop_loc (trl_ne hb n) (hx n (by omega))).2
theorem trF_is {p : List (List Ln)} {h : Nat} {x : Loc} (hb : x.b = []) : ∀ n, ((trl p h n x).b = [] → trF p h n x = trl p h n x) ∧ ((trl p h n x).b ≠ [] → ∃ j, 1 ≤ j ∧ j ≤ n ∧ trF p h n x = trl p h j x ∧ (trl p h j x).b ≠ [] ∧ (trl p h j x).b.length ≤ 1)
  | 0 => ⟨fun _ => rfl, fun c => absurd hb c⟩
  | n + 1 => by
    obtain ⟨i1, i2⟩ := trF_is hb n
    by_cases e : (trl p h n x).b = []
    · have e1 := i1 e
      have e2 : trF p h (n + 1) x = trl p h (n + 1) x := by
        show (if (trF p h n x).b = [] then lo p h (trF p h n x) else trF p h n x) = lo p h (trl p h n x)
        rw [e1, if_pos e]
      refine ⟨fun _ => e2, fun c => ⟨n + 1, by omega, by omega, e2, c, ?_⟩⟩
      obtain ⟨t, h1, h2⟩ := lo_b (p := p) (h := h) (trl p h n x)
      show (lo p h (trl p h n x)).b.length ≤ 1
      rw [h1, e]; simpa using h2
    · have hn : (trl p h (n + 1) x).b ≠ [] := by
        obtain ⟨t, h1, -⟩ := lo_b (p := p) (h := h) (trl p h n x)
        show (lo p h (trl p h n x)).b ≠ []
        rw [h1]; simp [e]
      refine ⟨fun c => absurd c hn, fun _ => ?_⟩
      obtain ⟨j, j1, j2, j3, j4, j5⟩ := i2 e
      refine ⟨j, j1, by omega, ?_, j4, j5⟩
      show (if (trF p h n x).b = [] then lo p h (trF p h n x) else trF p h n x) = _
      rw [j3, if_neg j4]
theorem trF_more {p : List (List Ln)} {h : Nat} {x : Loc} {n : Nat} (hb : x.b = []) (hn : (trl p h n x).b ≠ []) : ∀ k, trF p h (n + k) x = trF p h n x
  | 0 => rfl
  | k + 1 => by
    show (if (trF p h (n + k) x).b = [] then lo p h (trF p h (n + k) x) else trF p h (n + k) x) = _
    rw [trF_more hb hn k]
    obtain ⟨j, j1, j2, j3, j4, j5⟩ := (trF_is hb n).2 hn
    rw [j3, if_neg j4]

/-! The states that there may be, by budgets of three hands. -/
def less (c : Nat → Nat) (h : Nat) : Nat → Nat := fun k => if k = h then c k - 1 else c k
def three (a b c : Nat) : Nat → Nat := fun h => if h = 0 then a else if h = 1 then b else c
def trails (p : List (List Ln)) (c : Nat → Nat) (s : TS) : List (List Int) :=
  (List.range (c 0 + 1)).flatMap fun i => (List.range (c 1 + 1)).flatMap fun j => (List.range (c 2 + 1)).map fun k => vec (tr p (three i j k) s)
def cov (p : List (List Ln)) : Nat → (Nat → Nat) → TS → List (List Int)
  | 0, _, _ => []
  | n + 1, c, s => trails p c s ++ ((if 0 < c 0 then cov p n (less c 0) (doL p 0 s) ++ cov p n (less c 0) (doF p 0 s) else [])
      ++ ((if 0 < c 1 then cov p n (less c 1) (doL p 1 s) ++ cov p n (less c 1) (doF p 1 s) else [])
      ++ (if 0 < c 2 then cov p n (less c 2) (doL p 2 s) ++ cov p n (less c 2) (doF p 2 s) else [])))
def tab : List Nat := [
  1, 4, 11, 26, 57, 120, 4, 20, 68, 196, 516, 1284,
  11, 68, 281, 966, 2979, 8544, 26, 196, 966, 3880, 13738, 44588,
  57, 516, 2979, 13738, 54977, 199160, 120, 1284, 8544, 44588, 199160, 796676,
  4, 20, 68, 196, 516, 1284, 20, 128, 540, 1880, 5844, 16848,
  68, 540, 2740, 11196, 40068, 130956, 196, 1880, 11196, 52576, 212804, 776744,
  516, 5844, 40068, 212804, 961220, 3874308, 1284, 16848, 130956, 776744, 3874308, 17090656,
  11, 68, 281, 966, 2979, 8544, 68, 540, 2740, 11196, 40068, 130956,
  281, 2740, 16467, 77754, 315825, 1155528, 966, 11196, 77754, 416216, 1889750, 7644116,
  2979, 40068, 315825, 1889750, 9481515, 41999968, 8544, 130956, 1155528, 7644116, 41999968, 202181292,
  26, 196, 966, 3880, 13738, 44588, 196, 1880, 11196, 52576, 212804, 776744,
  966, 11196, 77754, 416216, 1889750, 7644116, 3880, 52576, 416216, 2497360, 12553800, 55684160,
  13738, 212804, 1889750, 12553800, 69178330, 333725036, 44588, 776744, 7644116, 55684160, 333725036, 1739262872,
  57, 516, 2979, 13738, 54977, 199160, 516, 5844, 40068, 212804, 961220, 3874308,
  2979, 40068, 315825, 1889750, 9481515, 41999968, 13738, 212804, 1889750, 12553800, 69178330, 333725036,
  54977, 961220, 9481515, 69178330, 415070105, 2165040504, 199160, 3874308, 41999968, 333725036, 2165040504, 12138687940,
  120, 1284, 8544, 44588, 199160, 796676, 1284, 16848, 130956, 776744, 3874308, 17090656,
  8544, 130956, 1155528, 7644116, 41999968, 202181292, 44588, 776744, 7644116, 55684160, 333725036, 1739262872,
  199160, 3874308, 41999968, 333725036, 2165040504, 12138687940, 796676, 17090656, 202181292, 1739262872, 12138687940, 72832127856]
def B (a b c : Nat) : Nat := tab.getD (a * 36 + b * 6 + c) 0
theorem tab_ok : ∀ a : Fin 6, ∀ b : Fin 6, ∀ c : Fin 6, (a.1 + 1) * ((b.1 + 1) * (c.1 + 1)) + ((if 0 < a.1 then 2 * B (a.1 - 1) b.1 c.1 else 0) + ((if 0 < b.1 then 2 * B a.1 (b.1 - 1) c.1 else 0) + (if 0 < c.1 then 2 * B a.1 b.1 (c.1 - 1) else 0))) ≤ B a.1 b.1 c.1 := by decide +kernel
theorem flat_len {α β : Type} (f : α → List β) (k : Nat) (l : List α) (h : ∀ a ∈ l, (f a).length = k) : (l.flatMap f).length = l.length * k := by
  induction l with
  | nil => simp
  | cons a r ih => rw [List.flatMap_cons, List.length_append, h a (by simp), ih (fun b hb => h b (by simp [hb])), List.length_cons, Nat.succ_mul]; omega
theorem trails_len (p : List (List Ln)) (c : Nat → Nat) (s : TS) : (trails p c s).length = (c 0 + 1) * ((c 1 + 1) * (c 2 + 1)) := by
  unfold trails
  rw [flat_len _ ((c 1 + 1) * (c 2 + 1)), List.length_range]
  intro i _
  rw [flat_len _ (c 2 + 1), List.length_range]
  intro j _
  simp
theorem cov_len (p : List (List Ln)) : ∀ n c s, c 0 ≤ 5 → c 1 ≤ 5 → c 2 ≤ 5 → (cov p n c s).length ≤ B (c 0) (c 1) (c 2)
  | 0, c, s, _, _, _ => by simp [cov]
  | n + 1, c, s, h0, h1, h2 => by
    have key := tab_ok ⟨c 0, by omega⟩ ⟨c 1, by omega⟩ ⟨c 2, by omega⟩
    simp only at key
    unfold cov
    simp only [List.length_append, trails_len]
    refine Nat.le_trans (Nat.add_le_add_left (Nat.add_le_add ?_ (Nat.add_le_add ?_ ?_)) _) key
    · split
      · have a := cov_len p n (less c 0) (doL p 0 s) (by simp [less]; omega) (by simp [less]; omega) (by simp [less]; omega)
        have b := cov_len p n (less c 0) (doF p 0 s) (by simp [less]; omega) (by simp [less]; omega) (by simp [less]; omega)
        simp only [less, if_true, if_neg (show ¬ 1 = 0 by omega), if_neg (show ¬ 2 = 0 by omega)] at a b
        simp only [List.length_append]; omega
      · simp
    · split
      · have a := cov_len p n (less c 1) (doL p 1 s) (by simp [less]; omega) (by simp [less]; omega) (by simp [less]; omega)
        have b := cov_len p n (less c 1) (doF p 1 s) (by simp [less]; omega) (by simp [less]; omega) (by simp [less]; omega)
        simp only [less, if_true, if_neg (show ¬ 0 = 1 by omega), if_neg (show ¬ 2 = 1 by omega)] at a b
        simp only [List.length_append]; omega
      · simp
    · split
      · have a := cov_len p n (less c 2) (doL p 2 s) (by simp [less]; omega) (by simp [less]; omega) (by simp [less]; omega)
        have b := cov_len p n (less c 2) (doF p 2 s) (by simp [less]; omega) (by simp [less]; omega) (by simp [less]; omega)
        simp only [less, if_true, if_neg (show ¬ 0 = 2 by omega), if_neg (show ¬ 1 = 2 by omega)] at a b
        simp only [List.length_append]; omega
      · simp

/-! Each state is one of them. -/
/-- How the words came to be: of each hand how often it was seen. -/
inductive H (p : List (List Ln)) : (Nat → Nat) → TS → Prop
  | zero : H p (fun _ => 0) TS.zero
  | L {c : Nat → Nat} {s : TS} {h : Nat} : H p c s → h < 3 → c h < 5 → H p (fun k => if k = h then c k + 1 else c k) (doL p h s)
  | F {c : Nat → Nat} {s : TS} {h : Nat} : H p c s → h < 3 → c h < 5 → H p (fun k => if k = h then c k + 1 else c k) (doF p h s)
theorem cov_sub {p : List (List Ln)} {n : Nat} {c : Nat → Nat} {s : TS} {h : Nat} (hh : h < 3) (hc : 0 < c h) {v : List Int} (hv : v ∈ cov p n (less c h) (doL p h s) ∨ v ∈ cov p n (less c h) (doF p h s)) : v ∈ cov p (n + 1) c s := by
  unfold cov
  simp only [List.mem_append]
  obtain rfl | rfl | rfl : h = 0 ∨ h = 1 ∨ h = 2 := by omega
  · rw [if_pos hc, List.mem_append]; exact .inr (.inl hv)
  · rw [if_pos hc, List.mem_append]; exact .inr (.inr (.inl hv))
  · rw [if_pos hc, List.mem_append]; exact .inr (.inr (.inr hv))
theorem H.sub {p : List (List Ln)} {c : Nat → Nat} {s : TS} (h : H p c s) : ∃ n, n + (c 0 + c 1 + c 2) = 15 ∧ (∀ k, k < 3 → c k ≤ 5) ∧ ∀ v, v ∈ cov p (n + 1) (fun k => 5 - c k) s → v ∈ cov p 16 (fun _ => 5) TS.zero := by
  have e : ∀ (c : Nat → Nat) (h : Nat), less (fun k => 5 - c k) h = fun k => 5 - (if k = h then c k + 1 else c k) := by
    intro c h; funext k; unfold less; simp only; split
    · omega
    · rfl
  induction h with
  | zero => exact ⟨15, by simp, by intros; simp, fun v hv => hv⟩
  | @L c s h _ hh hc ih =>
    obtain ⟨n, hn, h5, hv⟩ := ih
    have h0 := h5 0 (by omega)
    have h1 := h5 1 (by omega)
    have h2 := h5 2 (by omega)
    obtain ⟨n, rfl⟩ : ∃ m, n = m + 1 := ⟨n - 1, by
      obtain rfl | rfl | rfl : h = 0 ∨ h = 1 ∨ h = 2 := by omega
      all_goals omega⟩
    refine ⟨n, ?_, fun k hk => ?_, fun v h => hv v (cov_sub hh (by show 0 < 5 - c _; omega) (.inl (by rw [e]; exact h)))⟩
    · obtain rfl | rfl | rfl : h = 0 ∨ h = 1 ∨ h = 2 := by omega
      all_goals simp; omega
    · have := h5 k hk
      show (if k = h then _ else _) ≤ 5
      split
      · subst_vars; omega
      · omega
  | @F c s h _ hh hc ih =>
    obtain ⟨n, hn, h5, hv⟩ := ih
    have h0 := h5 0 (by omega)
    have h1 := h5 1 (by omega)
    have h2 := h5 2 (by omega)
    obtain ⟨n, rfl⟩ : ∃ m, n = m + 1 := ⟨n - 1, by
      obtain rfl | rfl | rfl : h = 0 ∨ h = 1 ∨ h = 2 := by omega
      all_goals omega⟩
    refine ⟨n, ?_, fun k hk => ?_, fun v h => hv v (cov_sub hh (by show 0 < 5 - c _; omega) (.inr (by rw [e]; exact h)))⟩
    · obtain rfl | rfl | rfl : h = 0 ∨ h = 1 ∨ h = 2 := by omega
      all_goals simp; omega
    · have := h5 k hk
      show (if k = h then _ else _) ≤ 5
      split
      · subst_vars; omega
      · omega
/-- A state's story. -/
structure Story (p : List (List Ln)) (s : TS) (c t : Nat → Nat) (e : TS) : Prop where
  h : H p c e
  m : s.m = e.m
  l : ∀ k, s.l k = trl p k (t k) (e.l k)
  all : ∀ k i, i < t k → isLoc p k (trl p k i (e.l k)) = true
  sum : ∀ k, ((c k + (e.l k).b.length + t k : Nat) : Int) ≤ (s.l k).at' ∧ c k + (e.l k).b.length + t k ≤ 5
theorem reach_story {words : Int} {p : List (List Ln)} (hf : Fine words p) {s : TS} (h : Reach p s) : ∃ c t e, Story p s c t e := by
  have hn := hf.n.2
  induction h with
  | zero => exact ⟨_, fun _ => 0, _, .zero, rfl, fun _ => rfl, fun k i hi => by omega, fun k => by simp [TS.zero, Loc.zero]⟩
  | @step s h hr hh hc ih =>
    obtain ⟨c, t, e, st⟩ := ih
    have hm := can_mor hc
    have hl := (hf.lines h).1
    have hlt : (s.l h).at' < 5 := by unfold mor at hm; simp at hm; omega
    have hg := nxt_good hf ((hr.ok hf).at0 h).1 hm
    have hs := st.sum h
    have hat : (s.l h).at' + 1 ≤ (lstep s.m (s.l h) (nxt p h (s.l h))).at' := by
      rw [lstep_at]; split
      · have := hg.v5 (by omega); omega
      · omega
    by_cases hL : isLoc p h (s.l h) = true
    · refine ⟨c, fun k => if k = h then t k + 1 else t k, e, st.h, ?_, fun k => ?_, fun k i hi => ?_, fun k => ?_⟩
      · show mstep _ _ _ = _
        unfold mstep; rw [if_neg (isLoc_all hL).2.2.1]; exact st.m
      · show put _ _ _ k = trl p k (if k = h then t k + 1 else t k) _
        unfold put
        split
        · subst_vars
          show _ = lo p k (trl p k (t k) (e.l k))
          rw [← st.l k]
          exact (lo_yes hL s.m).symm
        · exact st.l k
      · split at hi
        · subst_vars
          by_cases e1 : i < t k
          · exact st.all k i e1
          · obtain rfl : i = t k := by omega
            rw [← st.l k]; exact hL
        · exact st.all k i hi
      · show ((c k + (e.l k).b.length + (if k = h then t k + 1 else t k) : Nat) : Int) ≤ (put _ _ _ k).at' ∧ c k + (e.l k).b.length + (if k = h then t k + 1 else t k) ≤ 5
        unfold put
        by_cases ek : k = h
        · subst ek
          simp only [if_true]
          omega
        · simp only [if_neg ek]
          exact st.sum k
    · have hfix : trl p h 5 (e.l h) = s.l h := by
        have a := trl_add p h (t h) (e.l h) (5 - t h)
        rw [← st.l h, trl_stay (x := s.l h) (by simpa using hL), show t h + (5 - t h) = 5 by omega] at a
        exact a
      have hdo : doL p h e = ⟨mstep s.m (s.l h) (nxt p h (s.l h)), put e.l h (lstep s.m (s.l h) (nxt p h (s.l h)))⟩ := by
        unfold doL step
        simp only [hfix, put_same, put_put, st.m]
      have hk2 : (nxt p h (s.l h)).k ≠ 2 := by
        intro k2
        exact hL (isLoc_of hm (by omega) (by omega) (fun k4 => by omega))
      refine ⟨_, fun k => if k = h then 0 else t k, _, .L (h := h) st.h (by omega) (by omega), ?_, fun k => ?_, fun k i hi => ?_, fun k => ?_⟩
      · rw [hdo]; rfl
      · rw [hdo]
        show put _ _ _ k = trl p k (if k = h then 0 else t k) (put _ _ _ k)
        unfold put
        split
        · rfl
        · exact st.l k
      · rw [hdo]
        split at hi
        · omega
        · show isLoc p k (trl p k i (put _ _ _ k)) = true
          rw [put_other (by assumption)]; exact st.all k i hi
      · rw [hdo]
        show _ ≤ (put _ _ _ k).at' ∧ _
        show (((if k = h then c k + 1 else c k) + (put _ _ _ k).b.length + (if k = h then 0 else t k) : Nat) : Int) ≤ _ ∧ (if k = h then c k + 1 else c k) + (put _ _ _ k).b.length + (if k = h then 0 else t k) ≤ 5
        unfold put
        by_cases ek : k = h
        · subst ek
          simp only [if_pos]
          have hb : (lstep s.m (s.l k) (nxt p k (s.l k))).b.length = (s.l k).b.length := by rw [lstep_b, if_neg hk2]
          obtain ⟨u, u1, u2⟩ := trl_b (p := p) (h := k) (e.l k) (t k)
          rw [← st.l k] at u1
          have u3 := congrArg List.length u1
          simp only [List.length_append] at u3
          rw [hb]
          constructor
          · omega
          · omega
        · simp only [if_neg ek]
          exact st.sum k
  | @flush s h hr hh hb ih =>
    obtain ⟨c, t, e, st⟩ := ih
    have hs := st.sum h
    have hcl : c h < 5 := by
      by_cases e1 : (e.l h).b = []
      · obtain ⟨u, u1, u2⟩ := trl_b (p := p) (h := h) (e.l h) (t h)
        rw [← st.l h, e1] at u1
        have : 0 < t h := by
          rcases Nat.eq_zero_or_pos (t h) with e2 | e2
          · rw [e2] at u2; have : u = [] := by simpa using u2
            rw [this] at u1; exact absurd u1 hb
          · exact e2
        omega
      · have : 0 < (e.l h).b.length := List.length_pos_iff.2 e1
        omega
    have key : ∃ x j, trF p h 5 (e.l h) = x ∧ x = trl p h j (e.l h) ∧ j ≤ t h ∧ x.b ≠ [] ∧ ((e.l h).b ≠ [] → j = 0) ∧ ((e.l h).b = [] → 1 ≤ j ∧ x.b.length ≤ 1) := by
      by_cases e1 : (e.l h).b = []
      · have hne : (trl p h (t h) (e.l h)).b ≠ [] := by rw [← st.l h]; exact hb
        obtain ⟨j, j1, j2, j3, j4, j5⟩ := (trF_is e1 (t h)).2 hne
        have a := trF_more e1 hne (5 - t h)
        rw [show t h + (5 - t h) = 5 by omega] at a
        exact ⟨_, j, rfl, by rw [a, j3], j2, by rw [a, j3]; exact j4, fun c => absurd e1 c, fun _ => ⟨j1, by rw [a, j3]; exact j5⟩⟩
      · have a : ∀ n, trF p h n (e.l h) = e.l h := by
          intro n
          induction n with
          | zero => rfl
          | succ n ih => show (if (trF p h n (e.l h)).b = [] then _ else _) = _; rw [ih, if_neg e1]
        exact ⟨_, 0, rfl, a 5, by omega, by rw [a]; exact e1, fun _ => rfl, fun c => absurd c e1⟩
    obtain ⟨x, j, hx, hxj, hjt, hxb, k1, k2⟩ := key
    obtain ⟨y, r, hy⟩ := List.exists_cons_of_ne_nil hxb
    have hsl : s.l h = trl p h (t h - j) x := by
      rw [hxj, ← trl_add, st.l h]; congr 1; omega
    have hall : ∀ i, i < t h - j → isLoc p h (trl p h i x) = true := by
      intro i hi
      rw [hxj, ← trl_add]; exact st.all h (j + i) (by omega)
    have hpx : pop x = { x with b := r } := by unfold pop; rw [hy]; rfl
    have hdo : doF p h e = ⟨upd s.m y.1.toNat y.2, put e.l h (pop x)⟩ := by
      unfold doF
      rw [hx, flush_cons (x := y) (r := r) (by show (put _ _ _ h).b = _; rw [put_same]; exact hy)]
      simp only [put_same, put_put, hpx, st.m]
    obtain ⟨u, hu, -⟩ := trl_b (p := p) (h := h) x (t h - j)
    rw [← hsl, hy] at hu
    have hfl : flush s h = ⟨upd s.m y.1.toNat y.2, put s.l h (pop (s.l h))⟩ := by
      rw [flush_cons (x := y) (r := r ++ u) hu]
      unfold pop; rw [hu]; rfl
    have hpop : pop (s.l h) = trl p h (t h - j) (pop x) := by
      rw [pop_trl hxb _ hall, ← hsl]
    have hpa : (pop (s.l h)).at' = (s.l h).at' := rfl
    refine ⟨_, fun k => if k = h then t k - j else t k, _, .F (h := h) st.h (by omega) hcl, ?_, fun k => ?_, fun k i hi => ?_, fun k => ?_⟩
    · rw [hdo, hfl]
    · rw [hdo, hfl]
      show put _ _ _ k = trl p k (if k = h then t k - j else t k) (put _ _ _ k)
      unfold put
      split
      · subst_vars; exact hpop
      · exact st.l k
    · rw [hdo]
      show isLoc p k (trl p k i (put _ _ _ k)) = true
      split at hi
      · subst_vars
        rw [put_same]
        rw [pop_trl hxb i (fun i' hi' => hall i' (by omega))]
        exact (pop_loc (trl_ne hxb i) (hall i hi)).1
      · rw [put_other (by assumption)]; exact st.all k i hi
    · rw [hdo, hfl]
      show (((if k = h then c k + 1 else c k) + (put _ _ _ k).b.length + (if k = h then t k - j else t k) : Nat) : Int) ≤ (put _ _ _ k).at' ∧ (if k = h then c k + 1 else c k) + (put _ _ _ k).b.length + (if k = h then t k - j else t k) ≤ 5
      unfold put
      by_cases ek : k = h
      · subst ek
        simp only [if_true]
        rw [hpa]
        have hpl : (pop x).b.length + 1 = x.b.length := by unfold pop; rw [hy]; simp
        by_cases e1 : (e.l k).b = []
        · have := k2 e1
          rw [e1] at hs
          simp only [List.length_nil] at hs
          constructor
          · omega
          · omega
        · have hj0 := k1 e1
          subst hj0
          have : x = e.l k := hxj
          rw [this] at hpl ⊢
          constructor
          · omega
          · omega
      · simp only [if_neg ek]
        exact st.sum k
theorem mem_cov {words : Int} {p : List (List Ln)} (hf : Fine words p) {v : List Int} (h : Bfs.Reach (vec TS.zero) (succ p) v) : v ∈ cov p 16 (fun _ => 5) TS.zero := by
  obtain ⟨s, hr, rfl⟩ := (reach_iff hf).1 h
  obtain ⟨c, t, e, st⟩ := reach_story hf hr
  obtain ⟨n, hn, h5, hv⟩ := st.h.sub
  have hok := hr.ok hf
  apply hv
  unfold cov
  rw [List.mem_append]
  left
  unfold trails
  simp only [List.mem_flatMap, List.mem_map, List.mem_range]
  have s0 := st.sum 0
  have s1 := st.sum 1
  have s2 := st.sum 2
  refine ⟨t 0, by omega, t 1, by omega, t 2, by omega, ?_⟩
  unfold vec
  refine List.map_congr_left (fun j hj => ?_)
  have hj60 : j < 60 := by simpa using hj
  have hl : ∀ k, k < 3 → (tr p (three (t 0) (t 1) (t 2)) e).l k = s.l k := by
    intro k hk
    rw [st.l k]
    show trl p k (three (t 0) (t 1) (t 2) k) (e.l k) = _
    obtain rfl | rfl | rfl : k = 0 ∨ k = 1 ∨ k = 2 := by omega
    all_goals rfl
  have hl3 : (tr p (three (t 0) (t 1) (t 2)) e).l 3 = s.l 3 := by
    have hf3 : p.length ≤ 3 := hf.n.2
    have hz := hok.far 3 hf3
    have ht : t 3 = 0 := by
      have := (st.sum 3).1
      rw [hz, show Loc.zero.at' = 0 from rfl] at this
      omega
    have e3 := st.l 3
    rw [ht] at e3
    have e4 : e.l 3 = Loc.zero := by rw [← hz, e3]; rfl
    show trl p 3 (t 2) (e.l 3) = _
    rw [hz, e4]
    refine trl_stay ?_ _
    unfold isLoc mor
    have : lines p 3 = [] := by
      unfold lines; rw [List.getD_eq_getElem?_getD, List.getElem?_eq_none hf3]; rfl
    rw [this]; simp [Loc.zero]
  have hall : ∀ k, k < 4 → (tr p (three (t 0) (t 1) (t 2)) e).l k = s.l k := by
    intro k hk
    by_cases e3 : k = 3
    · rw [e3]; exact hl3
    · exact hl k (by omega)
  have hm : (tr p (three (t 0) (t 1) (t 2)) e).m = s.m := st.m.symm
  rcases cell_cases hj60 with a | ⟨k, hk, rfl | rfl⟩ | ⟨w, hw, rfl⟩ | ⟨k, i, hk, hi, rfl | rfl⟩ | ⟨k, hk, rfl⟩
  · rw [enc_at _ a, enc_at _ a, hall _ a]
  · rw [enc_r0 _ hk, enc_r0 _ hk, hall _ hk]
  · rw [enc_r1 _ hk, enc_r1 _ hk, hall _ hk]
  · rw [enc_word _ hw, enc_word _ hw, hm]
  · rw [enc_bw _ hk hi, enc_bw _ hk hi, hall _ hk]
  · rw [enc_bv _ hk hi, enc_bv _ hk hi, hall _ hk]
  · rw [enc_many _ hk, enc_many _ hk, hall _ hk]
theorem bound {words : Int} {p : List (List Ln)} (hf : Fine words p) {l : List (List Int)} {i : Nat} (h : Bfs.Inv (vec TS.zero) (succ p) l i) : l.length ≤ 72832127856 :=
  Nat.le_trans (h.bound (fun a ha => mem_cov hf ha)) (Nat.le_trans (cov_len p 16 (fun _ => 5) TS.zero (by omega) (by omega) (by omega)) (by decide +kernel))
end Go.Proofs.YtllbmjnimfpghaaDoor.Tso
