import Derived.Test.YtimbdjmplcgilaaScLaw
import Derived.Test.YtimbdjmplcgilaaDek
namespace Go.Proofs.Ytimbdjmplcgilaa.Sc
open Pr
set_option linter.unusedVariables false

/-! A small program's outcomes, found by running. -/
section
variable {α : Type} [DecidableEq α]
def iter (s : α → List α) : Nat → List α → List α
  | 0, l => l
  | n + 1, l => iter s n (Bfs.addAll l (l.flatMap s))
theorem iter_reach {z : α} {s : α → List α} : ∀ (n : Nat) (l : List α), (∀ a ∈ l, Bfs.Reach z s a) → ∀ a ∈ iter s n l, Bfs.Reach z s a
  | 0, l, h => h
  | n + 1, l, h => iter_reach n _ (fun a ha => by
    rcases Bfs.mem_addAll.1 ha with ha | ha
    · exact h a ha
    · obtain ⟨b, hb, hab⟩ := List.mem_flatMap.1 ha
      exact .step (h b hb) hab)
theorem iter_pre {s : α → List α} : ∀ (n : Nat) (l : List α), ∀ a ∈ l, a ∈ iter s n l
  | 0, l => fun a h => h
  | n + 1, l => fun a h => iter_pre n _ a (Bfs.mem_addAll.2 (.inl h))
omit [DecidableEq α] in
theorem closed_all {z : α} {s : α → List α} {L : List α} (hz : z ∈ L) (hc : ∀ a ∈ L, ∀ b ∈ s a, b ∈ L) {a : α} (h : Bfs.Reach z s a) : a ∈ L := by
  induction h with
  | zero => exact hz
  | step _ hb ih => exact hc _ ih _ hb
end
def closedB (s : List Int → List (List Int)) (L : List (List Int)) : Bool := L.all fun v => (s v).all fun b => decide (b ∈ L)
theorem closedB_of {s : List Int → List (List Int)} {L : List (List Int)} (h : closedB s L = true) : ∀ a ∈ L, ∀ b ∈ s a, b ∈ L := by
  intro a ha b hb
  have := List.all_eq_true.1 (List.all_eq_true.1 h a ha) b hb
  simpa using this
/-- All states of a program. -/
def states (p : List (List Ln)) : List (List Int) := iter (succ p) 7 [vec St.zero]
def ended (words : Int) (p : List (List Ln)) : List (List Int) := ((states p).filter (fun v => succ p v == [])).map (resV words p)
theorem states_iff {p : List (List Ln)} (h : closedB (succ p) (states p) = true) {v : List Int} : v ∈ states p ↔ Bfs.Reach (vec St.zero) (succ p) v :=
  ⟨iter_reach 7 _ (fun a ha => by simp at ha; subst ha; exact .zero) v, closed_all (iter_pre 7 _ _ (by simp)) (closedB_of h)⟩
theorem ended_iff {words : Int} {p : List (List Ln)} (hf : Fine words p) (h : closedB (succ p) (states p) = true) {x : List Int} : x ∈ ended words p ↔ Ends words p x := by
  unfold ended
  rw [List.mem_map]
  constructor
  · rintro ⟨v, hv, rfl⟩
    obtain ⟨h1, h2⟩ := List.mem_filter.1 hv
    obtain ⟨f, hr, rfl⟩ := (reach_iff hf).1 ((states_iff h).1 h1)
    exact ⟨f, hr, (term_iff hf hr).1 (by simpa using h2), by unfold resV; rw [fn_vec (hr.fine hf).2]⟩
  · rintro ⟨f, hr, ht, rfl⟩
    exact ⟨vec f, List.mem_filter.2 ⟨(states_iff h).2 ((reach_iff hf).2 ⟨f, hr, rfl⟩), by simpa using (term_iff hf hr).2 ht⟩, by unfold resV; rw [fn_vec (hr.fine hf).2]⟩
def sameB (l m : List (List Int)) : Bool := l.all (fun x => decide (x ∈ m)) && m.all (fun x => decide (x ∈ l))
def riseB : List (List Int) → Bool
  | [] => true
  | [a] => true
  | a :: b :: r => Bfs.ltL a b && riseB (b :: r)
theorem riseB_of : ∀ {l : List (List Int)}, riseB l = true → Bfs.Rise l
  | [], _ => by simp [Bfs.Rise]
  | [a], _ => by simp [Bfs.Rise]
  | a :: b :: r, h => by
    unfold riseB at h
    simp only [Bool.and_eq_true] at h
    have ih := riseB_of h.2
    refine List.pairwise_cons.2 ⟨fun c hc => ?_, ih⟩
    rcases List.mem_cons.1 hc with rfl | hc
    · exact h.1
    · exact Bfs.ltL_trans h.1 ((List.pairwise_cons.1 ih).1 c hc)
theorem res_is {words : Int} {p : List (List Ln)} (hf : Fine words p) {L R : List (List Int)} (h : closedB (succ p) (states p) = true) (hs : sameB (ended words p) L = true) (hr : riseB L = true) (k : Res words p R) : R = L := by
  refine Bfs.Rise.one k.rise (riseB_of hr) (fun x => ?_)
  rw [k.mem, ← ended_iff hf h]
  simp only [sameB, Bool.and_eq_true, List.all_eq_true, decide_eq_true_eq] at hs
  exact ⟨fun hx => hs.1 x hx, fun hx => hs.2 x hx⟩
theorem dk_check : check 2 dk = 0 := by decide +kernel
theorem dk_closed : closedB (succ dk) (states dk) = true := by decide +kernel
theorem dk_res {R : List (List Int)} (h : Res 2 dk R) : R = [[1, 0, 1, 1, 1, 1], [1, 1, 1, 0, 1, 1], [1, 1, 1, 1, 1, 1]] :=
  res_is (fine_of dk_check) dk_closed (by decide +kernel) (by decide +kernel) h
theorem dk_races : Races dk := by
  have h1 : Reach dk (done St.zero 1 (line dk St.zero 1)) := .step .zero (by decide) (by decide +kernel)
  have h2 : Reach dk (done (done St.zero 1 (line dk St.zero 1)) 1 (line dk (done St.zero 1 (line dk St.zero 1)) 1)) := .step h1 (by decide) (by decide +kernel)
  have h3 : Reach dk (done (done (done St.zero 1 (line dk St.zero 1)) 1 (line dk (done St.zero 1 (line dk St.zero 1)) 1)) 0 (line dk (done (done St.zero 1 (line dk St.zero 1)) 1 (line dk (done St.zero 1 (line dk St.zero 1)) 1)) 0)) := .step h2 (by decide) (by decide +kernel)
  exact ⟨_, h3, 1, 0, by omega, by decide, by decide +kernel, by decide +kernel, by decide +kernel⟩
end Go.Proofs.Ytimbdjmplcgilaa.Sc
