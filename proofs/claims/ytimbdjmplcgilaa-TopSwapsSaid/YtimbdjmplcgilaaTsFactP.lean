import Derived.Test.YtimbdjmplcgilaaScFactP
import Derived.Test.YtimbdjmplcgilaaTsSim
namespace Go.Proofs.Ytimbdjmplcgilaa.Tso
open Pr
set_option linter.unusedVariables false

/-! A small program's outcomes where what is stored waits, found by running. -/
def states (p : List (List Ln)) : List (List Int) := Sc.iter (succ p) 9 [vec TS.zero]
def ended (words : Int) (p : List (List Ln)) : List (List Int) := ((states p).filter (fun v => succ p v == [])).map (resV words p)
theorem states_iff {p : List (List Ln)} (h : Sc.closedB (succ p) (states p) = true) {v : List Int} : v ∈ states p ↔ Bfs.Reach (vec TS.zero) (succ p) v :=
  ⟨Sc.iter_reach 9 _ (fun a ha => by simp at ha; subst ha; exact .zero) v, Sc.closed_all (Sc.iter_pre 9 _ _ (by simp)) (Sc.closedB_of h)⟩
theorem ended_iff {words : Int} {p : List (List Ln)} (hf : Fine words p) (h : Sc.closedB (succ p) (states p) = true) {x : List Int} : x ∈ ended words p ↔ Ends words p x := by
  have hn := hf.n.2
  unfold ended
  rw [List.mem_map]
  constructor
  · rintro ⟨v, hv, rfl⟩
    obtain ⟨h1, h2⟩ := List.mem_filter.1 hv
    obtain ⟨s, hr, rfl⟩ := (reach_iff hf).1 ((states_iff h).1 h1)
    have h3 := succ_nil.1 (show succ p (vec s) = [] by simpa using h2)
    rw [dec_vec hn (hr.ok hf)] at h3
    exact ⟨s, hr, h3, by unfold resV; rw [dec_vec hn (hr.ok hf)]⟩
  · rintro ⟨s, hr, ht, rfl⟩
    have h3 : succ p (vec s) = [] := succ_nil.2 (by rw [dec_vec hn (hr.ok hf)]; exact ht)
    exact ⟨vec s, List.mem_filter.2 ⟨(states_iff h).2 ((reach_iff hf).2 ⟨s, hr, rfl⟩), by simpa using h3⟩, by unfold resV; rw [dec_vec hn (hr.ok hf)]⟩
theorem res_is {words : Int} {p : List (List Ln)} (hf : Fine words p) {L R : List (List Int)} (h : Sc.closedB (succ p) (states p) = true) (hs : Sc.sameB (ended words p) L = true) (hr : Sc.riseB L = true) (k : Res words p R) : R = L := by
  refine Bfs.Rise.one k.rise (Sc.riseB_of hr) (fun x => ?_)
  rw [k.mem, ← ended_iff hf h]
  simp only [Sc.sameB, Bool.and_eq_true, List.all_eq_true, decide_eq_true_eq] at hs
  exact ⟨fun hx => hs.1 x hx, fun hx => hs.2 x hx⟩
theorem dk_closed : Sc.closedB (succ dk) (states dk) = true := by decide +kernel
theorem dk_res {R : List (List Int)} (h : Res 2 dk R) : R = [[1, 0, 1, 0, 1, 1], [1, 0, 1, 1, 1, 1], [1, 1, 1, 0, 1, 1], [1, 1, 1, 1, 1, 1]] :=
  res_is (fine_of Sc.dk_check) dk_closed (by decide +kernel) (by decide +kernel) h
/-- .. and with fences. -/
def sideF (mine : Int) : List Ln := [⟨0, 0, 0, 1⟩, ⟨2, 0, mine, 0⟩, ⟨4, 0, 0, 0⟩, ⟨1, 1, 1 - mine, 0⟩]
def dkf : List (List Ln) := [sideF 0, sideF 1]
theorem dkf_check : check 2 dkf = 0 := by decide +kernel
def statesS (p : List (List Ln)) : List (List Int) := Sc.iter (Sc.succ p) 9 [Sc.vec St.zero]
def endedS (words : Int) (p : List (List Ln)) : List (List Int) := ((statesS p).filter (fun v => Sc.succ p v == [])).map (Sc.resV words p)
theorem statesS_iff {p : List (List Ln)} (h : Sc.closedB (Sc.succ p) (statesS p) = true) {v : List Int} : v ∈ statesS p ↔ Bfs.Reach (Sc.vec St.zero) (Sc.succ p) v :=
  ⟨Sc.iter_reach 9 _ (fun a ha => by simp at ha; subst ha; exact .zero) v, Sc.closed_all (Sc.iter_pre 9 _ _ (by simp)) (Sc.closedB_of h)⟩
theorem endedS_iff {words : Int} {p : List (List Ln)} (hf : Fine words p) (h : Sc.closedB (Sc.succ p) (statesS p) = true) {x : List Int} : x ∈ endedS words p ↔ Sc.Ends words p x := by
  unfold endedS
  rw [List.mem_map]
  constructor
  · rintro ⟨v, hv, rfl⟩
    obtain ⟨h1, h2⟩ := List.mem_filter.1 hv
    obtain ⟨f, hr, rfl⟩ := (Sc.reach_iff hf).1 ((statesS_iff h).1 h1)
    exact ⟨f, hr, (Sc.term_iff hf hr).1 (by simpa using h2), by unfold Sc.resV; rw [Sc.fn_vec (hr.fine hf).2]⟩
  · rintro ⟨f, hr, ht, rfl⟩
    exact ⟨Sc.vec f, List.mem_filter.2 ⟨(statesS_iff h).2 ((Sc.reach_iff hf).2 ⟨f, hr, rfl⟩), by simpa using (Sc.term_iff hf hr).2 ht⟩, by unfold Sc.resV; rw [Sc.fn_vec (hr.fine hf).2]⟩
theorem dkf_closed : Sc.closedB (Sc.succ dkf) (statesS dkf) = true := by decide +kernel
theorem dkf_fen : Fen dkf := by
  refine ⟨fun h hh i hi => ?_, fun h hh i hi => ?_⟩
  · have h2 : h < 2 := hh
    obtain rfl | rfl : h = 0 ∨ h = 1 := by omega
    · have : i < 4 := hi
      obtain rfl | rfl | rfl | rfl : i = 0 ∨ i = 1 ∨ i = 2 ∨ i = 3 := by omega
      all_goals decide
    · have : i < 4 := hi
      obtain rfl | rfl | rfl | rfl : i = 0 ∨ i = 1 ∨ i = 2 ∨ i = 3 := by omega
      all_goals decide
  · have h2 : h < 2 := hh
    obtain rfl | rfl : h = 0 ∨ h = 1 := by omega
    · have : i < 4 := hi
      obtain rfl | rfl | rfl | rfl : i = 0 ∨ i = 1 ∨ i = 2 ∨ i = 3 := by omega
      all_goals decide
    · have : i < 4 := hi
      obtain rfl | rfl | rfl | rfl : i = 0 ∨ i = 1 ∨ i = 2 ∨ i = 3 := by omega
      all_goals decide
theorem dkf_res {R : List (List Int)} (k : Res 2 dkf R) : R = [[1, 0, 1, 1, 1, 1], [1, 1, 1, 0, 1, 1], [1, 1, 1, 1, 1, 1]] := by
  have hf := fine_of dkf_check
  have hs : Sc.sameB (endedS 2 dkf) [[1, 0, 1, 1, 1, 1], [1, 1, 1, 0, 1, 1], [1, 1, 1, 1, 1, 1]] = true := by decide +kernel
  refine Bfs.Rise.one k.rise (Sc.riseB_of (by decide +kernel)) (fun x => ?_)
  rw [k.mem, show Ends 2 dkf x ↔ Sc.Ends 2 dkf x from ⟨ends_fenced hf dkf_fen, ends_more hf⟩, ← endedS_iff hf dkf_closed]
  simp only [Sc.sameB, Bool.and_eq_true, List.all_eq_true, decide_eq_true_eq] at hs
  exact ⟨fun hx => hs.1 x hx, fun hx => hs.2 x hx⟩
end Go.Proofs.Ytimbdjmplcgilaa.Tso
