import Derived.Test.YtpdhnmkhobfnbaaWorkStep
namespace Go.Proofs.Ytpdhnmkhobfnbaa.Work
open Go.RowKit
set_option linter.unusedVariables false

theorem Inv.tpb {m n : Nat} {s : St} {was : Nat → Int} (h : Inv m n s was) : 0 ≤ s.tp ∧ s.tp ≤ 8 ∧ -1 ≤ s.bt ∧ s.bt ≤ 8 := by
  have h1 := h.low
  have h2 := h.m8
  have hL : lim s = s.bt + (if 5 ≤ s.ln 0 then 1 else 0) := rfl
  split at hL <;> omega
/-- A line of a hand that is at work, behind the pushes. -/
theorem step_any {w : World} {m n L p : Nat} {fb : List Nat} {s : St} {was : Nat → Int} (hb : Rep w n L fb s) (hi : Inv m n s was) (hp : p < n) (hn : n ≤ 4) (hl : s.ln p ≠ 0) :
    Calls Try.prog 7 #[.pointer (some ⟨L, 0, none⟩), .int .i64 p] w (Post n L fb w (fin s p) (got s p) (stepN s p)) := by
  have hm := hi.m8
  have hlow := hi.low
  have hL : lim s = s.bt + (if 5 ≤ s.ln 0 then 1 else 0) := rfl
  have hbd := hi.tpb
  by_cases h0 : p = 0
  · subst h0
    obtain e | e | e | e | e : s.ln 0 = 4 ∨ s.ln 0 = 5 ∨ s.ln 0 = 6 ∨ s.ln 0 = 7 ∨ s.ln 0 = 8 := by have := hi.l0; omega
    · rw [if_neg (by omega)] at hL
      have ef : fin s 0 = false := by simp [fin, e]
      have eg : got s 0 = 0 := by simp [got, e]
      rw [ef, eg]; exact l4 hb hp hn e (by omega)
    · have hh := hi.b5 (by omega)
      rw [if_pos (by omega)] at hL
      by_cases c1 : s.tp < s.hb 0
      · obtain ⟨k, hk⟩ : ∃ k : Nat, s.hb 0 = k := ⟨(s.hb 0).toNat, by omega⟩
        have ef : fin s 0 = true := by simp [fin, e, c1]
        have c1' := c1
        rw [hk] at c1'
        have eg : got s 0 = s.pc k := by simp [got, e, c1', hk]
        rw [ef, eg]
        exact l5a hb hp hn e (k := k) hk (by omega) c1
      · by_cases c2 : s.hb 0 = s.tp
        · have ef : fin s 0 = false := by simp [fin, e]; omega
          have eg : got s 0 = 0 := by simp [got, e, c1]
          rw [ef, eg]; exact l5b hb hp hn e c2
        · have ef : fin s 0 = false := by simp [fin, e]; omega
          have eg : got s 0 = 0 := by simp [got, e, c1]
          rw [ef, eg]; exact l5c hb hp hn e (by omega)
    · have ef : fin s 0 = true := by simp [fin, e]
      have eg : got s 0 = -1 := by simp [got, e]
      rw [ef, eg]; exact l6 hb hp hn e
    · have hh := hi.b5 (by omega)
      have h7 := hi.sev e
      rw [if_pos (by omega)] at hL
      have ef : fin s 0 = false := by simp [fin, e]
      have eg : got s 0 = 0 := by simp [got, e]
      rw [ef, eg]
      by_cases c1 : s.tp = s.ht 0
      · obtain ⟨k, hk⟩ : ∃ k : Nat, s.hb 0 = k := ⟨(s.hb 0).toNat, by omega⟩
        exact l7a hb hp hn e (k := k) hk (by omega) c1 (by omega)
      · exact l7b hb hp hn e c1 (by omega)
    · have h8 := hi.eig e
      have ef : fin s 0 = true := by simp [fin, e]
      have eg : got s 0 = s.vl 0 := by simp [got, e]
      rw [ef, eg]; exact l8 hb hp hn e (by omega)
  · have h1 : 1 ≤ p := by omega
    obtain e | e | e | e : s.ln p = 9 ∨ s.ln p = 10 ∨ s.ln p = 11 ∨ s.ln p = 12 := by have := hi.lp p h1 hp; omega
    · have ef : fin s p = false := by simp [fin, e]
      have eg : got s p = 0 := by simp [got, e]
      rw [ef, eg]; exact l9 hb hp hn e
    · by_cases c : s.bt ≤ s.ht p
      · have ef : fin s p = true := by simp [fin, e, c]
        have eg : got s p = -1 := by simp [got, e, c]
        rw [ef, eg]; exact l10a hb hp hn e c
      · have ef : fin s p = false := by simp [fin, e, c]
        have eg : got s p = 0 := by simp [got, e, c]
        rw [ef, eg]; exact l10b hb hp hn e c
    · have ht := hi.t10 p h1 hp (by omega)
      have ht2 := hi.t11 p h1 hp (by omega)
      obtain ⟨k, hk⟩ : ∃ k : Nat, s.ht p = k := ⟨(s.ht p).toNat, by omega⟩
      have ef : fin s p = false := by simp [fin, e]
      have eg : got s p = 0 := by simp [got, e]
      rw [ef, eg]; exact l11 hb hp hn e (k := k) hk (by omega)
    · have ht := hi.t10 p h1 hp (by omega)
      have ef : fin s p = true := by simp [fin, e]
      by_cases c : s.tp = s.ht p
      · have eg : got s p = s.vl p := by simp [got, e, c]
        rw [ef, eg]; exact l12a hb hp hn e c (by omega)
      · have eg : got s p = -2 := by simp [got, e, c]
        rw [ef, eg]; exact l12b hb hp hn e c (by omega)

set_option maxRecDepth 100000 in
theorem at_any {w : World} {n L p : Nat} {fb : List Nat} {s : St} (h : Rep w n L fb s) (hp : p < n) (hn : n ≤ 4) :
    Calls Try.prog 8 #[.pointer (some ⟨L, 0, none⟩), .int .i64 p] w fun e w' => e = .returned (.int .i64 (s.ln p)) ∧ w = w' := by
  obtain ⟨bH, cap, rfl, hcap, hLH, hB, rL, -⟩ := h
  have c10 : w.cell? ⟨L, 10, none⟩ = some (.slice (some ⟨bH, 0, none⟩) n cap) := hB.cell 10
  have e0 := (rL p hp).1
  simp only at e0
  have hpn : (p : Int) ≤ (n : Int) - 1 := by omega
  have hpn2 : (p : Int) < n := by omega
  clear hB rL
  go_enter Try.func8, Try.ntmps8
  go_wp2_with fail
  refine (within_yes (by omega) hpn).mono ?_
  rintro e wi ⟨rfl, rfl⟩
  go_wp2_with fail
  go_ret
  exact ⟨rfl, rfl⟩

set_option maxHeartbeats 1000000 in
set_option maxRecDepth 100000 in
theorem begin_any {w : World} {n L p : Nat} {fb : List Nat} {s : St} {P a v : Int} (hP : P = (p : Int)) (h : Rep w n L fb s) (hp : p < n) (hn : n ≤ 4) (h0 : s.ln p = 0) :
    Calls Try.prog 13 #[.pointer (some ⟨L, 0, none⟩), .int .i64 P, .int .i64 a, .int .i64 v] w fun e w' => e = .returned .nilIface ∧ Rep w' n L fb (put s p a v 0 0) ∧ OnlyG fb w w' := by
  subst hP
  obtain ⟨bH, cap, rfl, hcap, hLH, hB, rL, rV, rT, rB⟩ := h
  have c10 : w.cell? ⟨L, 10, none⟩ = some (.slice (some ⟨bH, 0, none⟩) n cap) := hB.cell 10
  have e0 := (rL p hp).1
  have e1 := (rV p hp).1
  have e2 := (rT p hp).1
  have e3 := (rB p hp).1
  have f0 := (rL p hp).2
  have f1 := (rV p hp).2
  have f2 := (rT p hp).2
  have f3 := (rB p hp).2
  simp only at e0 e1 e2 e3 f0 f1 f2 f3
  rw [h0] at e0
  have hpn2 : (p : Int) < n := by omega
  have HD := Lib.hid (⟨OnlyG.refl _ _, hB, rL, rV, rT, rB⟩ : OnlyG [L, bH] w w ∧ Blk w L (cells s n bH cap) 38 ∧ Row w bH n (fun j => j * 4) s.ln ∧ Row w bH n (fun j => j * 4 + 1) s.vl ∧ Row w bH n (fun j => j * 4 + 2) s.ht ∧ Row w bH n (fun j => j * 4 + 3) s.hb)
  clear hB rL rV rT rB h0
  go_enter Try.func13, Try.ntmps13
  go_wp2_with fail
  go_ret
  obtain ⟨-, hB, rL, rV, rT, rB⟩ := HD.out
  have hH : bH ≠ L := fun e => hLH e.symm
  refine ⟨rfl, ⟨bH, cap, rfl, hcap, hLH, ?_, ?_, ?_, ?_, ?_⟩, ?_⟩
  · exact (((hB.other hH _ _).other hH _ _).other hH _ _).other hH _ _
  · exact (((rL.set (i := p) hp (fun j _ e => by omega) _).other _ (.inr fun j _ => by omega)).other _ (.inr fun j _ => by omega)).other _ (.inr fun j _ => by omega)
  · exact (((rV.other _ (.inr fun j _ => by omega)).set (i := p) hp (fun j _ e => by omega) _).other _ (.inr fun j _ => by omega)).other _ (.inr fun j _ => by omega)
  · exact (((rT.other _ (.inr fun j _ => by omega)).other _ (.inr fun j _ => by omega)).set (i := p) hp (fun j _ e => by omega) _).other _ (.inr fun j _ => by omega)
  · exact (((rB.other _ (.inr fun j _ => by omega)).other _ (.inr fun j _ => by omega)).other _ (.inr fun j _ => by omega)).set (i := p) hp (fun j _ e => by omega) _
  · exact ((((OnlyG.refl _ _).set (by simp) _ _).set (by simp) _ _).set (by simp) _ _).set (by simp) _ _

theorem push_any {w : World} {n L : Nat} {fb : List Nat} {s : St} {v : Int} (h : Rep w n L fb s) (h1 : 1 ≤ n) (hn : n ≤ 4) (h0 : s.ln 0 = 0) (hv : 0 ≤ v ∧ v ≤ 1000) :
    Calls Try.prog 6 #[.pointer (some ⟨L, 0, none⟩), .int .i64 v] w fun e w' => e = .returned .nilIface ∧ Rep w' n L fb (put s 0 1 v 0 0) ∧ OnlyG fb w w' := by
  have H := Lib.hid h
  clear h
  go_enter Try.func6, Try.ntmps6
  go_wp2_with fail
  refine (within_yes hv.1 hv.2).mono ?_
  rintro e wi ⟨rfl, rfl⟩
  go_wp2_with fail
  refine (begin_any (p := 0) rfl H.out h1 hn h0).mono ?_
  rintro e w2 ⟨rfl, hr, ho⟩
  go_wp2_with fail
  go_ret
  exact ⟨rfl, hr, ho⟩
theorem pop_any {w : World} {n L : Nat} {fb : List Nat} {s : St} (h : Rep w n L fb s) (h1 : 1 ≤ n) (hn : n ≤ 4) (h0 : s.ln 0 = 0) :
    Calls Try.prog 9 #[.pointer (some ⟨L, 0, none⟩)] w fun e w' => e = .returned .nilIface ∧ Rep w' n L fb (put s 0 4 0 0 0) ∧ OnlyG fb w w' := by
  have H := Lib.hid h
  clear h
  go_enter Try.func9, Try.ntmps9
  go_wp2_with fail
  refine (begin_any (p := 0) rfl H.out h1 hn h0).mono ?_
  rintro e w2 ⟨rfl, hr, ho⟩
  go_wp2_with fail
  go_ret
  exact ⟨rfl, hr, ho⟩
set_option maxRecDepth 100000 in
theorem steal_any {w : World} {n L p : Nat} {fb : List Nat} {s : St} (h : Rep w n L fb s) (h1 : 1 ≤ p) (hp : p < n) (hn : n ≤ 4) (h0 : s.ln p = 0) :
    Calls Try.prog 10 #[.pointer (some ⟨L, 0, none⟩), .int .i64 p] w fun e w' => e = .returned .nilIface ∧ Rep w' n L fb (put s p 9 0 0 0) ∧ OnlyG fb w w' := by
  have H := Lib.hid h
  obtain ⟨bH, cap, rfl, hcap, hLH, hB, -⟩ := h
  have c10 : w.cell? ⟨L, 10, none⟩ = some (.slice (some ⟨bH, 0, none⟩) n cap) := hB.cell 10
  have hpn : (p : Int) ≤ (n : Int) - 1 := by omega
  clear hB
  go_enter Try.func10, Try.ntmps10
  go_wp2_with fail
  refine (within_yes (by omega) hpn).mono ?_
  rintro e wi ⟨rfl, rfl⟩
  clear c10
  go_wp2_with fail
  refine (begin_any (p := p) rfl H.out hp hn h0).mono ?_
  rintro e w2 ⟨rfl, hr, ho⟩
  go_wp2_with fail
  go_ret
  exact ⟨rfl, hr, ho⟩
end Go.Proofs.Ytpdhnmkhobfnbaa.Work
