import Derived.Test.YtgkfgijmccojjaaDoorBakeryStep
namespace Go.Proofs.YtgkfgijmccojjaaDoor.Bakery
open Go.RowKit
set_option linter.unusedVariables false

theorem Rep.lt {w : World} {n L : Nat} {fb : List Nat} {s : St} (h : Rep w n L fb s) (h1 : 1 ≤ n) : ∀ k, k ∈ fb → k < w.heap.size := by
  obtain ⟨bW, bH, cap, rfl, hcap, hLW, hLH, hWH, hB, rW, rL, -⟩ := h
  have a := hB.lt
  have b := World.block_lt_of_cell? (w := w) (a := ⟨bW, 0, none⟩) (rW 0 (by omega)).1
  have c := World.block_lt_of_cell? (w := w) (a := ⟨bH, _, none⟩) (rL 0 (by omega)).1
  intro k hk
  simp at hk
  rcases hk with rfl | rfl | rfl
  · exact a
  · exact b
  · exact c
def Refused (w : World) (e : Ending) (w' : World) : Prop := e = .returned (.iface 77 (.int .i64 1)) ∧ ∃ o, w' = w.alloc o

set_option maxRecDepth 100000 in
theorem step_no {w : World} {n L : Nat} {fb : List Nat} {s : St} {p : Int} (h : Rep w n L fb s) (hn : n ≤ 4) (hp : p < 0 ∨ n ≤ p) :
    Calls Tryd.prog 59 #[.pointer (some ⟨L, 0, none⟩), .int .i64 p] w (Refused w) := by
  obtain ⟨bW, bH, cap, rfl, hcap, hLW, hLH, hWH, hB, -⟩ := h
  have hbL := hB.lt
  have c0 := hB.cell 0
  simp only [List.getElem?_toArray, List.getElem?_cons_zero] at c0
  by_cases hq : p < 0
  · clear hp
    go_enter Tryd.func59, Tryd.ntmps59
    go_wp2
    go_ret
    exact ⟨rfl, _, rfl⟩
  · have h1 : decide (p ≤ (n : Int) - 1) = false := by simp; omega
    have h0 : 0 ≤ p := by omega
    clear hp hq
    go_enter Tryd.func59, Tryd.ntmps59
    go_wp2
    go_ret
    exact ⟨rfl, _, rfl⟩

theorem at_any {w : World} {n L : Nat} {fb : List Nat} {s : St} (p : Int) (h : Rep w n L fb s) (hn : n ≤ 4) :
    Calls Tryd.prog 61 #[.pointer (some ⟨L, 0, none⟩), .int .i64 p] w fun e w' => e = .returned (.int .i64 (line n s p)) ∧ w = w' := by
  obtain ⟨bW, bH, cap, rfl, hcap, hLW, hLH, hWH, hB, rW, rL, -⟩ := h
  have c0 := hB.cell 0
  have c2 := hB.cell 2
  simp only [List.getElem?_toArray, List.getElem?_cons_zero, List.getElem?_cons_succ] at c0 c2
  by_cases hp : 0 ≤ p ∧ p < n
  · obtain ⟨m, rfl⟩ := Int.eq_ofNat_of_zero_le hp.1
    rw [line_nat s (by omega)]
    have e := (rL m (by omega)).1
    have h0 : (m : Int) ≤ (n : Int) - 1 := by omega
    have h1 : m < n := by omega
    clear hp
    go_enter Tryd.func61, Tryd.ntmps61
    go_wp2
    go_ret
    exact ⟨rfl, rfl⟩
  · have e : line n s p = 0 := by unfold line; rw [if_neg hp]
    rw [e]
    by_cases hq : p < 0
    · clear hp
      go_enter Tryd.func61, Tryd.ntmps61
      go_wp2
      go_ret
      exact ⟨rfl, rfl⟩
    · have h1 : decide (p ≤ (n : Int) - 1) = false := by simp; omega
      have h0 : 0 ≤ p := by omega
      clear hp hq
      go_enter Tryd.func61, Tryd.ntmps61
      go_wp2
      go_ret
      exact ⟨rfl, rfl⟩

theorem at_of {w : World} {n L : Nat} {fb : List Nat} {s : St} {p k : Int} (hb : Rep w n L fb s) (hn : n ≤ 4) (hk : line n s p = k) :
    Calls Tryd.prog 61 #[.pointer (some ⟨L, 0, none⟩), .int .i64 p] w fun e w' => e = .returned (.int .i64 k) ∧ w = w' := by
  subst hk; exact at_any p hb hn

theorem step_any {w : World} {n k L : Nat} {fb : List Nat} {s : St} (p : Int) (hb : Rep w n L fb s) (hs : Reach n k s) (hk : k ≤ 100000) :
    Calls Tryd.prog 59 #[.pointer (some ⟨L, 0, none⟩), .int .i64 p] w (Post n L fb w (told n p) (step n s p)) := by
  by_cases hp : 0 ≤ p ∧ p < n
  · obtain ⟨m, rfl⟩ := Int.eq_ofNat_of_zero_le hp.1
    have hm : m < n := by omega
    have ht : told n (m : Int) = .nilIface := by unfold told; rw [if_pos hp]
    rw [step_nat s hm, ht]
    have hln := hs.fine hm
    have hn := hs.2.1
    have h1 := hs.1
    have hkk := hs.2.2.kk m hm
    have hms := hs.2.2.ms m hm
    obtain hl | hl | hl | hl | hl | hl | hl | hl : s.ln m = 1 ∨ s.ln m = 2 ∨ s.ln m = 3 ∨ s.ln m = 4 ∨ s.ln m = 5 ∨ s.ln m = 6 ∨ s.ln m = 7 ∨ s.ln m = 8 := by omega
    · exact line1 hb hm hn h1 hl
    · have hk1 := hkk.2.2 (.inl hl)
      by_cases hx : s.ms m < s.wd (n + (s.kk m).toNat)
      · by_cases he : s.kk m + 1 = n
        · exact line211 hb hm hn h1 hl hkk.1 he hx
        · exact line210 hb hm hn h1 hl hkk.1 (by omega) hx
      · by_cases he : s.kk m + 1 = n
        · exact line201 hb hm hn h1 hl hkk.1 he hx
        · exact line200 hb hm hn h1 hl hkk.1 (by omega) hx
    · exact line3 hb hm hn h1 hl hms.1 (by omega)
    · exact line4 hb hm hn h1 hl
    · have hk1 := hkk.2.2 (.inr (.inl hl))
      by_cases h0 : s.wd (s.kk m).toNat = 0
      · exact line51 hb hm hn h1 hl hkk.1 hk1 h0
      · exact line50 hb hm hn h1 hl hkk.1 hk1 h0
    · have hk1 := hkk.2.2 (.inr (.inr hl))
      by_cases c1 : s.wd (n + (s.kk m).toNat) = 0
      · by_cases he : s.kk m + 1 = n
        · exact line6a1 hb hm hn h1 hl hkk.1 he c1
        · exact line6a0 hb hm hn h1 hl hkk.1 (by omega) c1
      · by_cases c2 : s.wd (n + m) < s.wd (n + (s.kk m).toNat)
        · by_cases he : s.kk m + 1 = n
          · exact line6b1 hb hm hn h1 hl hkk.1 he ⟨c1, c2⟩
          · exact line6b0 hb hm hn h1 hl hkk.1 (by omega) ⟨c1, c2⟩
        · by_cases c3 : s.wd (n + (s.kk m).toNat) = s.wd (n + m)
          · by_cases c4 : (m : Int) ≤ s.kk m
            · by_cases he : s.kk m + 1 = n
              · exact line6c1 hb hm hn h1 hl hkk.1 he ⟨c1, c3, c4⟩
              · exact line6c0 hb hm hn h1 hl hkk.1 (by omega) ⟨c1, c3, c4⟩
            · exact line6e2 hb hm hn h1 hl hkk.1 hk1 ⟨c1, c3, by omega⟩
          · exact line6d2 hb hm hn h1 hl hkk.1 hk1 ⟨c1, by omega⟩
    · exact line7 hb hm hn h1 hl
    · exact line8 hb hm hn h1 hl
  · refine (step_no hb hs.2.1 (by omega)).mono ?_
    rintro e w' ⟨rfl, o, rfl⟩
    exact ⟨by unfold told; rw [if_neg hp], by unfold step; rw [if_neg hp]; exact hb.keep (fun k hk => Below.heap_alloc _ _ _ (hb.lt hs.1 k hk)), (OnlyG.refl _ _).alloc _⟩

theorem step_of {w : World} {n k L : Nat} {fb : List Nat} {s s' : St} {p : Int} {r : Value} (hb : Rep w n L fb s) (hs : Reach n k s) (hk : k ≤ 100000) (hr : told n p = r) (he : step n s p = s') :
    Calls Tryd.prog 59 #[.pointer (some ⟨L, 0, none⟩), .int .i64 p] w (Post n L fb w r s') := by
  subst hr; subst he; exact step_any p hb hs hk
theorem told_nil {n : Nat} {p : Nat} (hp : p < n) : told n (p : Int) = .nilIface := by
  unfold told; rw [if_pos (by omega)]
end Go.Proofs.YtgkfgijmccojjaaDoor.Bakery
