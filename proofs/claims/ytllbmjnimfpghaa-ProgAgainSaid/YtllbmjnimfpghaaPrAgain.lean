import Derived.Test.YtllbmjnimfpghaaPrFact
import Derived.Test.YtllbmjnimfpghaaPrAgP
namespace Go.Proofs.Ytllbmjnimfpghaa.Pr
open Go.RowKit
set_option linter.unusedVariables false

/-- The walk of ProgAgain, amid: the box, and the script in new memory, from block B on. -/
structure AX (w : World) (words : Int) (u : Value) (wa : World) (R : List Int) (v : Value) (wr : World) : Prop where
  bel : Below w.heap.size w wr
  size : w.heap.size + 1 ≤ wa.heap.size
  since : Below wa.heap.size wa wr
  box : Blk wr w.heap.size #[.int .i64 words, u] 28
  own : wr.ownsRow wa.heap.size 3 1 v R.length (ints R)
theorem AX.add {w wa wr w1 : World} {words : Int} {u : Value} {R : List Int} {v v' : Value} {x : Int} {n : Nat} {cs : List Value} (h : AX w words u wa R v wr)
    (hown : w1.ownsRow wa.heap.size 3 1 v' n cs) (hg : (wr.alloc (.cells #[.int .i64 x] 3)).grownBy w1 v.ownBlock) (hn : n = (R ++ [x]).length) (hc : cs = ints (R ++ [x])) : AX w words u wa (R ++ [x]) v' w1 := by
  subst hn hc
  have h1 : Below wa.heap.size wr (wr.alloc (.cells #[.int .i64 x] 3)) := (Below.refl _ _).alloc h.since.size _
  have h2 : Below wa.heap.size wr w1 := h1.grown hg (Nat.le_trans h.since.size h1.size) (own_base h.own)
  exact ⟨h.bel.trans (h2.mono (by have := h.size; omega)), h.size, h.since.trans h2, h.box.below h2 h.size, hown⟩
theorem nums_own {w : World} {base : Nat} {v : Value} {R : List Int} (h : w.ownsRow base 3 1 v R.length (ints R)) (hl : R.length ≤ maxLen) : Nums w v R := by
  by_cases h0 : R.length = 0
  · have hR : R = [] := by simpa using h0
    subst hR
    rcases h.2 with ⟨hv, -⟩ | ⟨g, cap, cur, hv, -⟩
    · rw [hv]; exact nums_nil w
    · rw [hv]; exact ⟨_, cap, rfl, by simp, fun k hk => by simp at hk⟩
  · obtain ⟨g, cap, rfl, hg, hlt, hr⟩ := own_ints h h0
    exact ⟨_, cap, rfl, hl, fun k hk => ⟨g, 0, rfl, hlt, by have := (hr k hk).1; simpa using this⟩⟩

set_option maxHeartbeats 8000000 in
set_option maxRecDepth 100000 in
theorem again_any {w : World} {words : Int} {u : Value} {p : List (List Ln)} (hp : IsProg w u p) :
    Calls Try.prog 4 #[.agg #[.int .i64 words, u]] w fun e w' => e = .returned (.bool true) ∧ Below w.heap.size w w' := by
  have HP := Lib.hid hp
  have HC := Lib.hid (cbox w words u)
  obtain ⟨a, cap, rfl, hl, -⟩ := hp
  unfold maxLen at hl
  go_enter Try.func4, Try.ntmps4
  go_wp2_with fail
  generalize w.alloc (.cells #[.int .i64 words, .slice a p.length cap] 28) = wx at HC ⊢
  refine fact_any.mono ?_
  rintro e w1 ⟨rfl, hb1⟩
  replace HC := Lib.hid (HC.out.below hb1)
  clear hb1
  have b0 : w1.cell? ⟨w.heap.size, 0, none⟩ = some (.int .i64 words) := HC.out.box.cell 0
  have b1 : w1.cell? ⟨w.heap.size, 1, none⟩ = some (.slice a p.length cap) := HC.out.box.cell 1
  go_wp2_with fail
  refine (run_any (HP.out.below HC.out.bel) (nums_nil w1)).mono ?_
  rintro e w2 ⟨hb2, hr⟩
  replace HC := Lib.hid (HC.out.below hb2)
  clear b0 b1 hb2
  by_cases hc : check words p = 0
  · have HCK := Lib.hid hc
    have HF := Lib.hid (fine_of hc)
    have HRS := Lib.hid (run_says hc)
    have hn3 := HF.out.n
    have e0 : run words p [] = .inr (result words p (ends p p.length St.zero)) := run_some hc (by simp) rfl
    obtain ⟨A, hA⟩ : ∃ A, result words p (ends p p.length St.zero) = A := ⟨_, rfl⟩
    have hlen := result_len (words := words) (p := p) (f := ends p p.length St.zero) (by have := HF.out.w.1; omega)
    rw [hA] at e0 hlen
    have HE0 := Lib.hid e0
    have HLEN := Lib.hid hlen
    rw [e0] at hr
    obtain ⟨v1, rfl, hg⟩ := hr
    have hA18 : A.length ≤ 10 := by have := HF.out.w.2; omega
    have HNA := Lib.hid (hg.nums (by unfold maxLen; omega))
    clear hg hc e0 hlen hA
    have b0 : w2.cell? ⟨w.heap.size, 0, none⟩ = some (.int .i64 words) := HC.out.box.cell 0
    have b1 : w2.cell? ⟨w.heap.size, 1, none⟩ = some (.slice a p.length cap) := HC.out.box.cell 1
    have HX : Hid (AX w words (.slice a p.length cap) w2 [] (.slice none 0 0) w2) := ⟨HC.out.bel, HC.out.size, Below.refl _ _, HC.out.box, ⟨rfl, .inl ⟨rfl, rfl⟩⟩⟩
    obtain ⟨i0, hi, hz0, hz1, hz2⟩ := info_parts infoInt2
    go_wp2_with fail
    go_loopg [6, 7] (p.length + 1) (fun g x i wr => ∃ (k : Nat) (v : Value), k ≤ p.length ∧ k + g = p.length + 1 ∧ x = v ∧ i = .int .i64 k ∧ AX w words (.slice a p.length cap) w2 (says p k) v wr)
    case atStart => exact ⟨0, _, by omega, by omega, rfl, rfl, HX.out⟩
    case round =>
      clear HX b0 b1
      obtain ⟨k, v, hk, hkg, rfl, rfl, hX⟩ := hrel
      have HX := Lib.hid hX
      have HKG := Lib.hid hkg
      clear hX hkg
      have b0 : wr.cell? ⟨w.heap.size, 0, none⟩ = some (.int .i64 words) := HX.out.box.cell 0
      have b1 : wr.cell? ⟨w.heap.size, 1, none⟩ = some (.slice a p.length cap) := HX.out.box.cell 1
      by_cases hkn : k < p.length
      · have hkI : (k : Int) < p.length := by omega
        have hsl := says_len HF.out k
        have hll := (HF.out.lines k).1
        have HSL := Lib.hid hsl
        have HX0 : Hid (AX w words (.slice a p.length cap) w2 (says p k ++ List.replicate 0 (k : Int)) u6 wr) := by simpa [Hid] using HX.out
        clear hsl
        go_wp2_with fail
        go_loopg [6, 8] ((lines p k).length + 1) (fun g x i wr => ∃ (j : Nat) (v : Value), j ≤ (lines p k).length ∧ j + g = (lines p k).length + 1 ∧ x = v ∧ i = .int .i64 j ∧ AX w words (.slice a p.length cap) w2 (says p k ++ List.replicate j (k : Int)) v wr)
        case atStart => exact ⟨0, _, by omega, by omega, rfl, rfl, HX0.out⟩
        case round =>
          clear HX HX0 b0 b1
          obtain ⟨j, v, hj, hjg, rfl, rfl, hX⟩ := hrel
          have HX := Lib.hid hX
          have HJG := Lib.hid hjg
          clear hX hjg
          have b0 : wr.cell? ⟨w.heap.size, 0, none⟩ = some (.int .i64 words) := HX.out.box.cell 0
          have b1 : wr.cell? ⟨w.heap.size, 1, none⟩ = some (.slice a p.length cap) := HX.out.box.cell 1
          obtain ⟨a', cap', e1, hl', hx⟩ := HP.out
          obtain ⟨b, o, rfl, hb, x, hcx, hH⟩ := hx k hkn
          cases e1
          obtain ⟨a2, cap2, rfl, hl2, -⟩ := hH
          have c0 : wr.cell? ⟨b, o + k, none⟩ = some (.slice a2 (lines p k).length cap2) := by rw [HX.out.bel.cell (p := ⟨b, o + k, none⟩) hb]; exact hcx
          clear hx hcx hl' hb
          unfold maxLen at hl2
          by_cases hjn : j < (lines p k).length
          · have hjI : (j : Int) < (lines p k).length := by omega
            have HRL : Hid ((says p k ++ List.replicate j (k : Int)).length + 1 ≤ 100) := by have := HSL.out; show _ ≤ _; simp; omega
            go_wp2_with (at_builtin; refine wpList_append_own _ rfl _ _ 29 rfl w2.heap.size 3 i0 (.int .i64 0) 1 8 Try.underlying29 hi hz0 hz1 hz2 rfl (by decide) _ (says p k ++ List.replicate j (k : Int)).length (ints (says p k ++ List.replicate j (k : Int))) rfl (HX.out.own.alloc _) ⟨wr.heap.size, 0, none⟩ 1 1 [.int .i64 k] rfl rfl ?c1 ?c2 ?c3 ?c4 ?c5 ?_)
            case c1 => exact fun j u h => news_cell wr _ _ j u h
            case c2 => intro y hy; simp at hy; subst hy; rfl
            case c3 => have := HRL.out; unfold maxLen; omega
            case c4 => have := HRL.out; omega
            case c5 => have := HX.out.since.size; simp; omega
            intro v' w4 hown hgrow _
            have hr := HX.out.add hown hgrow (by simp; omega) (by simp [ints])
            rw [List.append_assoc, ← List.replicate_succ'] at hr
            replace HX := Lib.hid hr
            clear hr hown hgrow HRL
            go_wp2_with fail
            go_roundg ((lines p k).length - j)
            case measure => have := HJG.out; omega
            case rel => exact ⟨j + 1, _, by omega, by omega, rfl, by go_num, HX.out⟩
          · obtain rfl : j = (lines p k).length := by omega
            have hr := HX.out
            rw [← says_succ] at hr
            replace HX := Lib.hid hr
            clear hr
            go_wp2_with fail
            go_roundg (p.length - k)
            case measure => have := HKG.out; omega
            case rel => exact ⟨k + 1, _, by omega, by omega, rfl, by go_num, HX.out⟩
      · obtain rfl : k = p.length := by omega
        have hsl := says_len HF.out p.length
        have HNS := Lib.hid (nums_own HX.out.own (by unfold maxLen; omega))
        clear hsl
        go_wp2_with fail
        refine (run_any (HP.out.below HX.out.bel) HNS.out).mono ?_
        rintro e w3 ⟨hb3, hr⟩
        rw [HRS.out, HE0.out] at hr
        obtain ⟨v2, rfl, hg⟩ := hr
        have HN2 := Lib.hid (hg.nums (by unfold maxLen; omega))
        have HN1 := Lib.hid (HNA.out.below ((HX.out.since.trans (hb3.mono HX.out.since.size))))
        have HBX := Lib.hid (HX.out.box.below hb3 (by have := HX.out.size; have := HX.out.since.size; omega))
        have HBL := Lib.hid (HX.out.bel.trans (hb3.mono HX.out.bel.size))
        clear hg hb3 b0 b1
        have b0 : w3.cell? ⟨w.heap.size, 0, none⟩ = some (.int .i64 words) := HBX.out.cell 0
        have b1 : w3.cell? ⟨w.heap.size, 1, none⟩ = some (.slice a p.length cap) := HBX.out.cell 1
        obtain ⟨a1, cap1, rfl, hl1, -⟩ := HN1.out
        have hlw := HLEN.out
        have hw := HF.out.w
        go_wp2_with fail
        refine (ints_same HN1.out HN2.out).mono ?_
        rintro e w5 ⟨rfl, m, rfl⟩
        go_wp2_with fail
        go_ret
        refine ⟨?_, Below.todrewN HBL.out m⟩
        exact rfl
  · have e0 : run words p [] = .inl (check words p) := by unfold run; rw [if_pos hc]
    rw [e0] at hr
    obtain rfl := hr
    have ev : errVal (check words p) = .iface 23 (.int .i64 (check words p)) := by simp [errVal, hc]
    rw [ev]
    clear ev e0 hc
    go_wp2_with fail
    go_ret
    exact ⟨rfl, HC.out.bel⟩
end Go.Proofs.Ytllbmjnimfpghaa.Pr
