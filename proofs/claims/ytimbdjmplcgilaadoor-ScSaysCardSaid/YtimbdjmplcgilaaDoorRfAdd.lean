import Derived.Test.YtimbdjmplcgilaaDoorRfFound
import Derived.Deep.AppendLies
import Derived.Deep.RegionHeldLaw
namespace Go.Proofs.YtimbdjmplcgilaaDoor.Rf
open Go.RowKit Pr SortFn
set_option linter.unusedVariables false
set_option linter.unusedSimpArgs false

theorem infoState : (Tryd.prog.info? 48).map (fun i => (i.zero, i.size, i.bytes)) = some (some (.slice none 0 0), 1, 24) := by kernel_rfl
set_option maxHeartbeats 2000000 in
set_option maxRecDepth 100000 in
theorem add_any {w : World} {base F RB : Nat} {tag : Nat → Nat} {ss : List (List Int)} {v : Value} {x : List Int} (h : FAt w base F RB tag ss) (hvr : RVL w v x) (hvt : ∀ b, v.ownBlock = some b → tag b = 0 ∧ b < w.heap.size) (hx : x.length = 46) (h0 : ∀ y ∈ x, 0 ≤ y ∧ y ≤ 1000) (hl : ss.length ≤ 100000000000) :
    Calls Tryd.prog 15 #[.pointer (some ⟨F, 0, none⟩), v] w fun e w' => e = .returned (.tuple #[]) ∧ ∃ tag', FAt w' base F RB tag' (Bfs.add ss x) ∧ Added w base tag tag' w' := by
  have hv := hvr.nums hx
  have HVR := Lib.hid hvr
  have HV := Lib.hid hv
  clear hvr
  have HVT := Lib.hid hvt
  have HH := Lib.hid h
  have HX := Lib.hid hx
  have HX0 := Lib.hid h0
  have HL := Lib.hid hl
  obtain ⟨a, cap, rfl, hlm, -⟩ := hv
  rw [hx]
  clear h hlm hx h0 hvt hl
  go_enter Tryd.func15, Tryd.ntmps15
  go_wp2_with fail
  go_loopg [4, 5] 47 (fun g s4 s5 wr => ∃ i : Nat, s4 = .int .i64 (hashL (x.take i)) ∧ s5 = .int .i64 i ∧ i + g = 47 ∧ i ≤ 46 ∧ wr = w)
  case atStart => exact ⟨0, rfl, rfl, by omega, by omega, rfl⟩
  case round =>
    obtain ⟨i, rfl, rfl, hig, hil, rfl⟩ := hrel
    have HIG := Lib.hid hig
    clear hig
    by_cases hin : i < 46
    · have hiI : (i : Int) < 46 := by omega
      obtain ⟨a', cap', e, -, hj⟩ := HV.out
      obtain ⟨b1, o1, rfl, hb1, c1⟩ := hj i (by rw [HX.out]; exact hin)
      cases e
      have hr := hashL_range (l := x.take i) (fun y hy => (HX0.out y (List.mem_of_mem_take hy)).1)
      have hy := HX0.out (x.getD i 0) (by rw [List.getD_eq_getElem?_getD, List.getElem?_eq_getElem (by rw [HX.out]; exact hin)]; exact List.getElem_mem _)
      have ht := hashL_take (l := x) (i := i) (by rw [HX.out]; exact hin)
      generalize x.getD i 0 = y at c1 hy ht
      obtain ⟨K, hK⟩ : ∃ K, hashL (x.take i) = K := ⟨_, rfl⟩
      rw [hK] at hr ht ⊢
      have HT := Lib.hid ht
      have hr1 := hr.1
      have hr2 := hr.2
      have hy1 := hy.1
      have hy2 := hy.2
      clear hj hb1 ht hK hr hy
      go_wp2_with fail
      go_roundg (46 - i)
      case measure => have := HIG.out; omega
      case rel => exact ⟨i + 1, by rw [HT.out]; rfl, by go_num, by omega, by omega, rfl⟩
    · obtain rfl : i = 46 := by omega
      have hxe : x.take 46 = x := List.take_of_length_le (by rw [HX.out]; exact Nat.le_refl _)
      rw [hxe]
      have hr := hashL_range (l := x) (fun y hy => (HX0.out y hy).1)
      obtain ⟨K, hK⟩ := Int.eq_ofNat_of_zero_le hr.1
      have hK2 : K < 1009 := by have := hr.2; rw [hK] at this; omega
      have HK := Lib.hid hK
      rw [hK]
      clear hxe hr hK HIG hin
      obtain ⟨vl, lv, vr, br, lr, hB, hLs, hT, hRow⟩ := HH.out.ex
      obtain ⟨r1, r2, r3, r4, r5, r6⟩ := hRow K hK2
      obtain ⟨ra, rc, hre⟩ := own_shape r3.own
      rw [hre] at r1
      have HR3 : Hid (OutS wr base tag (.slice ra (br K).length rc) (br K) (lr K)) := by rw [← hre]; exact r3
      have HR6 := Lib.hid r6
      have HG : Hid (GAt wr base F RB tag vl ss lv vr br lr) := ⟨HH.out.lo, HH.out.fresh, HH.out.tF, HH.out.tR, hB, hLs, hT, fun k hk => by obtain ⟨q1, q2, q3, q4, -⟩ := hRow k hk; exact ⟨q1, q2, q3, q4⟩⟩
      have HM : Hid (∀ k, k < 1009 → (br k).length ≤ ss.length ∧ ∀ y, y ∈ br k ↔ y ∈ ss ∧ hashL y = (k : Int)) := fun k hk => by obtain ⟨-, -, -, -, q5, q6⟩ := hRow k hk; exact ⟨q5, q6⟩
      have hbl : (br K).length ≤ 100000000000 := Nat.le_trans r5 HL.out
      have d0 := hB.cell 0
      simp only [List.getElem?_toArray, List.getElem?_cons_zero] at d0
      have hKI : (K : Int) < 1009 := by omega
      have HRE := Lib.hid hre
      clear hB hLs hT hRow r2 r3 r4 r5 r6 hre
      go_wp2_with fail
      go_loopg [6] ((br K).length + 1) (fun g s6 wq => ∃ i m : Nat, s6 = .int .i64 i ∧ i + g = (br K).length + 1 ∧ i ≤ (br K).length ∧ wq = wr.drewN m ∧ ∀ j, j < i → (br K).getD j [] ≠ x)
      case atStart => exact ⟨0, 0, rfl, by omega, by omega, rfl, fun j hj => by omega⟩
      case round =>
        obtain ⟨i, m, rfl, hig, hil, rfl, hne⟩ := hrel
        have HIG := Lib.hid hig
        have HNE := Lib.hid hne
        clear hig hne
        have HVD : Hid (Nums (wr.drewN m) (.slice a 46 cap) x) := by
          have := HV.out
          rw [HX.out] at this
          exact this
        have d0q : (wr.drewN m).cell? ⟨F, 0, none⟩ = some (.slice (some ⟨RB, 0, none⟩) 1009 1009) := d0
        have r1q : (wr.drewN m).cell? ⟨RB, K, none⟩ = some (.slice ra (br K).length rc) := r1
        have HR3Q : Hid (OutS (wr.drewN m) base tag (.slice ra (br K).length rc) (br K) (lr K)) := ⟨HR3.out.own, HR3.out.len, HR3.out.row⟩
        have HD0 := Lib.hid d0
        have HR1 := Lib.hid r1
        clear d0 r1
        by_cases hin : i < (br K).length
        · have hiI : (i : Int) < (br K).length := by omega
          obtain ⟨g2, y, rfl, hg2, c2, hyR, hy46⟩ := outS_cell HR3Q.out hin
          have hyN := hyR.nums hy46
          clear hyR
          have HY := Lib.hid hyN
          have HY46 := Lib.hid hy46
          obtain ⟨b2, o2, cap2, hb2, rfl⟩ := nums_some hyN (by rw [hy46]; omega)
          rw [hy46] at c2 HY
          clear hyN hy46 hb2 hg2 HR3Q
          obtain ⟨z, hz⟩ : ∃ z, (br K).getD i [] = z := ⟨_, rfl⟩
          rw [hz] at HY
          have HZ := Lib.hid hz
          clear hz HY46
          have HZ46 : Hid (z.length = 46) := by
            obtain ⟨a', c', e, -, -⟩ := HY.out
            injection e with _ e2 _
            exact e2.symm
          go_wp2_with fail
          refine (same_any (w := wr.drewN m) HY.out HVD.out (by rw [HZ46.out, HX.out])).mono ?_
          rintro e w5 ⟨rfl, m2, rfl⟩
          cases hd : decide (z = x) with
          | true =>
            have hzx := of_decide_eq_true hd
            have HZX := Lib.hid hzx
            clear hd hzx
            go_wp2_with fail
            (try simp only [Exit.inBlock, Exit.then]); refine bodyPost_ret (results_none rfl _ _ _) rfl ?_
            have hmem : x ∈ br K := by
              have := HZ.out
              rw [HZX.out, List.getD_eq_getElem?_getD, List.getElem?_eq_getElem hin] at this
              rw [← this]; exact List.getElem_mem hin
            have he : Bfs.add ss x = ss := by unfold Bfs.add; rw [if_pos ((HR6.out x).1 hmem).1]
            have hbb : ∀ n0, Below n0 wr (wr.drewN (m + m2)) := fun n0 => Below.todrewN (Below.refl _ _) _
            exact ⟨rfl, tag, by rw [he]; exact HH.out.below (hbb _), hbb _, fun b hb ht => ⟨rfl, ht⟩⟩
          | false =>
            have hzx := of_decide_eq_false hd
            have HZX := Lib.hid hzx
            clear hd hzx
            go_wp2_with fail
            go_roundg ((br K).length - i)
            case measure => have := HIG.out; omega
            case rel => exact ⟨i + 1, m + m2, by go_num, by omega, by omega, by first | rfl | exact World.drewN_drewN _ _ _, fun j hj => by
              by_cases e : j = i
              · subst e; rw [HZ.out]; exact HZX.out
              · exact HNE.out j (by omega)⟩
        · obtain rfl : i = (br K).length := by omega
          have HNO : Hid (x ∉ ss) := fun hx => by
            have h1 := (HR6.out x).2 ⟨hx, HK.out⟩
            obtain ⟨j, hj, e⟩ := List.mem_iff_getElem.1 h1
            exact HNE.out j hj (by rw [List.getD_eq_getElem?_getD, List.getElem?_eq_getElem hj]; exact e)
          clear HNE HIG hin hil HR1 HD0 HR6 HR3 HR3Q
          replace HG := Lib.hid (HG.out.drewN m)
          have HVTQ : Hid (∀ b, (Value.slice a 46 cap).ownBlock = some b → tag b = 0 ∧ b < (wr.drewN m).heap.size) := by
            have := HVT.out
            rw [HX.out] at this
            exact this
          have HVRQ : Hid (RVL (wr.drewN m) (.slice a 46 cap) x) := by
            have := HVR.out
            rw [HX.out] at this
            exact this
          have HBQ : Hid (Added wr base tag tag (wr.drewN m) ∧ (wr.drewN m).heap.size = wr.heap.size) := ⟨⟨Below.todrewN (Below.refl _ _) m, fun b hb ht => ⟨rfl, ht⟩⟩, rfl⟩
          generalize wr.drewN m = wq at HG HVTQ HBQ HVRQ HVD d0q r1q ⊢
          clear HH HV HVT HVR
          obtain ⟨i0, hi0, hz0, hz1, hz2⟩ := info_parts infoState
          have hRl : RB < wq.heap.size := World.block_lt_of_cell? (w := wq) (a := ⟨RB, 0, none⟩) (HG.out.row 0 (by omega)).1
          have hFl : F < wq.heap.size := HG.out.box.lt
          have hra : (vr K).ownBlock = (Value.slice ra (br K).length rc).ownBlock := by rw [HRE.out]
          have hFR : F ≠ RB := fun e => by have := HG.out.tF; rw [e, HG.out.tR] at this; omega
          have HNER : Hid ((Value.slice ra (br K).length rc).ownBlock ≠ some RB ∧ (Value.slice ra (br K).length rc).ownBlock ≠ some F) := by
            rw [← hra]
            exact ⟨fun e => by have := (HG.out.row K hK2).2.2.2 RB e; rw [HG.out.tR] at this; omega, fun e => by have := (HG.out.row K hK2).2.2.2 F e; rw [HG.out.tF] at this; omega⟩
          have HRN : Hid (RB < (wq.alloc (.cells #[.slice a 46 cap] 48)).heap.size ∧ F < (wq.alloc (.cells #[.slice a 46 cap] 48)).heap.size) := by constructor <;> (simp; omega)
          have d0a : (wq.alloc (.cells #[.slice a 46 cap] 48)).cell? ⟨F, 0, none⟩ = some (.slice (some ⟨RB, 0, none⟩) 1009 1009) := by rw [World.cell?_alloc_lt _ _ ⟨F, 0, none⟩ hFl]; exact d0q
          have r1a : (wq.alloc (.cells #[.slice a 46 cap] 48)).cell? ⟨RB, K, none⟩ = some (.slice ra (br K).length rc) := by rw [World.cell?_alloc_lt _ _ ⟨RB, K, none⟩ hRl]; exact r1q
          have r2a : Hid ((wq.alloc (.cells #[.slice a 46 cap] 48)).frozen? ⟨RB, K, none⟩ = false) := by
            show _ = _
            rw [World.frozen?_of_block (w := wq) (Below.heap_alloc _ _ _ hRl)]; exact (HG.out.row K hK2).2.1
          have HOW : Hid ((wq.alloc (.cells #[.slice a 46 cap] 48)).drew.ownsRow base 48 1 (.slice ra (br K).length rc) (br K).length (lr K)) := by
            have := (HG.out.row K hK2).2.2.1.own
            rw [HRE.out] at this
            exact this.alloc _
          have HN : Hid (∀ j u, ([.slice a 46 cap] : List Value)[j]? = some u → (wq.alloc (.cells #[.slice a 46 cap] 48)).drew.cell? ((⟨wq.heap.size, 0, none⟩ : Addr).add j) = some u) := by
            intro j u hu
            have := news_cell wq [.slice a 46 cap] 48 j u hu
            simpa using this
          have H1 : Hid (∀ u ∈ ([.slice a 46 cap] : List Value), u.oneCell' = true) := by intro u hu; simp at hu; subst hu; rfl
          have HB : Hid (base ≤ (wq.alloc (.cells #[.slice a 46 cap] 48)).drew.heap.size) := by
            have := HG.out.lo.2.2
            show base ≤ (wq.alloc (.cells #[.slice a 46 cap] 48)).heap.size; simp; omega
          have HHS : Hid ((wq.alloc (.cells #[.slice a 46 cap] 48)).drew.heap.size = wq.heap.size + 1) := by show (wq.alloc (.cells #[.slice a 46 cap] 48)).heap.size = wq.heap.size + 1; simp
          have e63 : (br K).length + 1 ≤ maxLen := by unfold maxLen; omega
          have eby : ((br K).length + 1) * 24 ≤ 140737488355328 := by omega
          have HRA := Lib.hid hra
          clear hra
          go_wp2_with fail
          refine wp_region_held_drew (S := (fun w' => w'.cell? ⟨F, 0, none⟩ = some (.slice (some ⟨RB, 0, none⟩) 1009 1009))) (by kernel_rfl) d0q (fun hHeld => ?_)
          refine wpAnyH_take (i := 0) (v := ?_) rfl (by kernel_rfl) (by kernel_rfl) (by kernel_rfl) (fun _ _ _ h => h) (Or.inl ⟨by rfl, ?_⟩) hHeld ?_
          rotate_left
          · (intro w hSw; (try dsimp only at hSw); go_simp <;> with_reducible rfl)
          try simp only [Act.put, List.setIfInBounds_toArray, List.set_cons_zero, List.set_cons_succ]
          refine wpAnyH_take (i := 1) (v := ?_) rfl (by kernel_rfl) (by kernel_rfl) (by kernel_rfl) (fun _ _ _ h => h) (Or.inl ⟨by rfl, ?_⟩) hHeld ?_
          rotate_left
          · (intro w hSw; (try dsimp only at hSw); go_simp <;> with_reducible rfl)
          try simp only [Act.put, List.setIfInBounds_toArray, List.set_cons_zero, List.set_cons_succ]
          refine wpAnyH_take (i := 2) (v := ?_) rfl (by kernel_rfl) (by kernel_rfl) (by kernel_rfl) (fun _ _ _ h => h) (Or.inl ⟨by rfl, ?_⟩) hHeld ?_
          rotate_left
          · (intro w hSw; (try dsimp only at hSw); go_simp <;> with_reducible rfl)
          try simp only [Act.put, List.setIfInBounds_toArray, List.set_cons_zero, List.set_cons_succ]
          refine wpAnyH_take (i := 3) (v := ?_) rfl (by kernel_rfl) (by kernel_rfl) (by kernel_rfl) (fun _ _ _ h => h) (Or.inl ⟨by rfl, ?_⟩) hHeld ?_
          rotate_left
          · (intro w hSw; (try dsimp only at hSw); go_simp <;> with_reducible rfl)
          try simp only [Act.put, List.setIfInBounds_toArray, List.set_cons_zero, List.set_cons_succ]
          refine wpAnyH_take (i := 4) (v := ?_) rfl (by kernel_rfl) (by kernel_rfl) (by kernel_rfl) (fun _ _ _ h => h) (Or.inl ⟨by rfl, ?_⟩) hHeld ?_
          rotate_left
          · (intro w hSw; (try dsimp only at hSw); go_simp <;> with_reducible rfl)
          try simp only [Act.put, List.setIfInBounds_toArray, List.set_cons_zero, List.set_cons_succ]
          refine wpAnyH_take (i := 5) (v := ?_) rfl (by kernel_rfl) (by kernel_rfl) (by kernel_rfl) (fun _ _ _ h => h) (Or.inl ⟨by rfl, ?_⟩) hHeld ?_
          rotate_left
          · (intro w hSw; (try dsimp only at hSw); go_simp <;> with_reducible rfl)
          try simp only [Act.put, List.setIfInBounds_toArray, List.set_cons_zero, List.set_cons_succ]
          refine wpAnyH_take (i := 6) (v := ?_) rfl (by kernel_rfl) (by kernel_rfl) (by kernel_rfl) (fun _ _ _ h => h) (Or.inl ⟨by rfl, ?_⟩) hHeld ?_
          rotate_left
          · (intro w hSw; (try dsimp only at hSw); go_simp <;> with_reducible rfl)
          try simp only [Act.put, List.setIfInBounds_toArray, List.set_cons_zero, List.set_cons_succ]
          refine wpAnyH_take (i := 7) (v := ?_) rfl (by kernel_rfl) (by kernel_rfl) (by kernel_rfl) (fun _ _ _ h => h) (Or.inl ⟨by rfl, ?_⟩) hHeld ?_
          rotate_left
          · (intro w hSw; (try dsimp only at hSw); go_simp <;> with_reducible rfl)
          try simp only [Act.put, List.setIfInBounds_toArray, List.set_cons_zero, List.set_cons_succ]
          refine wpAnyH_take (i := 8) (v := ?_) rfl (by kernel_rfl) (by kernel_rfl) (by kernel_rfl) (fun _ _ _ h => h) (Or.inl ⟨by rfl, ?_⟩) hHeld ?_
          rotate_left
          · (intro w hSw; (try dsimp only at hSw); go_simp <;> with_reducible rfl)
          try simp only [Act.put, List.setIfInBounds_toArray, List.set_cons_zero, List.set_cons_succ]
          refine wpAnyH_take (i := 9) (v := ?_) rfl (by kernel_rfl) (by kernel_rfl) (by kernel_rfl) (fun _ _ _ h => h) (Or.inl ⟨by rfl, ?_⟩) hHeld ?_
          rotate_left
          · (intro w hSw; (try dsimp only at hSw); go_simp <;> with_reducible rfl)
          try simp only [Act.put, List.setIfInBounds_toArray, List.set_cons_zero, List.set_cons_succ]
          refine wpAnyH_take (i := 10) (v := ?_) rfl (by kernel_rfl) (by kernel_rfl) (by kernel_rfl) (fun _ _ _ h => h) (Or.inl ⟨by rfl, ?_⟩) hHeld ?_
          rotate_left
          · (intro w hSw; (try dsimp only at hSw); go_simp <;> with_reducible rfl)
          try simp only [Act.put, List.setIfInBounds_toArray, List.set_cons_zero, List.set_cons_succ]
          refine wpAnyH_take (i := 12) (v := ?_) rfl (by kernel_rfl) (by kernel_rfl) (by kernel_rfl) (fun _ _ _ h => h) (Or.inl ⟨by rfl, ?_⟩) hHeld ?_
          rotate_left
          · (intro w hSw; (try dsimp only at hSw); go_simp <;> with_reducible rfl)
          try simp only [Act.put, List.setIfInBounds_toArray, List.set_cons_zero, List.set_cons_succ]
          refine wpAnyH_ready (rs := [11, 13]) (by kernel_rfl) (by simp) ?_
          refine AllReadyH.cons rfl (fun KK hK => ?_) (AllReadyH.cons rfl (fun KK hK => ?_) AllReadyH.nil)
          · go_simp
            refine hK.out _ _ d0q (fun hHeld => ?_)
            clear hK KK
            try simp only [Act.put, List.setIfInBounds_toArray, List.set_cons_zero, List.set_cons_succ]
            refine wpAnyH_ready (rs := [13]) (by kernel_rfl) (by simp) ?_
            refine AllReadyH.cons rfl (fun KK hK => ?_) AllReadyH.nil
            go_simp
            refine hK.out _ _ d0a (fun hHeld => ?_)
            clear hK KK
            try simp only [Act.put, List.setIfInBounds_toArray, List.set_cons_zero, List.set_cons_succ]
            refine wpAnyH_ready (rs := [14]) (by kernel_rfl) (by simp) ?_
            refine AllReadyH.cons rfl (fun KK hK => ?_) AllReadyH.nil
            refine step_append_lies _ (by rfl) (.tmp 57) (.tmp 59) 43 (by rfl) base 48 i0 (.slice none 0 0) 1 24 Tryd.underlying43 hi0 hz0 hz1 hz2 rfl (by decide) (.slice ra (br K).length rc) (br K).length (lr K) (by rfl) HOW.out ⟨wq.heap.size, 0, none⟩ 1 1 [.slice a 46 cap] (by rfl) rfl HN.out H1.out (by omega) e63 eby HB.out (wq.heap.size + 1) HHS.out ?_
            intro g2 cap2 w4 hown4 hgrow4 hat4 hlt4
            have d0b : w4.cell? ⟨F, 0, none⟩ = some (.slice (some ⟨RB, 0, none⟩) 1009 1009) := (hgrow4.cell_far ⟨F, 0, none⟩ HRN.out.2 (fun e => HNER.out.2 e.symm)).trans d0a
            have r1b : w4.cell? ⟨RB, K, none⟩ = some (.slice ra (br K).length rc) := (hgrow4.cell_far ⟨RB, K, none⟩ HRN.out.1 (fun e => HNER.out.1 e.symm)).trans r1a
            have r2b : w4.frozen? ⟨RB, K, none⟩ = false := (hgrow4.frozen_far ⟨RB, K, none⟩ HRN.out.1 (fun e => HNER.out.1 e.symm)).trans r2a.out
            have d0c : (w4.setCell ⟨RB, K, none⟩ (.slice (some ⟨g2, 0, none⟩) ((br K).length + 1) cap2)).cell? ⟨F, 0, none⟩ = some (.slice (some ⟨RB, 0, none⟩) 1009 1009) := by
              rw [World.cell?_setCell_other _ _ _ _ (by intro e; exact hFR (by injection e; first | assumption | (symm; assumption)))]; exact d0b
            have HP := Lib.hid (GAt.row_push (w := wq.drew) (T := 48) (HG.out.drewN 1) hK2 HVRQ.out HX.out HVTQ.out hown4 (by rw [HRA.out]; exact hgrow4) (by rw [HRA.out]; exact hat4.elim (fun e => .inl e.symm) (fun e => .inr (by rw [e]; show some (wq.heap.size + 1) = some (wq.alloc _).heap.size; simp))) rfl rfl)
            have HSZ : Hid (wq.heap.size ≤ (w4.setCell ⟨RB, K, none⟩ (.slice (some ⟨g2, 0, none⟩) ((br K).length + 1) cap2)).heap.size) := by
              have := hgrow4.size
              show _ ≤ _
              simp at this ⊢; omega
            refine hK.out _ _ d0b (fun hHeld => ?_)
            clear hK KK
            try simp only [Act.put, List.setIfInBounds_toArray, List.set_cons_zero, List.set_cons_succ]
            refine wpAnyH_take (i := 15) (v := ?_) rfl (by kernel_rfl) (by kernel_rfl) (by kernel_rfl) (fun _ _ _ h => h) (Or.inl ⟨by rfl, ?_⟩) hHeld ?_
            rotate_left
            · (intro w hSw; (try dsimp only at hSw); go_simp <;> with_reducible rfl)
            try simp only [Act.put, List.setIfInBounds_toArray, List.set_cons_zero, List.set_cons_succ]
            refine wpAnyH_ready (rs := [16]) (by kernel_rfl) (by simp) ?_
            refine AllReadyH.cons rfl (fun KK hK => ?_) AllReadyH.nil
            go_simp
            refine hK.out _ _ d0c (fun hHeld => ?_)
            clear hK KK
            try simp only [Act.put, List.setIfInBounds_toArray, List.set_cons_zero, List.set_cons_succ]
            refine wpAnyH_done (by kernel_rfl) ?_ _
            clear hown4 hgrow4 hat4 hlt4 d0b r1b r2b d0c hHeld
            generalize w4.setCell ⟨RB, K, none⟩ (.slice (some ⟨g2, 0, none⟩) ((br K).length + 1) cap2) = w5 at HP HSZ ⊢
            have HA : Hid (Added wr base tag _ w5) := Added.trans (w1 := wq.drew) ⟨Below.todrewN HBQ.out.1.bel 1, HBQ.out.1.zero⟩ (by have := HBQ.out.2; show wr.heap.size ≤ wq.heap.size; omega) HP.out.2
            have hG := HP.out.1
            have hV := HP.out.2.rvl (w := wq.drew) HSZ.out HVRQ.out HVTQ.out
            have HSZ5 : Hid (wr.heap.size ≤ w5.heap.size) := by
              have h1 := HBQ.out.2
              have h2 := HSZ.out
              show _ ≤ _
              omega
            clear HP HSZ hHeld HVRQ HVD HVTQ HBQ HG d0q r1q d0a r1a HOW HN H1 HB HHS HRN HNER r2a
            generalize retag tag (.slice (some ⟨g2, 0, none⟩) ((br K).length + 1) cap2) (K + 10) = tag2 at hG HA hV
            obtain ⟨la, lc, hle⟩ := own_shape hG.list.own
            have HLE := Lib.hid hle
            have HG5 := Lib.hid hG
            have HV5 := Lib.hid hV
            have hF5 : F < w5.heap.size := hG.box.lt
            have l1 : w5.cell? ⟨F, 1, none⟩ = some (.slice la ss.length lc) := by
              have := hG.box.cell 1
              simp only [List.getElem?_toArray, List.getElem?_cons_zero, List.getElem?_cons_succ] at this
              rw [this, hle]
            have l2 : w5.frozen? ⟨F, 1, none⟩ = false := hG.box.free 1
            have HN5 : Hid ((Value.slice la ss.length lc).ownBlock ≠ some F) := fun e => by
              have := HG5.out.tl F (by rw [HLE.out]; exact e)
              rw [HG5.out.tF] at this; omega
            have HLO : Hid ((w5.alloc (.cells #[.slice a 46 cap] 48)).ownsRow base 48 1 (.slice la ss.length lc) ss.length lv) := by
              have := hG.list.own
              rw [hle] at this
              exact this.alloc _
            have HSL : Hid (ss.length ≤ 100000000000) := HL.out
            have HB5 : Hid (base ≤ w5.heap.size) := hG.lo.2.2
            clear hG hV hle
            go_wp2_with (at_builtin; refine wpList_append_own_at _ rfl _ _ 43 rfl base 48 i0 (.slice none 0 0) 1 24 Tryd.underlying43 hi0 hz0 hz1 hz2 rfl (by decide) _ ss.length lv rfl HLO.out ⟨w5.heap.size, 0, none⟩ 1 1 [.slice a 46 cap] rfl rfl ?kk1 ?kk2 ?kk3 ?kk4 ?kk5 ?_)
            try (case kk1 => exact fun j u h => news_cell w5 _ _ j u h)
            case kk2 => first | rfl | (intro y hy; simp at hy; subst hy; rfl)
            case kk3 => have := HSL.out; unfold maxLen; omega
            case kk4 => have := HSL.out; omega
            case kk5 => have := HB5.out; simp; omega
            intro v' w6 hown hgrow _ hat
            obtain ⟨vA, vC, rfl⟩ := own_shape hown
            have HF := Lib.hid (GAt.list_push (w := w5) (T := 48) HG5.out HV5.out.1 HX.out HV5.out.2 hown (by rw [HLE.out]; exact hgrow) (by rw [HLE.out]; exact hat.elim (fun e => .inl e) (fun e => .inr (by rw [e]; simp))) rfl rfl)
            have m1 : w6.cell? ⟨F, 1, none⟩ = some (.slice la ss.length lc) := by
              refine (hgrow.cell_far ⟨F, 1, none⟩ (by simp; omega) (fun e => HN5.out e.symm)).trans ?_
              rw [World.cell?_alloc_lt _ _ ⟨F, 1, none⟩ hF5]; exact l1
            have m2 : w6.frozen? ⟨F, 1, none⟩ = false := by
              refine (hgrow.frozen_far ⟨F, 1, none⟩ (by simp; omega) (fun e => HN5.out e.symm)).trans ?_
              rw [World.frozen?_of_block (w := w5) (Below.heap_alloc _ _ _ hF5)]; exact l2
            clear hown hgrow hat l1 l2
            go_wp2_with fail
            go_end0
            exact ⟨rfl, _, HF.out.1.found HK.out HNO.out HM.out, HA.out.trans HSZ5.out HF.out.2⟩
          · go_simp
            refine hK.out _ _ d0a (fun hHeld => ?_)
            clear hK KK
            try simp only [Act.put, List.setIfInBounds_toArray, List.set_cons_zero, List.set_cons_succ]
            refine wpAnyH_ready (rs := [11]) (by kernel_rfl) (by simp) ?_
            refine AllReadyH.cons rfl (fun KK hK => ?_) AllReadyH.nil
            go_simp
            refine hK.out _ _ d0a (fun hHeld => ?_)
            clear hK KK
            try simp only [Act.put, List.setIfInBounds_toArray, List.set_cons_zero, List.set_cons_succ]
            refine wpAnyH_ready (rs := [14]) (by kernel_rfl) (by simp) ?_
            refine AllReadyH.cons rfl (fun KK hK => ?_) AllReadyH.nil
            refine step_append_lies _ (by rfl) (.tmp 57) (.tmp 59) 43 (by rfl) base 48 i0 (.slice none 0 0) 1 24 Tryd.underlying43 hi0 hz0 hz1 hz2 rfl (by decide) (.slice ra (br K).length rc) (br K).length (lr K) (by rfl) HOW.out ⟨wq.heap.size, 0, none⟩ 1 1 [.slice a 46 cap] (by rfl) rfl HN.out H1.out (by omega) e63 eby HB.out (wq.heap.size + 1) HHS.out ?_
            intro g2 cap2 w4 hown4 hgrow4 hat4 hlt4
            have d0b : w4.cell? ⟨F, 0, none⟩ = some (.slice (some ⟨RB, 0, none⟩) 1009 1009) := (hgrow4.cell_far ⟨F, 0, none⟩ HRN.out.2 (fun e => HNER.out.2 e.symm)).trans d0a
            have r1b : w4.cell? ⟨RB, K, none⟩ = some (.slice ra (br K).length rc) := (hgrow4.cell_far ⟨RB, K, none⟩ HRN.out.1 (fun e => HNER.out.1 e.symm)).trans r1a
            have r2b : w4.frozen? ⟨RB, K, none⟩ = false := (hgrow4.frozen_far ⟨RB, K, none⟩ HRN.out.1 (fun e => HNER.out.1 e.symm)).trans r2a.out
            have d0c : (w4.setCell ⟨RB, K, none⟩ (.slice (some ⟨g2, 0, none⟩) ((br K).length + 1) cap2)).cell? ⟨F, 0, none⟩ = some (.slice (some ⟨RB, 0, none⟩) 1009 1009) := by
              rw [World.cell?_setCell_other _ _ _ _ (by intro e; exact hFR (by injection e; first | assumption | (symm; assumption)))]; exact d0b
            have HP := Lib.hid (GAt.row_push (w := wq.drew) (T := 48) (HG.out.drewN 1) hK2 HVRQ.out HX.out HVTQ.out hown4 (by rw [HRA.out]; exact hgrow4) (by rw [HRA.out]; exact hat4.elim (fun e => .inl e.symm) (fun e => .inr (by rw [e]; show some (wq.heap.size + 1) = some (wq.alloc _).heap.size; simp))) rfl rfl)
            have HSZ : Hid (wq.heap.size ≤ (w4.setCell ⟨RB, K, none⟩ (.slice (some ⟨g2, 0, none⟩) ((br K).length + 1) cap2)).heap.size) := by
              have := hgrow4.size
              show _ ≤ _
              simp at this ⊢; omega
            refine hK.out _ _ d0b (fun hHeld => ?_)
            clear hK KK
            try simp only [Act.put, List.setIfInBounds_toArray, List.set_cons_zero, List.set_cons_succ]
            refine wpAnyH_take (i := 15) (v := ?_) rfl (by kernel_rfl) (by kernel_rfl) (by kernel_rfl) (fun _ _ _ h => h) (Or.inl ⟨by rfl, ?_⟩) hHeld ?_
            rotate_left
            · (intro w hSw; (try dsimp only at hSw); go_simp <;> with_reducible rfl)
            try simp only [Act.put, List.setIfInBounds_toArray, List.set_cons_zero, List.set_cons_succ]
            refine wpAnyH_ready (rs := [16]) (by kernel_rfl) (by simp) ?_
            refine AllReadyH.cons rfl (fun KK hK => ?_) AllReadyH.nil
            go_simp
            refine hK.out _ _ d0c (fun hHeld => ?_)
            clear hK KK
            try simp only [Act.put, List.setIfInBounds_toArray, List.set_cons_zero, List.set_cons_succ]
            refine wpAnyH_done (by kernel_rfl) ?_ _
            clear hown4 hgrow4 hat4 hlt4 d0b r1b r2b d0c hHeld
            generalize w4.setCell ⟨RB, K, none⟩ (.slice (some ⟨g2, 0, none⟩) ((br K).length + 1) cap2) = w5 at HP HSZ ⊢
            have HA : Hid (Added wr base tag _ w5) := Added.trans (w1 := wq.drew) ⟨Below.todrewN HBQ.out.1.bel 1, HBQ.out.1.zero⟩ (by have := HBQ.out.2; show wr.heap.size ≤ wq.heap.size; omega) HP.out.2
            have hG := HP.out.1
            have hV := HP.out.2.rvl (w := wq.drew) HSZ.out HVRQ.out HVTQ.out
            have HSZ5 : Hid (wr.heap.size ≤ w5.heap.size) := by
              have h1 := HBQ.out.2
              have h2 := HSZ.out
              show _ ≤ _
              omega
            clear HP HSZ hHeld HVRQ HVD HVTQ HBQ HG d0q r1q d0a r1a HOW HN H1 HB HHS HRN HNER r2a
            generalize retag tag (.slice (some ⟨g2, 0, none⟩) ((br K).length + 1) cap2) (K + 10) = tag2 at hG HA hV
            obtain ⟨la, lc, hle⟩ := own_shape hG.list.own
            have HLE := Lib.hid hle
            have HG5 := Lib.hid hG
            have HV5 := Lib.hid hV
            have hF5 : F < w5.heap.size := hG.box.lt
            have l1 : w5.cell? ⟨F, 1, none⟩ = some (.slice la ss.length lc) := by
              have := hG.box.cell 1
              simp only [List.getElem?_toArray, List.getElem?_cons_zero, List.getElem?_cons_succ] at this
              rw [this, hle]
            have l2 : w5.frozen? ⟨F, 1, none⟩ = false := hG.box.free 1
            have HN5 : Hid ((Value.slice la ss.length lc).ownBlock ≠ some F) := fun e => by
              have := HG5.out.tl F (by rw [HLE.out]; exact e)
              rw [HG5.out.tF] at this; omega
            have HLO : Hid ((w5.alloc (.cells #[.slice a 46 cap] 48)).ownsRow base 48 1 (.slice la ss.length lc) ss.length lv) := by
              have := hG.list.own
              rw [hle] at this
              exact this.alloc _
            have HSL : Hid (ss.length ≤ 100000000000) := HL.out
            have HB5 : Hid (base ≤ w5.heap.size) := hG.lo.2.2
            clear hG hV hle
            go_wp2_with (at_builtin; refine wpList_append_own_at _ rfl _ _ 43 rfl base 48 i0 (.slice none 0 0) 1 24 Tryd.underlying43 hi0 hz0 hz1 hz2 rfl (by decide) _ ss.length lv rfl HLO.out ⟨w5.heap.size, 0, none⟩ 1 1 [.slice a 46 cap] rfl rfl ?kk1 ?kk2 ?kk3 ?kk4 ?kk5 ?_)
            try (case kk1 => exact fun j u h => news_cell w5 _ _ j u h)
            case kk2 => first | rfl | (intro y hy; simp at hy; subst hy; rfl)
            case kk3 => have := HSL.out; unfold maxLen; omega
            case kk4 => have := HSL.out; omega
            case kk5 => have := HB5.out; simp; omega
            intro v' w6 hown hgrow _ hat
            obtain ⟨vA, vC, rfl⟩ := own_shape hown
            have HF := Lib.hid (GAt.list_push (w := w5) (T := 48) HG5.out HV5.out.1 HX.out HV5.out.2 hown (by rw [HLE.out]; exact hgrow) (by rw [HLE.out]; exact hat.elim (fun e => .inl e) (fun e => .inr (by rw [e]; simp))) rfl rfl)
            have m1 : w6.cell? ⟨F, 1, none⟩ = some (.slice la ss.length lc) := by
              refine (hgrow.cell_far ⟨F, 1, none⟩ (by simp; omega) (fun e => HN5.out e.symm)).trans ?_
              rw [World.cell?_alloc_lt _ _ ⟨F, 1, none⟩ hF5]; exact l1
            have m2 : w6.frozen? ⟨F, 1, none⟩ = false := by
              refine (hgrow.frozen_far ⟨F, 1, none⟩ (by simp; omega) (fun e => HN5.out e.symm)).trans ?_
              rw [World.frozen?_of_block (w := w5) (Below.heap_alloc _ _ _ hF5)]; exact l2
            clear hown hgrow hat l1 l2
            go_wp2_with fail
            go_end0
            exact ⟨rfl, _, HF.out.1.found HK.out HNO.out HM.out, HA.out.trans HSZ5.out HF.out.2⟩
end Go.Proofs.YtimbdjmplcgilaaDoor.Rf
