import Derived.Test.YtimbdjmplcgilaaTsQ
namespace Go.Proofs.Ytimbdjmplcgilaa.Tso
open Go.RowKit Pr SortFn
set_option linter.unusedVariables false

/-! Loads and stores turned into swaps. -/
def swp (l : Ln) : Ln := if l.k = 1 ∨ l.k = 2 then { l with k := 3 } else l
def swpH (ls : List Ln) : List Ln := ls.map swp
def swpP (p : List (List Ln)) : List (List Ln) := p.map (fun ls => swpH (ls.take 6))
theorem swp_k (l : Ln) : (swp l).k ≠ 1 ∧ (swp l).k ≠ 2 := by
  unfold swp; split
  · simp
  · omega
theorem swpH_len (ls : List Ln) : (swpH ls).length = ls.length := by simp [swpH]
theorem swpH_take {ls : List Ln} {k : Nat} (h : k < ls.length) : swpH (ls.take (k + 1)) = swpH (ls.take k) ++ [swp (ls.getD k Ln.zero)] := by
  rw [List.take_add_one, List.getElem?_eq_getElem h]
  simp only [swpH, Option.toList_some, List.map_append, List.map_cons, List.map_nil, List.getD_eq_getElem?_getD, List.getElem?_eq_getElem h, Option.getD_some]
/-- Who only swaps never races. -/
theorem swp_quiet {words : Int} {p : List (List Ln)} (hf : Fine words (swpP p)) : ¬ Sc.Races (swpP p) := by
  rintro ⟨f, hr, a, b, hba, ha, hma, hmb, hc⟩
  have hn := hf.n
  have hok := (hr.fine hf).1
  have key : ∀ h, h < (swpP p).length → more (swpP p) f h = true → (line (swpP p) f h).k ≠ 1 ∧ (line (swpP p) f h).k ≠ 2 := by
    intro h hh hm
    have h0 := hok.at0 h (by omega)
    unfold more at hm
    simp at hm
    have hlt : (f h).toNat < (lines (swpP p) h).length := by omega
    have hm2 : line (swpP p) f h ∈ lines (swpP p) h := by
      unfold line
      rw [List.getD_eq_getElem?_getD, List.getElem?_eq_getElem hlt]
      exact List.getElem_mem _
    have hh' : h < p.length := by simpa [swpP] using hh
    have e : lines (swpP p) h = swpH (p[h].take 6) := by simp [lines, swpP, List.getD_eq_getElem?_getD, hh']
    rw [e] at hm2
    obtain ⟨l, -, hl⟩ := List.mem_map.1 hm2
    rw [← hl]
    exact swp_k l
  have h1 := key a ha hma
  have h2 := key b (by omega) hmb
  unfold Sc.clash Sc.touches at hc
  simp at hc
  omega
def oneP : List (List Ln) := [[⟨0, 0, 0, 3⟩, ⟨3, 0, 0, 0⟩]]
theorem one_check : check 1 oneP = 0 := by decide +kernel
theorem one_closed : Sc.closedB (Sc.succ oneP) (Sc.states oneP) = true := by decide +kernel
theorem one_res {R : List (List Int)} (h : Sc.Res 1 oneP R) : R = [[0, 0, 3]] :=
  Sc.res_is (fine_of one_check) one_closed (by decide +kernel) (by decide +kernel) h
theorem handCells_append (a b : List Ln) : handCells (a ++ b) = handCells a ++ handCells b := by simp [handCells]
theorem handCells_one (l : Ln) : handCells [l] = lnCells l := by simp [handCells]
theorem handCells_two (l m : Ln) : handCells [l, m] = lnCells l ++ lnCells m := by simp [handCells]
theorem lnCells_one (l : Ln) : ∀ u ∈ lnCells l, u.oneCell' = true := by
  intro u hu; simp [lnCells] at hu; rcases hu with rfl | rfl | rfl | rfl <;> rfl
theorem lnCells_new (w : World) (l : Ln) (T : TypeId) : ∀ j u, (lnCells l)[j]? = some u → (w.alloc (.cells #[.int .i64 l.k, .int .i64 l.r, .int .i64 l.w, .int .i64 l.v] T)).cell? (Addr.add ⟨w.heap.size, 0, none⟩ j) = some u := by
  intro j u hu
  exact news_cell w (lnCells l) T j u hu
theorem take_four {p : List (List Ln)} {h : Nat} (hp : h = p.length ∨ h = 4) (h4 : h ≤ 4) : p.take h = p.take 4 := by
  rcases hp with e | e
  · rw [e, List.take_length, List.take_of_length_le (by omega)]
  · rw [e]
theorem take_snoc {p : List (List Ln)} {h : Nat} (hh : h < p.length) : p.take (h + 1) = p.take h ++ [lines p h] := by
  rw [List.take_add_one, List.getElem?_eq_getElem hh]
  simp [lines, List.getD_eq_getElem?_getD, hh]

theorem nums_own {w : World} {base : Nat} {e : TypeId} {v : Value} {R : List Int} (h : w.ownsRow base e 1 v R.length (ints R)) (hl : R.length ≤ maxLen) : Nums w v R := by
  by_cases h0 : R.length = 0
  · have hR : R = [] := by simpa using h0
    subst hR
    rcases h.2 with ⟨hv, -⟩ | ⟨g, cap, cur, hv, -⟩
    · rw [hv]; exact nums_nil w
    · rw [hv]; exact ⟨_, cap, rfl, by simp, fun k hk => by simp at hk⟩
  · obtain ⟨g, cap, rfl, hg, hlt, hr⟩ := own_ints h h0
    exact ⟨_, cap, rfl, hl, fun k hk => ⟨g, 0, rfl, ⟨hlt, hg.2⟩, by have := (hr k hk).1; simpa using this⟩⟩
theorem own_other {w : World} {base : Nat} {e : TypeId} {size : Nat} {v : Value} {n : Nat} {xs : List Value} (h : w.ownsRow base e size v n xs) {c : Nat} (hc : ∀ g, v.ownBlock = some g → c ≠ g) (i : Nat) (x : Value) : (w.setCell ⟨c, i, none⟩ x).ownsRow base e size v n xs := by
  obtain ⟨h1, h2⟩ := h
  refine ⟨h1, ?_⟩
  rcases h2 with ⟨e, e2⟩ | ⟨g0, cap, cur, e, h2, h3, r⟩
  · exact .inl ⟨e, e2⟩
  · refine .inr ⟨g0, cap, cur, e, h2, ?_, r⟩
    subst e
    exact Blk.other (b' := c) h3 (hc g0 rfl) i x
/-- A line of the second program amid: its box, the hand's lines so far. -/
structure SwX (wo wz : World) (c : Nat) (l : Ln) (v : Value) (ls : List Ln) : Prop where
  bel : Below wo.heap.size wo wz
  box : Blk wz c #[.int .i64 l.k, .int .i64 l.r, .int .i64 l.w, .int .i64 l.v] 44
  own : wz.ownsRow wo.heap.size 44 4 v ls.length (handCells ls)
  ge : wo.heap.size ≤ c
  ne : ∀ g, v.ownBlock = some g → c ≠ g
theorem SwX.new {wo wq : World} {v : Value} {ls : List Ln} (hb : Below wo.heap.size wo wq) (ho : wq.ownsRow wo.heap.size 44 4 v ls.length (handCells ls)) (l : Ln) : SwX wo (wq.alloc (.cells #[.int .i64 l.k, .int .i64 l.r, .int .i64 l.w, .int .i64 l.v] 44)) wq.heap.size l v ls :=
  ⟨hb.alloc hb.size _, Blk.new _ _ _, ho.alloc _, hb.size, fun g e => by have := (ho.lt g e).2; omega⟩
theorem SwX.set {wo wz : World} {c : Nat} {l : Ln} {v : Value} {ls : List Ln} (h : SwX wo wz c l v ls) (hk : l.k = 1 ∨ l.k = 2) : SwX wo (wz.setCell ⟨c, 0, none⟩ (.int .i64 3)) c (swp l) v ls := by
  refine ⟨h.bel.setCell (p := ⟨c, 0, none⟩) h.ge _, ?_, own_other h.own h.ne _ _, h.ge, h.ne⟩
  unfold swp; rw [if_pos hk]
  exact Blk.eq (h.box.set 0 (.int .i64 3)) (by simp)
theorem SwX.grown {wo wz w3 : World} {c : Nat} {l : Ln} {v v' : Value} {ls : List Ln} {n : Nat} {cs : List Value} (h : SwX wo wz c l v ls) (hown : w3.ownsRow wo.heap.size 44 4 v' n cs) (hg : (wz.alloc (.cells #[.int .i64 l.k, .int .i64 l.r, .int .i64 l.w, .int .i64 l.v] 44)).grownBy w3 v.ownBlock) (hn : n = ls.length + 1) (hc : cs = handCells ls ++ lnCells l) :
    Below wo.heap.size wo w3 ∧ w3.ownsRow wo.heap.size 44 4 v' (ls ++ [l]).length (handCells (ls ++ [l])) := by
  subst hn hc
  refine ⟨h.bel.trans ((((Below.refl wz.heap.size wz).alloc (Nat.le_refl _) _).mono h.bel.size).grown hg (Nat.le_trans h.bel.size (by simp)) (own_base h.own)), ?_⟩
  rw [handCells_append, handCells_one]
  simpa using hown

theorem one_prog (w : World) (T1 T2 : TypeId) : IsProg ((w.alloc (.cells #[.int .i64 0, .int .i64 0, .int .i64 0, .int .i64 3, .int .i64 3, .int .i64 0, .int .i64 0, .int .i64 0] T1)).alloc (.cells #[.slice (some ⟨w.heap.size, 0, none⟩) 2 2] T2)) (.slice (some ⟨w.heap.size + 1, 0, none⟩) 1 1) oneP := by
  have hB := Blk.new w #[.int .i64 0, .int .i64 0, .int .i64 0, .int .i64 3, .int .i64 3, .int .i64 0, .int .i64 0, .int .i64 0] T1
  have hk : Below (w.heap.size + 1) (w.alloc (.cells #[.int .i64 0, .int .i64 0, .int .i64 0, .int .i64 3, .int .i64 3, .int .i64 0, .int .i64 0, .int .i64 0] T1)) ((w.alloc (.cells #[.int .i64 0, .int .i64 0, .int .i64 0, .int .i64 3, .int .i64 3, .int .i64 0, .int .i64 0, .int .i64 0] T1)).alloc (.cells #[.slice (some ⟨w.heap.size, 0, none⟩) 2 2] T2)) := (Below.refl _ _).alloc (by simp) _
  have hC := Blk.new (w.alloc (.cells #[.int .i64 0, .int .i64 0, .int .i64 0, .int .i64 3, .int .i64 3, .int .i64 0, .int .i64 0, .int .i64 0] T1)) #[.slice (some ⟨w.heap.size, 0, none⟩) 2 2] T2
  have hsz : (w.alloc (.cells #[.int .i64 0, .int .i64 0, .int .i64 0, .int .i64 3, .int .i64 3, .int .i64 0, .int .i64 0, .int .i64 0] T1)).heap.size = w.heap.size + 1 := by simp
  rw [hsz] at hC
  have hB2 := hB.below hk (by omega)
  refine ⟨_, 1, rfl, by simp [oneP, maxLen], fun i hi => ⟨w.heap.size + 1, 0, rfl, by simp, .slice (some ⟨w.heap.size, 0, none⟩) 2 2, ?_, some ⟨w.heap.size, 0, none⟩, 2, ?_, ?_, fun j hj => ⟨w.heap.size, 0, rfl, by simp; omega, ?_⟩⟩⟩
  · have hi0 : i = 0 := by simp [oneP] at hi; exact hi
    subst hi0; exact hC.cell 0
  · have hi0 : i = 0 := by simp [oneP] at hi; exact hi
    subst hi0; rfl
  · have hi0 : i = 0 := by simp [oneP] at hi; exact hi
    subst hi0; simp [oneP, lines, maxLen]
  · have hi0 : i = 0 := by simp [oneP] at hi; exact hi
    subst hi0
    have hj2 : j < 2 := hj
    obtain rfl | rfl : j = 0 ∨ j = 1 := by omega
    · exact ⟨hB2.cell 0, hB2.cell 1, hB2.cell 2, hB2.cell 3⟩
    · exact ⟨hB2.cell 4, hB2.cell 5, hB2.cell 6, hB2.cell 7⟩

set_option maxHeartbeats 8000000 in
set_option maxRecDepth 100000 in
theorem law_swaps {w : World} {words : Int} {u : Value} {p : List (List Ln)} (hp : IsProg w u p) :
    Calls Try.prog 11 #[.agg #[.int .i64 words, u]] w fun e w' => e = .returned (.bool true) ∧ Below w.heap.size w w' := by
  have HP := Lib.hid hp
  have HC := Lib.hid (cbox w words u)
  obtain ⟨a, cap, rfl, hl, hjj⟩ := hp
  unfold maxLen at hl
  have HJJ := Lib.hid hjj
  clear hjj
  obtain ⟨i0, hi, hz0, hz1, hz2⟩ := info_parts infoLine
  obtain ⟨i1, hi1, hy0, hy1, hy2⟩ := info_parts infoHand
  go_enter Try.func11, Try.ntmps11
  go_upto_region 1 with fail
  generalize w.alloc (.cells #[.int .i64 words, .slice a p.length cap] 26) = wx at HC ⊢
  go_wp2_with fail
  have hone := (one_prog wx 44 22).below ((Below.refl _ _).alloc (Nat.le_refl _) (.cells #[.int .i64 1, .slice (some ⟨wx.heap.size + 1, 0, none⟩) 1 1] 26))
  have hb0 : Below wx.heap.size wx (((wx.alloc (.cells #[.int .i64 0, .int .i64 0, .int .i64 0, .int .i64 3, .int .i64 3, .int .i64 0, .int .i64 0, .int .i64 0] 44)).alloc (.cells #[.slice (some ⟨wx.heap.size, 0, none⟩) 2 2] 22)).alloc (.cells #[.int .i64 1, .slice (some ⟨wx.heap.size + 1, 0, none⟩) 1 1] 26)) := (((Below.refl _ _).alloc (Nat.le_refl _) _).alloc (by simp) _).alloc (by simp; omega) _
  replace HC := Lib.hid (HC.out.below hb0)
  refine (Sc.results_any hone).mono ?_
  rintro e w1 ⟨hT1, hb1⟩
  obtain ⟨ar, cr, R, rfl, hM, hR, -⟩ := sc_good hT1 one_check
  obtain rfl := one_res hR
  replace HC := Lib.hid (HC.out.below hb1)
  have HM := Lib.hid hM
  obtain ⟨am, cm, e, -, hx⟩ := hM
  cases e
  obtain ⟨bm, om, xm, rfl, hbm, hcm, hnm⟩ := hx 0 (by simp)
  have HNM := Lib.hid hnm
  obtain ⟨an, cn, rfl, -⟩ := hnm
  simp only [List.length_cons, List.length_nil, List.getD_cons_zero, Nat.add_zero, Nat.zero_add] at hcm HM ⊢
  clear hb1 hb0 hone hT1 hR hx
  go_wp2_with fail
  have hBI := Blk.new w1 #[.int .i64 0, .int .i64 0, .int .i64 3] 3
  have hbi : Below w1.heap.size w1 (w1.alloc (.cells #[.int .i64 0, .int .i64 0, .int .i64 3] 3)) := (Below.refl _ _).alloc (Nat.le_refl _) _
  have hNI : Nums (w1.alloc (.cells #[.int .i64 0, .int .i64 0, .int .i64 3] 3)) (.slice (some ⟨w1.heap.size, 0, none⟩) 3 3) [0, 0, 3] :=
    nums_own (base := w1.heap.size) (e := 3) ⟨rfl, .inr ⟨w1.heap.size, 3, #[.int .i64 0, .int .i64 0, .int .i64 3], rfl, Nat.le_refl _, hBI, Nat.le_refl _, by unfold maxLen; omega, rfl, rfl⟩⟩ (by simp [maxLen])
  replace HC := Lib.hid (HC.out.below hbi)
  refine (ints_any (HNM.out.below hbi) hNI).mono ?_
  rintro e w2 ⟨rfl, m, rfl⟩
  have HC2 : Hid (CBox w ((w1.alloc (.cells #[.int .i64 0, .int .i64 0, .int .i64 3] 3)).drewN m) words (.slice a p.length cap)) := ⟨Below.todrewN HC.out.bel m, HC.out.size, HC.out.box⟩
  clear hBI hbi hNI HC HNM HM hcm
  generalize (w1.alloc (.cells #[.int .i64 0, .int .i64 0, .int .i64 3] 3)).drewN m = w3 at HC2 ⊢
  have HC := HC2
  clear HC2
  have b0 : w3.cell? ⟨w.heap.size, 0, none⟩ = some (.int .i64 words) := HC.out.box.cell 0
  have b1 : w3.cell? ⟨w.heap.size, 1, none⟩ = some (.slice a p.length cap) := HC.out.box.cell 1
  go_wp2_with fail
  have hBq : w.heap.size < w3.heap.size := by have := HC.out.size; omega
  have HX : Hid (QX w words (.slice a p.length cap) w3.heap.size (.slice none 0 0) [] (swpP (p.take 0)) (w3.alloc (.cells #[.int .i64 words, .slice none 0 0] 26))) :=
    ⟨⟨(HC.out.alloc _).bel, hBq, by simp, (HC.out.alloc _).box, Blk.new _ _ _, World.ownsRow_nil _ _ _ _⟩, rfl, fun j x hx => by simp at hx⟩
  clear HC b0 b1
  generalize w3.alloc (.cells #[.int .i64 words, .slice none 0 0] 26) = w4 at HX ⊢
  generalize w3.heap.size = Bq at HX hBq ⊢
  go_loopg [7] 5 (fun gg s7 wr => ∃ (h : Nat) (v : Value) (cs : List Value), s7 = .int .i64 h ∧ h + gg = 5 ∧ h ≤ 4 ∧ h ≤ p.length ∧ QX w words (.slice a p.length cap) Bq v cs (swpP (p.take h)) wr)
  case atStart => exact ⟨0, _, _, rfl, rfl, by omega, by omega, HX.out⟩
  case round =>
    clear HX
    obtain ⟨h, v, cs, rfl, hhg, hh4, hhp, hX⟩ := hrel
    have HX := Lib.hid hX
    have HHG := Lib.hid hhg
    clear hX hhg
    rename World => wo
    have b1 : wo.cell? ⟨w.heap.size, 1, none⟩ = some (.slice a p.length cap) := HX.out.ix.box.cell 1
    by_cases hgo : h < p.length ∧ h < 4
    · obtain ⟨hhn, h4⟩ := hgo
      have hhI : (h : Int) < p.length := by omega
      have h4I : (h : Int) < 4 := by omega
      obtain ⟨b, o, rfl, hbl, x, hx, a2, c2, rfl, hl2, hj2⟩ := HJJ.out h hhn
      obtain ⟨ls, hls⟩ : ∃ ls, lines p h = ls := ⟨_, rfl⟩
      rw [hls] at hx hl2 hj2
      have HLS := Lib.hid hls
      have HJ2 := Lib.hid hj2
      have HFA : Hid (∀ wq, Below wo.heap.size wo wq → wq.cell? ⟨w.heap.size, 1, none⟩ = some (.slice (some ⟨b, o, none⟩) p.length cap) ∧ wq.cell? ⟨b, o + h, none⟩ = some (.slice a2 ls.length c2) ∧ Below w.heap.size w wq) := fun wq k => by
        have hq := HX.out.ix.below k
        exact ⟨hq.box.cell 1, by rw [hq.bel.cell (p := ⟨b, o + h, none⟩) hbl]; exact hx, hq.bel⟩
      unfold maxLen at hl2
      clear hls hj2 b1 hx
      have b1 : wo.cell? ⟨w.heap.size, 1, none⟩ = some (.slice (some ⟨b, o, none⟩) p.length cap) := (HFA.out wo (Below.refl _ _)).1
      go_wp2_with fail
      go_loopg [8, 9] 7 (fun gg s8 s9 wq => ∃ k : Nat, s9 = .int .i64 k ∧ k + gg = 7 ∧ k ≤ 6 ∧ k ≤ ls.length ∧ wq.ownsRow wo.heap.size 44 4 s8 (swpH (ls.take k)).length (handCells (swpH (ls.take k))) ∧ Below wo.heap.size wo wq)
      case atStart => exact ⟨0, rfl, rfl, by omega, by omega, by simpa [swpH, handCells] using World.ownsRow_nil wo wo.heap.size 44 4, Below.refl _ _⟩
      case round =>
        clear b1
        obtain ⟨k, rfl, hkg, hk6, hkl, hown, hbel⟩ := hrel
        have HKG := Lib.hid hkg
        have HOW := Lib.hid hown
        have HBL := Lib.hid hbel
        clear hkg hown hbel
        rename World => wq
        have b1 := (HFA.out _ HBL.out).1
        have b2 := (HFA.out _ HBL.out).2.1
        by_cases hgo : k < ls.length ∧ k < 6
        · obtain ⟨hkn, k6⟩ := hgo
          have hkI : (k : Int) < ls.length := by omega
          have k6I : (k : Int) < 6 := by omega
          obtain ⟨b2', o2, rfl, hbl2, hln⟩ := HJ2.out k hkn
          obtain ⟨l, hlk⟩ : ∃ l, ls.getD k Ln.zero = l := ⟨_, rfl⟩
          rw [hlk] at hln
          have HLK := Lib.hid hlk
          have HLN : Hid (∀ wq, Below wo.heap.size wo wq → LnAt wq b2' (o2 + k * 4) l) := fun wq k => (hln.below hbl2 ((HX.out.ix.below k).bel))
          obtain ⟨l0, l1, l2, l3⟩ := HLN.out _ HBL.out
          clear hlk hln
          go_upto_region 14 with fail
          have HFT : Hid (swpH (ls.take (k + 1)) = swpH (ls.take k) ++ [swp l]) := by show _ = _; rw [swpH_take hkn, HLK.out]
          have HFL : Hid ((swpH (ls.take k)).length ≤ 6) := by
            show _ ≤ _
            rw [swpH_len]; simp; omega
          have HZ := Lib.hid (SwX.new HBL.out HOW.out l)
          clear l0 l1 l2 l3 b1 b2 HOW
          generalize wq.alloc (.cells #[.int .i64 l.k, .int .i64 l.r, .int .i64 l.w, .int .i64 l.v] 44) = wz at HZ ⊢
          generalize wq.heap.size = c at HZ ⊢
          have l0 : wz.cell? ⟨c, 0, none⟩ = some (.int .i64 l.k) := HZ.out.box.cell 0
          have g0 := HZ.out.box.free 0
          by_cases hk1 : l.k = 1
          · rw [hk1] at l0
            have HXS := Lib.hid (HZ.out.set (.inl hk1))
            clear HZ
            go_upto_region 16 with fail
            generalize wz.setCell ⟨c, 0, none⟩ (.int .i64 3) = w6 at HXS ⊢
            clear l0 g0
            have m0 := HXS.out.box.cell 0
            have m1 := HXS.out.box.cell 1
            have m2 := HXS.out.box.cell 2
            have m3 := HXS.out.box.cell 3
            simp only [List.getElem?_toArray, List.getElem?_cons_zero, List.getElem?_cons_succ] at m0 m1 m2 m3
            obtain ⟨sl, hsl⟩ : ∃ sl, swp l = sl := ⟨_, rfl⟩
            rw [hsl] at HXS m0 m1 m2 m3
            have HSL := Lib.hid hsl
            clear hsl
            go_wp2_with (at_builtin; refine wpList_append_own _ rfl _ _ 22 rfl wo.heap.size 44 i0 (.agg #[.int .i64 0, .int .i64 0, .int .i64 0, .int .i64 0]) 4 32 Try.underlying22 hi hz0 hz1 hz2 rfl (by decide) _ (swpH (ls.take k)).length (handCells (swpH (ls.take k))) rfl (HXS.out.own.alloc _) ⟨w6.heap.size, 0, none⟩ 1 1 (lnCells sl) rfl rfl (lnCells_new w6 sl _) (lnCells_one _) ?cpa ?cpb ?cpc ?_)
            case cpa => have := HFL.out; unfold maxLen; omega
            case cpb => have := HFL.out; omega
            case cpc => exact Nat.le_trans HXS.out.bel.size (by simp)
            intro v' w3 hown hgrow _
            obtain ⟨hb3, hown3⟩ := HXS.out.grown hown hgrow rfl rfl
            rw [← HSL.out, ← HFT.out] at hown3
            have HB3 := Lib.hid hb3
            have HOW3 := Lib.hid hown3
            clear hown hgrow hb3 hown3 m0 m1 m2 m3 HXS
            go_wp2_with fail
            go_roundg (7 - (k + 1))
            case measure => have := HKG.out; omega
            case rel => exact ⟨k + 1, by go_num, by omega, by omega, by omega, HOW3.out, HB3.out⟩
          · by_cases hk2 : l.k = 2
            · rw [hk2] at l0
              have HXS := Lib.hid (HZ.out.set (.inr hk2))
              clear HZ
              go_upto_region 16 with fail
              generalize wz.setCell ⟨c, 0, none⟩ (.int .i64 3) = w6 at HXS ⊢
              clear l0 g0
              have m0 := HXS.out.box.cell 0
              have m1 := HXS.out.box.cell 1
              have m2 := HXS.out.box.cell 2
              have m3 := HXS.out.box.cell 3
              simp only [List.getElem?_toArray, List.getElem?_cons_zero, List.getElem?_cons_succ] at m0 m1 m2 m3
              obtain ⟨sl, hsl⟩ : ∃ sl, swp l = sl := ⟨_, rfl⟩
              rw [hsl] at HXS m0 m1 m2 m3
              have HSL := Lib.hid hsl
              clear hsl
              go_wp2_with (at_builtin; refine wpList_append_own _ rfl _ _ 22 rfl wo.heap.size 44 i0 (.agg #[.int .i64 0, .int .i64 0, .int .i64 0, .int .i64 0]) 4 32 Try.underlying22 hi hz0 hz1 hz2 rfl (by decide) _ (swpH (ls.take k)).length (handCells (swpH (ls.take k))) rfl (HXS.out.own.alloc _) ⟨w6.heap.size, 0, none⟩ 1 1 (lnCells sl) rfl rfl (lnCells_new w6 sl _) (lnCells_one _) ?cqa ?cqb ?cqc ?_)
              case cqa => have := HFL.out; unfold maxLen; omega
              case cqb => have := HFL.out; omega
              case cqc => exact Nat.le_trans HXS.out.bel.size (by simp)
              intro v' w3 hown hgrow _
              obtain ⟨hb3, hown3⟩ := HXS.out.grown hown hgrow rfl rfl
              rw [← HSL.out, ← HFT.out] at hown3
              have HB3 := Lib.hid hb3
              have HOW3 := Lib.hid hown3
              clear hown hgrow hb3 hown3 m0 m1 m2 m3 HXS
              go_wp2_with fail
              go_roundg (7 - (k + 1))
              case measure => have := HKG.out; omega
              case rel => exact ⟨k + 1, by go_num, by omega, by omega, by omega, HOW3.out, HB3.out⟩
            · have z1 : (l.k == 1) = false := by simpa using hk1
              have z2 : (l.k == 2) = false := by simpa using hk2
              have esw : swp l = l := by unfold swp; rw [if_neg (by omega)]
              have HXS : Hid (SwX wo wz c (swp l) u8 (swpH (ls.take k))) := by show SwX _ _ _ _ _ _; rw [esw]; exact HZ.out
              clear HZ esw
              go_upto_region 16 with fail
              generalize wz = w6 at HXS ⊢
              clear l0 g0
              have m0 := HXS.out.box.cell 0
              have m1 := HXS.out.box.cell 1
              have m2 := HXS.out.box.cell 2
              have m3 := HXS.out.box.cell 3
              simp only [List.getElem?_toArray, List.getElem?_cons_zero, List.getElem?_cons_succ] at m0 m1 m2 m3
              obtain ⟨sl, hsl⟩ : ∃ sl, swp l = sl := ⟨_, rfl⟩
              rw [hsl] at HXS m0 m1 m2 m3
              have HSL := Lib.hid hsl
              clear hsl
              go_wp2_with (at_builtin; refine wpList_append_own _ rfl _ _ 22 rfl wo.heap.size 44 i0 (.agg #[.int .i64 0, .int .i64 0, .int .i64 0, .int .i64 0]) 4 32 Try.underlying22 hi hz0 hz1 hz2 rfl (by decide) _ (swpH (ls.take k)).length (handCells (swpH (ls.take k))) rfl (HXS.out.own.alloc _) ⟨w6.heap.size, 0, none⟩ 1 1 (lnCells sl) rfl rfl (lnCells_new w6 sl _) (lnCells_one _) ?cra ?crb ?crc ?_)
              case cra => have := HFL.out; unfold maxLen; omega
              case crb => have := HFL.out; omega
              case crc => exact Nat.le_trans HXS.out.bel.size (by simp)
              intro v' w3 hown hgrow _
              obtain ⟨hb3, hown3⟩ := HXS.out.grown hown hgrow rfl rfl
              rw [← HSL.out, ← HFT.out] at hown3
              have HB3 := Lib.hid hb3
              have HOW3 := Lib.hid hown3
              clear hown hgrow hb3 hown3 m0 m1 m2 m3 HXS
              go_wp2_with fail
              go_roundg (7 - (k + 1))
              case measure => have := HKG.out; omega
              case rel => exact ⟨k + 1, by go_num, by omega, by omega, by omega, HOW3.out, HB3.out⟩
        · obtain ⟨ux, um, uc, rfl⟩ := own_form HOW.out
          have HTK : Hid (ls.take k = ls.take 6) := by
            show _ = _
            by_cases e : k = 6
            · rw [e]
            · rw [List.take_of_length_le (show ls.length ≤ k by omega), List.take_of_length_le (show ls.length ≤ 6 by omega)]
          have HFL : Hid ((swpH (ls.take 6)).length ≤ 6) := by
            show _ ≤ _
            rw [swpH_len]; simp; omega
          have hho : HandAt wq (.slice ux um uc) (swpH (ls.take 6)) ∧ ∀ g, Value.ownBlock (.slice ux um uc) = some g → wo.heap.size ≤ g ∧ g < wq.heap.size := by
            rw [← HTK.out]
            exact hand_own HOW.out (by rw [HTK.out]; have := HFL.out; unfold maxLen; omega)
          have HHO := Lib.hid hho
          have HXQ := Lib.hid (HX.out.below HBL.out)
          have HSZ : Hid (wo.heap.size ≤ wq.heap.size) := HBL.out.size
          have HVO : Hid (∀ g, v.ownBlock = some g → g < wo.heap.size) := fun g e => (HX.out.ix.own.lt g e).2
          have HBO : Hid (Bq < wo.heap.size) := HX.out.ix.size
          obtain ⟨xa, xm, xc, rfl⟩ := own_form HXQ.out.ix.own
          have q1 : wq.cell? ⟨Bq, 1, none⟩ = some (.slice xa xm xc) := HXQ.out.ix.q.cell 1
          have HOWN : Hid (wq.ownsRow (Bq + 1) 22 1 (.slice xa xm xc) h cs) := by
            have := HXQ.out.ix.own
            rwa [show (swpP (p.take h)).length = h by simp [swpP]; omega] at this
          have HTS : Hid (swpP (p.take h) ++ [swpH (ls.take 6)] = swpP (p.take (h + 1))) := by
            show _ = _
            rw [take_snoc hhn, HLS.out]; simp [swpP]
          clear hho HOW HKG
          have HA : Hid (Below (Bq + 1) wq (wq.alloc (.cells #[.slice ux um uc] 22))) := (Below.refl _ _).alloc HXQ.out.ix.size _
          have HA2 : Hid (Bq + 1 ≤ (wq.alloc (.cells #[.slice ux um uc] 22)).heap.size) := Nat.le_trans HXQ.out.ix.size HA.out.size
          have HU : Hid (Value.oneCell' (.slice ux um uc) = true) := rfl
          have HNB : Hid (∀ w9 v' n cs', w9.ownsRow (Bq + 1) 22 1 v' n cs' → (wq.alloc (.cells #[.slice ux um uc] 22)).grownBy w9 (Value.ownBlock (.slice xa xm xc)) → (v'.ownBlock = Value.ownBlock (.slice xa xm xc) ∨ v'.ownBlock = some (wq.alloc (.cells #[.slice ux um uc] 22)).heap.size) → n = h + 1 → cs' = cs ++ [.slice ux um uc] → w9.cell? ⟨Bq, 1, none⟩ = some (.slice xa xm xc) ∧ w9.frozen? ⟨Bq, 1, none⟩ = false ∧ QX w words (.slice (some ⟨b, o, none⟩) p.length cap) Bq v' (cs ++ [.slice ux um uc]) (swpP (p.take (h + 1))) (w9.setCell ⟨Bq, 1, none⟩ v')) := by
            intro w9 v' n cs' hown hgrow hat hn hc
            have hb5 := HXQ.out.ix.since HA.out hgrow
            have hw9 := HXQ.out.ix.q.below hb5 (by omega)
            refine ⟨hw9.cell 1, hw9.free 1, ?_⟩
            have := HXQ.out.push HHO.out.1 (fun g e => ⟨fun e2 => by
                have := (HHO.out.2 g e).1
                have := HVO.out g e2
                omega, by have := (HHO.out.2 g e).1; have := HBO.out; omega, (HHO.out.2 g e).2⟩) hown hgrow hat (by rw [hn]; simp [swpP]; omega) hc
            rwa [HTS.out] at this
          clear HTS HHO HXQ HVO HBO
          by_cases hkn : (k : Int) < ls.length
          · have k6 : decide ((k : Int) < 6) = false := by simp; omega
            clear hgo
            go_wp2_with (at_builtin; refine wpList_append_own_at _ rfl _ _ 24 rfl (Bq + 1) 22 i1 (.slice none 0 0) 1 24 Try.underlying24 hi1 hy0 hy1 hy2 rfl (by decide) (.slice xa xm xc) h cs rfl (HOWN.out.alloc _) ⟨wq.heap.size, 0, none⟩ 1 1 [.slice ux um uc] rfl rfl ?e1 ?e2 ?e3 ?e4 ?e5 ?_)
            try (case e1 => exact fun j u h => news_cell wq _ _ j u h)
            case e2 => intro y hy; simp at hy; subst hy; exact HU.out
            case e3 => unfold maxLen; omega
            case e4 => omega
            case e5 => exact HA2.out
            intro v' w9 hown hgrow _ hat
            obtain ⟨x2, m2, c2', rfl⟩ := own_form hown
            obtain ⟨q2, f2, hX⟩ := HNB.out w9 _ _ _ hown hgrow (by simpa using hat) rfl rfl
            have HXN := Lib.hid hX
            clear hown hgrow hat hX
            go_wp2_with fail
            go_roundg (5 - (h + 1))
            case measure => have := HHG.out; omega
            case rel => exact ⟨h + 1, _, _, by go_num, by omega, by omega, by omega, HXN.out⟩
          · have hkn2 : decide ((k : Int) < ls.length) = false := by simpa using hkn
            clear hgo
            go_wp2_with (at_builtin; refine wpList_append_own_at _ rfl _ _ 24 rfl (Bq + 1) 22 i1 (.slice none 0 0) 1 24 Try.underlying24 hi1 hy0 hy1 hy2 rfl (by decide) (.slice xa xm xc) h cs rfl (HOWN.out.alloc _) ⟨wq.heap.size, 0, none⟩ 1 1 [.slice ux um uc] rfl rfl ?ff1 ?ff2 ?ff3 ?ff4 ?ff5 ?_)
            try (case ff1 => exact fun j u h => news_cell wq _ _ j u h)
            case ff2 => first | rfl | exact HU.out | (intro y hy; simp at hy; subst hy; exact HU.out)
            case ff3 => unfold maxLen; omega
            case ff4 => omega
            case ff5 => first | exact HA2.out | (have := HA2.out; simp at this; omega)
            intro v' w9 hown hgrow _ hat
            obtain ⟨x2, m2, c2', rfl⟩ := own_form hown
            obtain ⟨q2, f2, hX⟩ := HNB.out w9 _ _ _ hown hgrow (by simpa using hat) rfl rfl
            have HXN := Lib.hid hX
            clear hown hgrow hat hX
            go_wp2_with fail
            go_roundg (5 - (h + 1))
            case measure => have := HHG.out; omega
            case rel => exact ⟨h + 1, _, _, by go_num, by omega, by omega, by omega, HXN.out⟩
    · have hTF : p.take h = p.take 4 := take_four (by omega) (by omega)
      have hX := HX.out
      rw [hTF] at hX
      obtain ⟨xa, xm, xc, rfl⟩ := own_form hX.ix.own
      have HIX := Lib.hid hX.ix
      have HIP := Lib.hid (hX.prog (by simp [swpP, maxLen]; omega))
      have q0 : wo.cell? ⟨Bq, 0, none⟩ = some (.int .i64 words) := HIX.out.q.cell 0
      have q1 : wo.cell? ⟨Bq, 1, none⟩ = some (.slice xa xm xc) := HIX.out.q.cell 1
      clear hTF hX HX
      by_cases hhn : (h : Int) < p.length
      · have h4 : decide ((h : Int) < 4) = false := by simp; omega
        clear hgo
        go_wp2_with fail
        refine (Sc.races_any HIP.out).mono ?_
        rintro e w5 ⟨hT0, hb5⟩
        replace HIX := Lib.hid (HIX.out.below hb5)
        replace HIP := Lib.hid (HIP.out.below hb5)
        clear hb5 q0 q1
        have q0 : w5.cell? ⟨Bq, 0, none⟩ = some (.int .i64 words) := HIX.out.q.cell 0
        have q1 : w5.cell? ⟨Bq, 1, none⟩ = some (.slice xa xm xc) := HIX.out.q.cell 1
        by_cases hc : check words (swpP (p.take 4)) = 0
        · have hq := swp_quiet (fine_of hc)
          obtain rfl := races_good hT0 hc (r := false) (by simp [hq])
          have HCK := Lib.hid hc
          have HQ := Lib.hid hq
          clear hT0 hc hq
          go_wp2_with fail
          refine (Sc.results_any HIP.out).mono ?_
          rintro e w6 ⟨hT1, hb6⟩
          replace HIX := Lib.hid (HIX.out.below hb6)
          replace HIP := Lib.hid (HIP.out.below hb6)
          clear hb6 q0 q1
          have q0 : w6.cell? ⟨Bq, 0, none⟩ = some (.int .i64 words) := HIX.out.q.cell 0
          have q1 : w6.cell? ⟨Bq, 1, none⟩ = some (.slice xa xm xc) := HIX.out.q.cell 1
          obtain ⟨ar, cr, R, rfl, hM, hR, hlen⟩ := sc_good hT1 HCK.out
          have HM := Lib.hid hM
          have HR := Lib.hid hR
          clear hT1 hM hR
          go_wp2_with fail
          refine (results_any HIP.out).mono ?_
          rintro e w7 ⟨hT2, hb7⟩
          replace HIX := Lib.hid (HIX.out.below hb7)
          replace HM := Lib.hid (HM.out.below hb7)
          obtain ⟨as2, cs2, S, rfl, hM2, hS, hlen2⟩ := ts_good hT2 HCK.out
          have HM2 := Lib.hid hM2
          have HD : Hid (decide (R = S) = true) := by
            show _ = _
            simpa using res_quiet (fine_of HCK.out) HQ.out HR.out hS
          clear hT2 hM2 hS hb7 q0 q1
          go_wp2_with fail
          refine (rows_any HM.out HM2.out).mono ?_
          rintro e w8 ⟨rfl, m, rfl⟩
          rw [HD.out]
          go_wp2_with fail
          go_ret
          exact ⟨rfl, Below.todrewN HIX.out.bel m⟩
        · obtain rfl := races_bad hT0 hc
          have HCK := Lib.hid hc
          clear hc hT0
          go_wp2_with fail
          refine (Sc.results_any HIP.out).mono ?_
          rintro e w6 ⟨hT1, hb6⟩
          replace HIX := Lib.hid (HIX.out.below hb6)
          replace HIP := Lib.hid (HIP.out.below hb6)
          clear hb6 q0 q1
          have q0 : w6.cell? ⟨Bq, 0, none⟩ = some (.int .i64 words) := HIX.out.q.cell 0
          have q1 : w6.cell? ⟨Bq, 1, none⟩ = some (.slice xa xm xc) := HIX.out.q.cell 1
          obtain rfl := sc_bad hT1 HCK.out
          clear hT1
          go_wp2_with fail
          refine (results_any HIP.out).mono ?_
          rintro e w7 ⟨hT2, hb7⟩
          replace HIX := Lib.hid (HIX.out.below hb7)
          obtain rfl := ts_bad hT2 HCK.out
          clear hT2 hb7 q0 q1
          go_wp2_with fail
          go_ret
          exact ⟨rfl, HIX.out.bel⟩
      · have h4 : decide ((h : Int) < p.length) = false := by simpa using hhn
        clear hgo
        go_wp2_with fail
        refine (Sc.races_any HIP.out).mono ?_
        rintro e w5 ⟨hT0, hb5⟩
        replace HIX := Lib.hid (HIX.out.below hb5)
        replace HIP := Lib.hid (HIP.out.below hb5)
        clear hb5 q0 q1
        have q0 : w5.cell? ⟨Bq, 0, none⟩ = some (.int .i64 words) := HIX.out.q.cell 0
        have q1 : w5.cell? ⟨Bq, 1, none⟩ = some (.slice xa xm xc) := HIX.out.q.cell 1
        by_cases hc : check words (swpP (p.take 4)) = 0
        · have hq := swp_quiet (fine_of hc)
          obtain rfl := races_good hT0 hc (r := false) (by simp [hq])
          have HCK := Lib.hid hc
          have HQ := Lib.hid hq
          clear hT0 hc hq
          go_wp2_with fail
          refine (Sc.results_any HIP.out).mono ?_
          rintro e w6 ⟨hT1, hb6⟩
          replace HIX := Lib.hid (HIX.out.below hb6)
          replace HIP := Lib.hid (HIP.out.below hb6)
          clear hb6 q0 q1
          have q0 : w6.cell? ⟨Bq, 0, none⟩ = some (.int .i64 words) := HIX.out.q.cell 0
          have q1 : w6.cell? ⟨Bq, 1, none⟩ = some (.slice xa xm xc) := HIX.out.q.cell 1
          obtain ⟨ar, cr, R, rfl, hM, hR, hlen⟩ := sc_good hT1 HCK.out
          have HM := Lib.hid hM
          have HR := Lib.hid hR
          clear hT1 hM hR
          go_wp2_with fail
          refine (results_any HIP.out).mono ?_
          rintro e w7 ⟨hT2, hb7⟩
          replace HIX := Lib.hid (HIX.out.below hb7)
          replace HM := Lib.hid (HM.out.below hb7)
          obtain ⟨as2, cs2, S, rfl, hM2, hS, hlen2⟩ := ts_good hT2 HCK.out
          have HM2 := Lib.hid hM2
          have HD : Hid (decide (R = S) = true) := by
            show _ = _
            simpa using res_quiet (fine_of HCK.out) HQ.out HR.out hS
          clear hT2 hM2 hS hb7 q0 q1
          go_wp2_with fail
          refine (rows_any HM.out HM2.out).mono ?_
          rintro e w8 ⟨rfl, m, rfl⟩
          rw [HD.out]
          go_wp2_with fail
          go_ret
          exact ⟨rfl, Below.todrewN HIX.out.bel m⟩
        · obtain rfl := races_bad hT0 hc
          have HCK := Lib.hid hc
          clear hc hT0
          go_wp2_with fail
          refine (Sc.results_any HIP.out).mono ?_
          rintro e w6 ⟨hT1, hb6⟩
          replace HIX := Lib.hid (HIX.out.below hb6)
          replace HIP := Lib.hid (HIP.out.below hb6)
          clear hb6 q0 q1
          have q0 : w6.cell? ⟨Bq, 0, none⟩ = some (.int .i64 words) := HIX.out.q.cell 0
          have q1 : w6.cell? ⟨Bq, 1, none⟩ = some (.slice xa xm xc) := HIX.out.q.cell 1
          obtain rfl := sc_bad hT1 HCK.out
          clear hT1
          go_wp2_with fail
          refine (results_any HIP.out).mono ?_
          rintro e w7 ⟨hT2, hb7⟩
          replace HIX := Lib.hid (HIX.out.below hb7)
          obtain rfl := ts_bad hT2 HCK.out
          clear hT2 hb7 q0 q1
          go_wp2_with fail
          go_ret
          exact ⟨rfl, HIX.out.bel⟩
end Go.Proofs.Ytimbdjmplcgilaa.Tso
