import Derived.Test.YtimbdjmplcgilaaTsQ
namespace Go.Proofs.Ytimbdjmplcgilaa.Tso
open Go.RowKit Pr SortFn
set_option linter.unusedVariables false

/-! A fence behind each line that stores. -/
def fen1 (l : Ln) : List Ln := if l.k = 2 then [l, ⟨4, 0, 0, 0⟩] else [l]
def fen (ls : List Ln) : List Ln := ls.flatMap fen1
def fenP (p : List (List Ln)) : List (List Ln) := p.map (fun ls => fen (ls.take 6))
theorem fen_len : ∀ ls : List Ln, (fen ls).length ≤ 2 * ls.length
  | [] => by simp [fen]
  | a :: r => by
    have := fen_len r
    have e : fen (a :: r) = fen1 a ++ fen r := by simp [fen]
    rw [e]
    have : (fen1 a).length ≤ 2 := by unfold fen1; split <;> simp
    simp only [List.length_append, List.length_cons]; omega
theorem fen_take {ls : List Ln} {k : Nat} (h : k < ls.length) : fen (ls.take (k + 1)) = fen (ls.take k) ++ fen1 (ls.getD k Ln.zero) := by
  rw [List.take_add_one, List.getElem?_eq_getElem h]
  simp only [fen, Option.toList_some, List.flatMap_append, List.flatMap_cons, List.flatMap_nil, List.append_nil, List.getD_eq_getElem?_getD, List.getElem?_eq_getElem h, Option.getD_some]
theorem fen1_store {l : Ln} (h : l.k = 2) : fen1 l = [l] ++ [⟨4, 0, 0, 0⟩] := by unfold fen1; rw [if_pos h]; rfl
theorem fen1_other {l : Ln} (h : l.k ≠ 2) : fen1 l = [l] := by unfold fen1; rw [if_neg h]
def NoL (ls : List Ln) : Prop := ∀ l ∈ ls, l.k ≠ 5
theorem NoL.snoc {ls : List Ln} {k : Nat} (h : NoL (ls.take k)) (hk : k < ls.length) (h5 : (ls.getD k Ln.zero).k ≠ 5) : NoL (ls.take (k + 1)) := by
  rw [List.take_add_one, List.getElem?_eq_getElem hk]
  intro l hl
  rcases List.mem_append.1 hl with hl | hl
  · exact h l hl
  · simp at hl
    subst hl
    simpa [List.getD_eq_getElem?_getD, hk] using h5
theorem fen_no5 : ∀ {ls : List Ln}, NoL ls → NoL (fen ls) := by
  intro ls h l hl
  obtain ⟨a, ha, hx⟩ := List.mem_flatMap.1 hl
  unfold fen1 at hx
  split at hx
  · simp at hx
    rcases hx with rfl | rfl
    · exact h _ ha
    · simp
  · simp at hx
    subst hx; exact h _ ha
theorem fen_fence : ∀ (ls : List Ln) (i : Nat), i < (fen ls).length → ((fen ls).getD i Ln.zero).k = 2 → i + 1 < (fen ls).length ∧ ((fen ls).getD (i + 1) Ln.zero).k = 4
  | [], i, h, _ => by simp [fen] at h
  | a :: r, i, h, h2 => by
    have e : fen (a :: r) = fen1 a ++ fen r := by simp [fen]
    rw [e] at h h2 ⊢
    by_cases ha : a.k = 2
    · have e1 : fen1 a = [a, ⟨4, 0, 0, 0⟩] := by unfold fen1; rw [if_pos ha]
      rw [e1] at h h2 ⊢
      match i with
      | 0 => simp
      | 1 => simp at h2
      | i + 2 =>
        have := fen_fence r i (by simpa using h) (by simpa using h2)
        refine ⟨?_, by simpa using this.2⟩
        have := this.1
        simp; omega
    · have e1 : fen1 a = [a] := fen1_other ha
      rw [e1] at h h2 ⊢
      match i with
      | 0 => simp at h2; exact absurd h2 ha
      | i + 1 =>
        have := fen_fence r i (by simpa using h) (by simpa using h2)
        refine ⟨?_, by simpa using this.2⟩
        have := this.1
        simp; omega
theorem fenP_fen {p : List (List Ln)} (h : ∀ ls ∈ p, NoL (ls.take 6)) : Fen (fenP p) := by
  have e : ∀ k, k < (fenP p).length → ∃ ls ∈ p, lines (fenP p) k = fen (ls.take 6) := by
    intro k hk
    have hk' : k < p.length := by simpa [fenP] using hk
    exact ⟨p[k], List.getElem_mem hk', by simp [lines, fenP, List.getD_eq_getElem?_getD, hk']⟩
  refine ⟨fun k hk i hi => ?_, fun k hk i hi h2 => ?_⟩
  · obtain ⟨ls, hls, e1⟩ := e k hk
    rw [e1] at hi ⊢
    refine fen_no5 (h ls hls) _ ?_
    rw [List.getD_eq_getElem?_getD, List.getElem?_eq_getElem hi]
    exact List.getElem_mem hi
  · obtain ⟨ls, hls, e1⟩ := e k hk
    rw [e1] at hi h2 ⊢
    exact fen_fence _ i hi h2
theorem handCells_append (a b : List Ln) : handCells (a ++ b) = handCells a ++ handCells b := by simp [handCells]
theorem handCells_one (l : Ln) : handCells [l] = lnCells l := by simp [handCells]
theorem handCells_two (l m : Ln) : handCells [l, m] = lnCells l ++ lnCells m := by simp [handCells]
theorem lnCells_one (l : Ln) : ∀ u ∈ lnCells l, u.oneCell' = true := by
  intro u hu; simp [lnCells] at hu; rcases hu with rfl | rfl | rfl | rfl <;> rfl
theorem lnCells_new (w : World) (l : Ln) (T : TypeId) : ∀ j u, (lnCells l)[j]? = some u → (w.alloc (.cells #[.int .i64 l.k, .int .i64 l.r, .int .i64 l.w, .int .i64 l.v] T)).cell? (Addr.add ⟨w.heap.size, 0, none⟩ j) = some u := by
  intro j u hu
  exact news_cell w (lnCells l) T j u hu
theorem take_four {p : List (List Ln)} {h : Nat} (hp : h = p.length ∨ h = 4) (h4 : h ≤ 4) : p.take h = p.take 4 := by
  rcases hp with e | e
  · rw [e, List.take_length, List.take_of_length_le (by omega)]
  · rw [e]
theorem take_snoc {p : List (List Ln)} {h : Nat} (hh : h < p.length) : p.take (h + 1) = p.take h ++ [lines p h] := by
  rw [List.take_add_one, List.getElem?_eq_getElem hh]
  simp [lines, List.getD_eq_getElem?_getD, hh]

set_option maxHeartbeats 8000000 in
set_option maxRecDepth 100000 in
theorem law_fenced {w : World} {words : Int} {u : Value} {p : List (List Ln)} (hp : IsProg w u p) :
    Calls Try.prog 9 #[.agg #[.int .i64 words, u]] w fun e w' => e = .returned (.bool true) ∧ Below w.heap.size w w' := by
  have HP := Lib.hid hp
  have HC := Lib.hid (cbox w words u)
  obtain ⟨a, cap, rfl, hl, hjj⟩ := hp
  unfold maxLen at hl
  have HJJ := Lib.hid hjj
  clear hjj
  obtain ⟨i0, hi, hz0, hz1, hz2⟩ := info_parts infoLine
  obtain ⟨i1, hi1, hy0, hy1, hy2⟩ := info_parts infoHand
  go_enter Try.func9, Try.ntmps9
  go_upto_region 1 with fail
  generalize w.alloc (.cells #[.int .i64 words, .slice a p.length cap] 26) = wx at HC ⊢
  go_wp2_with fail
  refine tsoFact_any.mono ?_
  rintro e w1 ⟨rfl, hb1⟩
  replace HC := Lib.hid (HC.out.below hb1)
  clear hb1
  have b0 : w1.cell? ⟨w.heap.size, 0, none⟩ = some (.int .i64 words) := HC.out.box.cell 0
  have b1 : w1.cell? ⟨w.heap.size, 1, none⟩ = some (.slice a p.length cap) := HC.out.box.cell 1
  go_wp2_with fail
  have hBq : w.heap.size < w1.heap.size := by have := HC.out.size; omega
  have HX : Hid (QX w words (.slice a p.length cap) w1.heap.size (.slice none 0 0) [] (fenP (p.take 0)) (w1.alloc (.cells #[.int .i64 words, .slice none 0 0] 26))) :=
    ⟨⟨(HC.out.alloc _).bel, hBq, by simp, (HC.out.alloc _).box, Blk.new _ _ _, World.ownsRow_nil _ _ _ _⟩, rfl, fun j x hx => by simp at hx⟩
  clear HC b0 b1
  generalize w1.alloc (.cells #[.int .i64 words, .slice none 0 0] 26) = w2 at HX ⊢
  generalize w1.heap.size = Bq at HX hBq ⊢
  go_loopg [5] 5 (fun gg s5 wr => ∃ (h : Nat) (v : Value) (cs : List Value), s5 = .int .i64 h ∧ h + gg = 5 ∧ h ≤ 4 ∧ h ≤ p.length ∧ QX w words (.slice a p.length cap) Bq v cs (fenP (p.take h)) wr ∧ ∀ ls ∈ p.take h, NoL (ls.take 6))
  case atStart => exact ⟨0, _, _, rfl, rfl, by omega, by omega, HX.out, by simp⟩
  case round =>
    clear HX
    obtain ⟨h, v, cs, rfl, hhg, hh4, hhp, hX, hnl⟩ := hrel
    have HX := Lib.hid hX
    have HNL := Lib.hid hnl
    have HHG := Lib.hid hhg
    clear hX hnl hhg
    rename World => wo
    have b1 : wo.cell? ⟨w.heap.size, 1, none⟩ = some (.slice a p.length cap) := HX.out.ix.box.cell 1
    by_cases hgo : h < p.length ∧ h < 4
    · obtain ⟨hhn, h4⟩ := hgo
      have hhI : (h : Int) < p.length := by omega
      have h4I : (h : Int) < 4 := by omega
      obtain ⟨b, o, rfl, hbl, x, hx, a2, c2, rfl, hl2, hj2⟩ := HJJ.out h hhn
      obtain ⟨ls, hls⟩ : ∃ ls, lines p h = ls := ⟨_, rfl⟩
      rw [hls] at hx hl2 hj2
      have HLS := Lib.hid hls
      have HJ2 := Lib.hid hj2
      have HFA : Hid (∀ wq, Below wo.heap.size wo wq → wq.cell? ⟨w.heap.size, 1, none⟩ = some (.slice (some ⟨b, o, none⟩) p.length cap) ∧ wq.cell? ⟨b, o + h, none⟩ = some (.slice a2 ls.length c2) ∧ Below w.heap.size w wq) := fun wq k => by
        have hq := HX.out.ix.below k
        exact ⟨hq.box.cell 1, by rw [hq.bel.cell (p := ⟨b, o + h, none⟩) hbl]; exact hx, hq.bel⟩
      unfold maxLen at hl2
      clear hls hj2 b1 hx
      have b1 : wo.cell? ⟨w.heap.size, 1, none⟩ = some (.slice (some ⟨b, o, none⟩) p.length cap) := (HFA.out wo (Below.refl _ _)).1
      go_wp2_with fail
      go_loopg [6, 7] 7 (fun gg s6 s7 wq => ∃ k : Nat, s7 = .int .i64 k ∧ k + gg = 7 ∧ k ≤ 6 ∧ k ≤ ls.length ∧ wq.ownsRow wo.heap.size 44 4 s6 (fen (ls.take k)).length (handCells (fen (ls.take k))) ∧ Below wo.heap.size wo wq ∧ NoL (ls.take k))
      case atStart => exact ⟨0, rfl, rfl, by omega, by omega, by simpa [fen, handCells] using World.ownsRow_nil wo wo.heap.size 44 4, Below.refl _ _, by simp [NoL]⟩
      case round =>
        clear b1
        obtain ⟨k, rfl, hkg, hk6, hkl, hown, hbel, hnk⟩ := hrel
        have HKG := Lib.hid hkg
        have HOW := Lib.hid hown
        have HBL := Lib.hid hbel
        have HNK := Lib.hid hnk
        clear hkg hown hbel hnk
        rename World => wq
        have b1 := (HFA.out _ HBL.out).1
        have b2 := (HFA.out _ HBL.out).2.1
        by_cases hgo : k < ls.length ∧ k < 6
        · obtain ⟨hkn, k6⟩ := hgo
          have hkI : (k : Int) < ls.length := by omega
          have k6I : (k : Int) < 6 := by omega
          obtain ⟨b2', o2, rfl, hbl2, hln⟩ := HJ2.out k hkn
          obtain ⟨l, hlk⟩ : ∃ l, ls.getD k Ln.zero = l := ⟨_, rfl⟩
          rw [hlk] at hln
          have HLK := Lib.hid hlk
          have HLN : Hid (∀ wq, Below wo.heap.size wo wq → LnAt wq b2' (o2 + k * 4) l) := fun wq k => (hln.below hbl2 ((HX.out.ix.below k).bel))
          obtain ⟨l0, l1, l2, l3⟩ := HLN.out _ HBL.out
          clear hlk hln
          by_cases k5 : l.k = 5
          · rw [k5] at l0
            go_wp2_with fail
            go_ret
            exact ⟨rfl, (HFA.out _ HBL.out).2.2⟩
          · have z5 : (l.k == 5) = false := by simpa using k5
            have HNK1 : Hid (NoL (ls.take (k + 1))) := HNK.out.snoc hkn (by rw [HLK.out]; exact k5)
            have HFT : Hid (fen (ls.take (k + 1)) = fen (ls.take k) ++ fen1 l) := by show _ = _; rw [fen_take hkn, HLK.out]
            have HFL : Hid ((fen (ls.take k)).length ≤ 12) := by
              have := fen_len (ls.take k)
              simp at this
              show _ ≤ _; omega
            have HSZ : Hid (wo.heap.size ≤ wq.heap.size) := HBL.out.size
            clear k5
            go_wp2_with (at_builtin; refine wpList_append_own _ rfl _ _ 22 rfl wo.heap.size 44 i0 (.agg #[.int .i64 0, .int .i64 0, .int .i64 0, .int .i64 0]) 4 32 Try.underlying22 hi hz0 hz1 hz2 rfl (by decide) _ (fen (ls.take k)).length (handCells (fen (ls.take k))) rfl (HOW.out.alloc _) ⟨wq.heap.size, 0, none⟩ 1 1 (lnCells l) rfl rfl (lnCells_new wq l _) (lnCells_one l) ?c1 ?c2 ?c3 ?_)
            case c1 => have := HFL.out; unfold maxLen; omega
            case c2 => have := HFL.out; omega
            case c3 => exact Nat.le_trans HSZ.out (by simp)
            intro v' w3 hown hgrow _
            have hb3 := HBL.out.trans ((((Below.refl wq.heap.size wq).alloc (Nat.le_refl _) (.cells #[.int .i64 l.k, .int .i64 l.r, .int .i64 l.w, .int .i64 l.v] 44)).mono HBL.out.size).grown hgrow (Nat.le_trans HSZ.out (by simp)) (own_base HOW.out))
            have HB3 := Lib.hid hb3
            have HOW3 : Hid (w3.ownsRow wo.heap.size 44 4 v' ((fen (ls.take k)).length + 1) (handCells (fen (ls.take k)) ++ lnCells l)) := hown
            clear hown hgrow b1 b2 hb3 l0 l1 l2 l3
            have b1 := (HFA.out _ HB3.out).1
            have b2 := (HFA.out _ HB3.out).2.1
            obtain ⟨l0, l1, l2, l3⟩ := HLN.out _ HB3.out
            clear l1 l2 l3
            by_cases k2 : l.k = 2
            · rw [k2] at l0
              have HF1 : Hid (fen1 l = [l] ++ [⟨4, 0, 0, 0⟩]) := fen1_store k2
              have HSZ3 : Hid (wo.heap.size ≤ w3.heap.size) := HB3.out.size
              clear k2 z5
              go_wp2_with (at_builtin; refine wpList_append_own _ rfl _ _ 22 rfl wo.heap.size 44 i0 (.agg #[.int .i64 0, .int .i64 0, .int .i64 0, .int .i64 0]) 4 32 Try.underlying22 hi hz0 hz1 hz2 rfl (by decide) _ ((fen (ls.take k)).length + 1) (handCells (fen (ls.take k)) ++ lnCells l) rfl (HOW3.out.alloc _) ⟨w3.heap.size, 0, none⟩ 1 1 (lnCells ⟨4, 0, 0, 0⟩) rfl rfl (lnCells_new w3 ⟨4, 0, 0, 0⟩ _) (lnCells_one _) ?d1 ?d2 ?d3 ?_)
              case d1 => have := HFL.out; unfold maxLen; omega
              case d2 => have := HFL.out; omega
              case d3 => exact Nat.le_trans HSZ3.out (by simp)
              intro v2 w4 hown hgrow _
              have hb4 := HB3.out.trans ((((Below.refl w3.heap.size w3).alloc (Nat.le_refl _) (.cells #[.int .i64 4, .int .i64 0, .int .i64 0, .int .i64 0] 44)).mono HB3.out.size).grown hgrow (Nat.le_trans HSZ3.out (by simp)) (own_base HOW3.out))
              have HB4 := Lib.hid hb4
              have HOW4 : Hid (w4.ownsRow wo.heap.size 44 4 v2 (fen (ls.take (k + 1))).length (handCells (fen (ls.take (k + 1))))) := by
                show World.ownsRow _ _ _ _ _ _ _
                rw [HFT.out, HF1.out]
                simpa [handCells_append, handCells_one, handCells_two, List.append_assoc, Nat.add_assoc] using hown
              clear hown hgrow b1 b2 hb4 l0
              go_wp2_with fail
              go_roundg (7 - (k + 1))
              case measure => have := HKG.out; omega
              case rel => exact ⟨k + 1, by go_num, by omega, by omega, by omega, HOW4.out, HB4.out, HNK1.out⟩
            · have z2 : (l.k == 2) = false := by simpa using k2
              have HOW4 : Hid (w3.ownsRow wo.heap.size 44 4 v' (fen (ls.take (k + 1))).length (handCells (fen (ls.take (k + 1))))) := by
                show World.ownsRow _ _ _ _ _ _ _
                rw [HFT.out, fen1_other k2]
                simpa [handCells_append, handCells_one] using HOW3.out
              clear k2 HOW3 z5
              go_wp2_with fail
              go_roundg (7 - (k + 1))
              case measure => have := HKG.out; omega
              case rel => exact ⟨k + 1, by go_num, by omega, by omega, by omega, HOW4.out, HB3.out, HNK1.out⟩
        · obtain ⟨ux, um, uc, rfl⟩ := own_form HOW.out
          have HTK : Hid (ls.take k = ls.take 6) := by
            show _ = _
            by_cases e : k = 6
            · rw [e]
            · rw [List.take_of_length_le (show ls.length ≤ k by omega), List.take_of_length_le (show ls.length ≤ 6 by omega)]
          have HNO : Hid (NoL (ls.take 6)) := HTK.out ▸ HNK.out
          have HFL : Hid ((fen (ls.take 6)).length ≤ 12) := by
            have := fen_len (ls.take 6)
            simp at this
            show _ ≤ _; omega
          have hho : HandAt wq (.slice ux um uc) (fen (ls.take 6)) ∧ ∀ g, Value.ownBlock (.slice ux um uc) = some g → wo.heap.size ≤ g ∧ g < wq.heap.size := by
            rw [← HTK.out]
            exact hand_own HOW.out (by rw [HTK.out]; have := HFL.out; unfold maxLen; omega)
          have HHO := Lib.hid hho
          have HXQ := Lib.hid (HX.out.below HBL.out)
          have HSZ : Hid (wo.heap.size ≤ wq.heap.size) := HBL.out.size
          have HVO : Hid (∀ g, v.ownBlock = some g → g < wo.heap.size) := fun g e => (HX.out.ix.own.lt g e).2
          have HBO : Hid (Bq < wo.heap.size) := HX.out.ix.size
          obtain ⟨xa, xm, xc, rfl⟩ := own_form HXQ.out.ix.own
          have q1 : wq.cell? ⟨Bq, 1, none⟩ = some (.slice xa xm xc) := HXQ.out.ix.q.cell 1
          have HOWN : Hid (wq.ownsRow (Bq + 1) 22 1 (.slice xa xm xc) h cs) := by
            have := HXQ.out.ix.own
            rwa [show (fenP (p.take h)).length = h by simp [fenP]; omega] at this
          have HTS : Hid (fenP (p.take h) ++ [fen (ls.take 6)] = fenP (p.take (h + 1))) := by
            show _ = _
            rw [take_snoc hhn, HLS.out]; simp [fenP]
          have HNL2 : Hid (∀ ls ∈ p.take (h + 1), NoL (ls.take 6)) := by
            intro l hl
            rw [take_snoc hhn] at hl
            rcases List.mem_append.1 hl with hl | hl
            · exact HNL.out l hl
            · simp at hl; subst hl; rw [HLS.out]; exact HNO.out
          clear hho HNK HOW HKG
          have HA : Hid (Below (Bq + 1) wq (wq.alloc (.cells #[.slice ux um uc] 22))) := (Below.refl _ _).alloc HXQ.out.ix.size _
          have HA2 : Hid (Bq + 1 ≤ (wq.alloc (.cells #[.slice ux um uc] 22)).heap.size) := Nat.le_trans HXQ.out.ix.size HA.out.size
          have HU : Hid (Value.oneCell' (.slice ux um uc) = true) := rfl
          have HNB : Hid (∀ w5 v' n cs', w5.ownsRow (Bq + 1) 22 1 v' n cs' → (wq.alloc (.cells #[.slice ux um uc] 22)).grownBy w5 (Value.ownBlock (.slice xa xm xc)) → (v'.ownBlock = Value.ownBlock (.slice xa xm xc) ∨ v'.ownBlock = some (wq.alloc (.cells #[.slice ux um uc] 22)).heap.size) → n = h + 1 → cs' = cs ++ [.slice ux um uc] → w5.cell? ⟨Bq, 1, none⟩ = some (.slice xa xm xc) ∧ w5.frozen? ⟨Bq, 1, none⟩ = false ∧ QX w words (.slice (some ⟨b, o, none⟩) p.length cap) Bq v' (cs ++ [.slice ux um uc]) (fenP (p.take (h + 1))) (w5.setCell ⟨Bq, 1, none⟩ v')) := by
            intro w5 v' n cs' hown hgrow hat hn hc
            have hb5 := HXQ.out.ix.since HA.out hgrow
            have hw5 := HXQ.out.ix.q.below hb5 (by omega)
            refine ⟨hw5.cell 1, hw5.free 1, ?_⟩
            have := HXQ.out.push HHO.out.1 (fun g e => ⟨fun e2 => by
                have := (HHO.out.2 g e).1
                have := HVO.out g e2
                omega, by have := (HHO.out.2 g e).1; have := HBO.out; omega, (HHO.out.2 g e).2⟩) hown hgrow hat (by rw [hn]; simp [fenP]; omega) hc
            rwa [HTS.out] at this
          clear HTS HHO HXQ HVO HBO
          by_cases hkn : (k : Int) < ls.length
          · have k6 : decide ((k : Int) < 6) = false := by simp; omega
            clear hgo
            go_wp2_with (at_builtin; refine wpList_append_own_at _ rfl _ _ 24 rfl (Bq + 1) 22 i1 (.slice none 0 0) 1 24 Try.underlying24 hi1 hy0 hy1 hy2 rfl (by decide) (.slice xa xm xc) h cs rfl (HOWN.out.alloc _) ⟨wq.heap.size, 0, none⟩ 1 1 [.slice ux um uc] rfl rfl ?e1 ?e2 ?e3 ?e4 ?e5 ?_)
            try (case e1 => exact fun j u h => news_cell wq _ _ j u h)
            case e2 => intro y hy; simp at hy; subst hy; exact HU.out
            case e3 => unfold maxLen; omega
            case e4 => omega
            case e5 => exact HA2.out
            intro v' w5 hown hgrow _ hat
            obtain ⟨x2, m2, c2', rfl⟩ := own_form hown
            obtain ⟨q2, f2, hX⟩ := HNB.out w5 _ _ _ hown hgrow (by simpa using hat) rfl rfl
            have HXN := Lib.hid hX
            clear hown hgrow hat hX
            go_wp2_with fail
            go_roundg (5 - (h + 1))
            case measure => have := HHG.out; omega
            case rel => exact ⟨h + 1, _, _, by go_num, by omega, by omega, by omega, HXN.out, HNL2.out⟩
          · have hkn2 : decide ((k : Int) < ls.length) = false := by simpa using hkn
            clear hgo
            go_wp2_with (at_builtin; refine wpList_append_own_at _ rfl _ _ 24 rfl (Bq + 1) 22 i1 (.slice none 0 0) 1 24 Try.underlying24 hi1 hy0 hy1 hy2 rfl (by decide) (.slice xa xm xc) h cs rfl (HOWN.out.alloc _) ⟨wq.heap.size, 0, none⟩ 1 1 [.slice ux um uc] rfl rfl ?ff1 ?ff2 ?ff3 ?ff4 ?ff5 ?_)
            try (case ff1 => exact fun j u h => news_cell wq _ _ j u h)
            case ff2 => first | rfl | exact HU.out | (intro y hy; simp at hy; subst hy; exact HU.out)
            case ff3 => unfold maxLen; omega
            case ff4 => omega
            case ff5 => first | exact HA2.out | (have := HA2.out; simp at this; omega)
            intro v' w5 hown hgrow _ hat
            obtain ⟨x2, m2, c2', rfl⟩ := own_form hown
            obtain ⟨q2, f2, hX⟩ := HNB.out w5 _ _ _ hown hgrow (by simpa using hat) rfl rfl
            have HXN := Lib.hid hX
            clear hown hgrow hat hX
            go_wp2_with fail
            go_roundg (5 - (h + 1))
            case measure => have := HHG.out; omega
            case rel => exact ⟨h + 1, _, _, by go_num, by omega, by omega, by omega, HXN.out, HNL2.out⟩
    · have hTF : p.take h = p.take 4 := take_four (by omega) (by omega)
      have HFN : Hid (Fen (fenP (p.take 4))) := fenP_fen (by rw [← hTF]; exact HNL.out)
      have hX := HX.out
      rw [hTF] at hX
      obtain ⟨xa, xm, xc, rfl⟩ := own_form hX.ix.own
      have HIX := Lib.hid hX.ix
      have HIP := Lib.hid (hX.prog (by simp [fenP, maxLen]; omega))
      have q0 : wo.cell? ⟨Bq, 0, none⟩ = some (.int .i64 words) := HIX.out.q.cell 0
      have q1 : wo.cell? ⟨Bq, 1, none⟩ = some (.slice xa xm xc) := HIX.out.q.cell 1
      clear hTF hX HNL HX
      by_cases hhn : (h : Int) < p.length
      · have h4 : decide ((h : Int) < 4) = false := by simp; omega
        clear hgo
        go_wp2_with fail
        refine (Sc.results_any HIP.out).mono ?_
        rintro e w5 ⟨hT1, hb5⟩
        replace HIX := Lib.hid (HIX.out.below hb5)
        replace HIP := Lib.hid (HIP.out.below hb5)
        clear hb5 q0 q1
        have q0 : w5.cell? ⟨Bq, 0, none⟩ = some (.int .i64 words) := HIX.out.q.cell 0
        have q1 : w5.cell? ⟨Bq, 1, none⟩ = some (.slice xa xm xc) := HIX.out.q.cell 1
        by_cases hc : check words (fenP (p.take 4)) = 0
        · obtain ⟨ar, cr, R, rfl, hM, hR, hlen⟩ := sc_good hT1 hc
          have HCK := Lib.hid hc
          have HM := Lib.hid hM
          have HR := Lib.hid hR
          clear hc hT1 hM hR
          go_wp2_with fail
          refine (results_any HIP.out).mono ?_
          rintro e w6 ⟨hT2, hb6⟩
          replace HIX := Lib.hid (HIX.out.below hb6)
          replace HM := Lib.hid (HM.out.below hb6)
          obtain ⟨as2, cs2, S, rfl, hM2, hS, hlen2⟩ := ts_good hT2 HCK.out
          have HM2 := Lib.hid hM2
          have HD : Hid (decide (R = S) = true) := by
            show _ = _
            simpa using res_fenced (fine_of HCK.out) HFN.out HR.out hS
          clear hT2 hM2 hS hb6 q0 q1
          go_wp2_with fail
          refine (rows_any HM.out HM2.out).mono ?_
          rintro e w7 ⟨rfl, m, rfl⟩
          rw [HD.out]
          go_wp2_with fail
          go_ret
          exact ⟨rfl, Below.todrewN HIX.out.bel m⟩
        · obtain rfl := sc_bad hT1 hc
          have HCK := Lib.hid hc
          clear hc hT1
          go_wp2_with fail
          refine (results_any HIP.out).mono ?_
          rintro e w6 ⟨hT2, hb6⟩
          replace HIX := Lib.hid (HIX.out.below hb6)
          obtain rfl := ts_bad hT2 HCK.out
          clear hT2 hb6 q0 q1
          go_wp2_with fail
          go_ret
          exact ⟨rfl, HIX.out.bel⟩
      · have h4 : decide ((h : Int) < p.length) = false := by simpa using hhn
        clear hgo
        go_wp2_with fail
        refine (Sc.results_any HIP.out).mono ?_
        rintro e w5 ⟨hT1, hb5⟩
        replace HIX := Lib.hid (HIX.out.below hb5)
        replace HIP := Lib.hid (HIP.out.below hb5)
        clear hb5 q0 q1
        have q0 : w5.cell? ⟨Bq, 0, none⟩ = some (.int .i64 words) := HIX.out.q.cell 0
        have q1 : w5.cell? ⟨Bq, 1, none⟩ = some (.slice xa xm xc) := HIX.out.q.cell 1
        by_cases hc : check words (fenP (p.take 4)) = 0
        · obtain ⟨ar, cr, R, rfl, hM, hR, hlen⟩ := sc_good hT1 hc
          have HCK := Lib.hid hc
          have HM := Lib.hid hM
          have HR := Lib.hid hR
          clear hc hT1 hM hR
          go_wp2_with fail
          refine (results_any HIP.out).mono ?_
          rintro e w6 ⟨hT2, hb6⟩
          replace HIX := Lib.hid (HIX.out.below hb6)
          replace HM := Lib.hid (HM.out.below hb6)
          obtain ⟨as2, cs2, S, rfl, hM2, hS, hlen2⟩ := ts_good hT2 HCK.out
          have HM2 := Lib.hid hM2
          have HD : Hid (decide (R = S) = true) := by
            show _ = _
            simpa using res_fenced (fine_of HCK.out) HFN.out HR.out hS
          clear hT2 hM2 hS hb6 q0 q1
          go_wp2_with fail
          refine (rows_any HM.out HM2.out).mono ?_
          rintro e w7 ⟨rfl, m, rfl⟩
          rw [HD.out]
          go_wp2_with fail
          go_ret
          exact ⟨rfl, Below.todrewN HIX.out.bel m⟩
        · obtain rfl := sc_bad hT1 hc
          have HCK := Lib.hid hc
          clear hc hT1
          go_wp2_with fail
          refine (results_any HIP.out).mono ?_
          rintro e w6 ⟨hT2, hb6⟩
          replace HIX := Lib.hid (HIX.out.below hb6)
          obtain rfl := ts_bad hT2 HCK.out
          clear hT2 hb6 q0 q1
          go_wp2_with fail
          go_ret
          exact ⟨rfl, HIX.out.bel⟩
end Go.Proofs.Ytimbdjmplcgilaa.Tso
