import Derived.Test.YtimbdjmplcgilaaDoorScRes
import Derived.Test.YtimbdjmplcgilaaDoorRfW
namespace Go.Proofs.YtimbdjmplcgilaaDoor.Rf
open Go.RowKit Pr SortFn
open Bfs (ltL)
set_option linter.unusedVariables false
set_option linter.unusedSimpArgs false

set_option maxHeartbeats 2000000 in
set_option maxRecDepth 100000 in
theorem same_any {w : World} {v1 v2 : Value} {a b : List Int} (h1 : Nums w v1 a) (h2 : Nums w v2 b) (hl : a.length = b.length) :
    Calls Tryd.prog 39 #[v1, v2] w fun e w' => e = .returned (.bool (decide (a = b))) ∧ ∃ m, w' = w.drewN m := by
  have H1 := Lib.hid h1
  have H2 := Lib.hid h2
  obtain ⟨a1, cap1, rfl, hl1, -⟩ := h1
  obtain ⟨a2, cap2, rfl, hl2, -⟩ := h2
  unfold maxLen at hl1 hl2
  go_enter Tryd.func39, Tryd.ntmps39
  go_wp2_with fail
  go_loopg [5] (a.length + 1) (fun g i wr => ∃ k m : Nat, k ≤ a.length ∧ k + g = a.length + 1 ∧ i = .int .i64 k ∧ wr = w.drewN m ∧ ∀ j, j < k → a.getD j 0 = b.getD j 0)
  case atStart => exact ⟨0, 0, by omega, by omega, rfl, rfl, fun j hj => by omega⟩
  case round =>
    obtain ⟨k, m, hk, hkg, rfl, rfl, hsame⟩ := hrel
    have HKG := Lib.hid hkg
    have HSM := Lib.hid hsame
    clear hkg hsame
    by_cases hkn : k < a.length
    · have hkI : (k : Int) < a.length := by omega
      have hkJ : (k : Int) < b.length := by omega
      obtain ⟨a1', cap1', e1, -, hx1⟩ := H1.out
      obtain ⟨b1, o1, rfl, -, c1⟩ := hx1 k hkn
      cases e1
      obtain ⟨a2', cap2', e2, -, hx2⟩ := H2.out
      obtain ⟨b2, o2, rfl, -, c2⟩ := hx2 k (by omega)
      cases e2
      clear hx1 hx2
      obtain ⟨x, hx⟩ : ∃ x, a.getD k 0 = x := ⟨_, rfl⟩
      obtain ⟨y, hy⟩ : ∃ y, b.getD k 0 = y := ⟨_, rfl⟩
      rw [hx] at c1
      rw [hy] at c2
      have HXY : Hid (a.getD k 0 = x ∧ b.getD k 0 = y) := ⟨hx, hy⟩
      clear hx hy
      by_cases hxy : x = y
      · have e1 : (x != y) = false := by simp [hxy]
        have HE := Lib.hid hxy
        clear hxy
        go_wp2_with fail
        go_quiet (fail)
        go_wp2_with fail
        go_roundg (a.length - k)
        case measure => have := HKG.out; omega
        case rel => exact ⟨k + 1, m + nq, by omega, by omega, by go_num, rfl, fun j hj => by
          by_cases e : j = k
          · subst e; rw [HXY.out.1, HXY.out.2, HE.out]
          · exact HSM.out j (by omega)⟩
      · have e1 : (x != y) = true := by simpa using hxy
        have HN : Hid (decide (a = b) = false) := by
          show _ = _
          simp only [decide_eq_false_iff_not]
          intro e
          subst e
          exact hxy (HXY.out.1.symm.trans HXY.out.2)
        clear hxy
        go_wp2_with fail
        go_quiet (fail)
        go_wp2_with fail
        go_ret
        exact ⟨by rw [HN.out]; rfl, m + nq, World.drewN_drewN _ _ _⟩
    · obtain rfl : k = a.length := by omega
      have HN : Hid (decide (a = b) = true) := by
        show _ = _
        simp only [decide_eq_true_eq]
        exact eq_of_getD hl HSM.out
      go_wp2_with fail
      go_ret
      exact ⟨by rw [HN.out]; rfl, m, rfl⟩

theorem ltL_drop {a b : List Int} {k : Nat} (ha : k < a.length) (hb : k < b.length) : ltL (a.drop k) (b.drop k) = if a.getD k 0 = b.getD k 0 then ltL (a.drop (k + 1)) (b.drop (k + 1)) else decide (a.getD k 0 < b.getD k 0) := by
  rw [List.drop_eq_getElem_cons ha, List.drop_eq_getElem_cons hb]
  have e1 : a.getD k 0 = a[k] := by simp [List.getD_eq_getElem?_getD, ha]
  have e2 : b.getD k 0 = b[k] := by simp [List.getD_eq_getElem?_getD, hb]
  rw [e1, e2]
  unfold ltL
  rw [Bfs.cmpL]
  by_cases h1 : a[k] < b[k]
  · rw [if_pos h1, if_neg (by omega)]; simp [h1]
  · rw [if_neg h1]
    by_cases h2 : b[k] < a[k]
    · rw [if_pos h2, if_neg (by omega)]; simp [h1]
    · rw [if_neg h2, if_pos (by omega)]
set_option maxHeartbeats 2000000 in
set_option maxRecDepth 100000 in
theorem less_any {w : World} {v1 v2 : Value} {a b : List Int} (h1 : Nums w v1 a) (h2 : Nums w v2 b) (hl : a.length = b.length) :
    Calls Tryd.prog 41 #[v1, v2] w fun e w' => e = .returned (.bool (ltL a b)) ∧ ∃ m, w' = w.drewN m := by
  have H1 := Lib.hid h1
  have H2 := Lib.hid h2
  obtain ⟨a1, cap1, rfl, hl1, -⟩ := h1
  obtain ⟨a2, cap2, rfl, hl2, -⟩ := h2
  unfold maxLen at hl1 hl2
  go_enter Tryd.func41, Tryd.ntmps41
  go_wp2_with fail
  go_loopg [5] (a.length + 1) (fun g i wr => ∃ k m : Nat, k ≤ a.length ∧ k + g = a.length + 1 ∧ i = .int .i64 k ∧ wr = w.drewN m ∧ ltL a b = ltL (a.drop k) (b.drop k))
  case atStart => exact ⟨0, 0, by omega, by omega, rfl, rfl, by simp⟩
  case round =>
    obtain ⟨k, m, hk, hkg, rfl, rfl, hs⟩ := hrel
    have HKG := Lib.hid hkg
    have HS := Lib.hid hs
    clear hkg hs
    by_cases hkn : k < a.length
    · have hkI : (k : Int) < a.length := by omega
      have hkm : k < b.length := by omega
      · have hkJ : (k : Int) < b.length := by omega
        obtain ⟨a1', cap1', e1, -, hx1⟩ := H1.out
        obtain ⟨b1, o1, rfl, -, c1⟩ := hx1 k hkn
        cases e1
        obtain ⟨a2', cap2', e2, -, hx2⟩ := H2.out
        obtain ⟨b2, o2, rfl, -, c2⟩ := hx2 k hkm
        cases e2
        clear hx1 hx2
        have hd := ltL_drop hkn hkm
        obtain ⟨x, hx⟩ : ∃ x, a.getD k 0 = x := ⟨_, rfl⟩
        obtain ⟨y, hy⟩ : ∃ y, b.getD k 0 = y := ⟨_, rfl⟩
        rw [hx] at c1
        rw [hy] at c2
        rw [hx, hy] at hd
        have HD := Lib.hid hd
        clear hx hy hd
        by_cases hxy : x = y
        · have e1 : (x != y) = false := by simp [hxy]
          have HE : Hid (ltL a b = ltL (a.drop (k + 1)) (b.drop (k + 1))) := by show _ = _; rw [HS.out, HD.out, if_pos hxy]
          clear hxy
          go_wp2_with fail
          go_quiet (fail)
          go_wp2_with fail
          go_roundg (a.length - k)
          case measure => have := HKG.out; omega
          case rel => exact ⟨k + 1, m + nq, by omega, by omega, by go_num, by first | rfl | (simp only [World.drewN_drewN]), HE.out⟩
        · have e1 : (x != y) = true := by simpa using hxy
          have HE : Hid (ltL a b = decide (x < y)) := by show _ = _; rw [HS.out, HD.out, if_neg hxy]
          clear hxy
          by_cases hlt : x < y
          · have HR : Hid (ltL a b = true) := by show _ = _; rw [HE.out]; simpa using hlt
            go_wp2_with fail
            go_quiet (fail)
            go_wp2_with fail
            go_quiet (fail)
            go_wp2_with fail
            go_ret
            exact ⟨by rw [HR.out]; rfl, by first | exact ⟨_, rfl⟩ | exact ⟨_, World.drewN_drewN _ _ _⟩ | exact ⟨_, (congrArg (fun x : World => x.drewN _) (World.drewN_drewN _ _ _)).trans (World.drewN_drewN _ _ _)⟩⟩
          · have HR : Hid (ltL a b = false) := by show _ = _; rw [HE.out]; simpa using hlt
            have e2 : decide (x < y) = false := by simpa using hlt
            clear hlt
            go_wp2_with fail
            go_quiet (fail)
            go_wp2_with fail
            go_quiet (fail)
            go_wp2_with fail
            go_ret
            exact ⟨by rw [HR.out]; rfl, by first | exact ⟨_, rfl⟩ | exact ⟨_, World.drewN_drewN _ _ _⟩ | exact ⟨_, (congrArg (fun x : World => x.drewN _) (World.drewN_drewN _ _ _)).trans (World.drewN_drewN _ _ _)⟩⟩
    · obtain rfl : k = a.length := by omega
      have HR : Hid (ltL a b = false) := by show _ = _; rw [HS.out, List.drop_length, hl, List.drop_length]; rfl
      go_wp2_with fail
      go_ret
      exact ⟨by rw [HR.out]; rfl, m, rfl⟩

/-- A row of rows that is put together: it lies in new memory, its rows in the old. -/
structure PutX (w : World) (S : List Nat) (v : Value) (R : List (List Int)) (vals : List Value) (wr : World) : Prop where
  bel : Below w.heap.size w wr
  size : w.heap.size ≤ wr.heap.size
  out : OutAt wr w.heap.size S v R vals
theorem PutX.drewN {w : World} {S : List Nat} {v : Value} {R : List (List Int)} {vals : List Value} {wr : World} (h : PutX w S v R vals wr) (m : Nat) : PutX w S v R vals (wr.drewN m) := ⟨Below.todrewN h.bel m, h.size, ⟨h.out.own, h.out.len, h.out.out, h.out.row⟩⟩
structure NewRow (w wq : World) (S : List Nat) (x : Value) (l : List Int) : Prop where
  n : Nums wq x l
  b : ∃ b, x.ownBlock = some b ∧ b < w.heap.size ∧ b ∉ S
theorem PutX.push {S : List Nat} {w wq w1 : World} {v v' x : Value} {R : List (List Int)} {vals cs : List Value} {l : List Int} {n : Nat} {T : TypeId} (hS : ∀ b ∈ S, b < w.heap.size) (h : PutX w S v R vals wq) (hx : NewRow w wq S x l)
    (hown : w1.ownsRow w.heap.size 47 1 v' n cs) (hg : (wq.alloc (.cells #[x] T)).grownBy w1 v.ownBlock) (hat : v'.ownBlock = v.ownBlock ∨ v'.ownBlock = some (wq.alloc (.cells #[x] T)).heap.size) (hn : n = R.length + 1) (hc : cs = vals ++ [x]) :
    PutX w S v' (R ++ [l]) (vals ++ [x]) w1 := by
  obtain ⟨b, hb, hbl, hbs⟩ := hx.b
  have hs := h.size
  have hba := own_base h.out.own
  have hbl2 : Below w.heap.size wq w1 := ((Below.refl _ _).alloc h.size _).grown hg (Nat.le_trans h.size (by simp)) hba
  exact ⟨h.bel.trans hbl2, Nat.le_trans h.size hbl2.size, h.out.push (fun b hb => Nat.lt_of_lt_of_le (hS b hb) hs) hx.n hb hbs (fun e => by have := (h.out.own.lt b e).1; omega) (by omega) hown hg hat hn hc⟩
theorem nums_some {w : World} {x : Value} {l : List Int} (h : Nums w x l) (h0 : 0 < l.length) : ∃ b o cap, b < w.heap.size ∧ x = .slice (some ⟨b, o, none⟩) l.length cap := by
  obtain ⟨a, cap, rfl, -, hj⟩ := h
  obtain ⟨b, o, rfl, hb, -⟩ := hj 0 h0
  exact ⟨b, o, cap, hb.1, rfl⟩
theorem out_mat {w : World} {base : Nat} {S : List Nat} {v : Value} {R : List (List Int)} {vals : List Value} (h : OutAt w base S v R vals) (hl : R.length ≤ maxLen) : Mat w v R := by
  by_cases h0 : R.length = 0
  · have hR : R = [] := by simpa using h0
    subst hR
    rcases h.own.2 with ⟨hv, -⟩ | ⟨g, cap, cur, hv, -⟩
    · rw [hv]; exact mat_nil w
    · rw [hv]; exact ⟨_, cap, rfl, by simp, fun k hk => by simp at hk⟩
  · obtain ⟨g, cap, cur, rfl, hg, hb, hc, hs, ht⟩ := own_slice h.own h0
    refine ⟨_, cap, rfl, hl, fun k hk => ?_⟩
    obtain ⟨x, hx⟩ : ∃ x, vals[k]? = some x := ⟨_, List.getElem?_eq_getElem (by rw [h.len]; exact hk)⟩
    obtain ⟨l, hl'⟩ : ∃ l, R[k]? = some l := ⟨_, List.getElem?_eq_getElem hk⟩
    refine ⟨g, 0, x, rfl, hb.lt, ?_, ?_⟩
    · rw [hb.cell, Nat.zero_add]
      rw [← ht, List.getElem?_take_of_lt (by omega)] at hx
      simpa using hx
    · have := (h.row k x l hx hl').1
      rw [List.getD_eq_getElem?_getD, hl']; exact this

/-- A row of rows; its rows lie in no block of S. -/
def MatS (w : World) (S : List Nat) (v : Value) (R : List (List Int)) : Prop :=
  ∃ a cap, v = .slice a R.length cap ∧ ∀ k, k < R.length → ∃ b o x, a = some ⟨b, o, none⟩ ∧ b < w.heap.size ∧ w.cell? ⟨b, o + k, none⟩ = some x ∧ Nums w x (R.getD k []) ∧ ∀ c, x.ownBlock = some c → c ∉ S
theorem out_matS {w : World} {base : Nat} {S : List Nat} {v : Value} {R : List (List Int)} {vals : List Value} (h : OutAt w base S v R vals) : MatS w S v R := by
  by_cases h0 : R.length = 0
  · rcases h.own.2 with ⟨hv, -⟩ | ⟨g, cap, cur, hv, -⟩
    · exact ⟨none, 0, by rw [hv, h0], fun k hk => by omega⟩
    · exact ⟨_, cap, hv, fun k hk => by omega⟩
  · obtain ⟨g, cap, cur, rfl, hg, hb, hc, hs, ht⟩ := own_slice h.own h0
    refine ⟨_, cap, rfl, fun k hk => ?_⟩
    obtain ⟨x, hx⟩ : ∃ x, vals[k]? = some x := ⟨_, List.getElem?_eq_getElem (by rw [h.len]; exact hk)⟩
    obtain ⟨l, hl'⟩ : ∃ l, R[k]? = some l := ⟨_, List.getElem?_eq_getElem hk⟩
    refine ⟨g, 0, x, rfl, hb.lt, ?_, ?_, fun c hc => ((h.row k x l hx hl').2 c hc).1⟩
    · rw [hb.cell, Nat.zero_add]
      rw [← ht, List.getElem?_take_of_lt (by omega)] at hx
      simpa using hx
    · have := (h.row k x l hx hl').1
      rw [List.getD_eq_getElem?_getD, hl']; exact this

set_option maxHeartbeats 4000000 in
set_option maxRecDepth 100000 in
theorem put_any {w : World} {vl vx : Value} {R : List (List Int)} {a : List Int} {S : List Nat} (hm : MatS w S vl R) (hx : Nums w vx a) (hxs : ∀ b, vx.ownBlock = some b → b ∉ S) (hS : ∀ b ∈ S, b < w.heap.size) (ha : 0 < a.length) (hsl : ∀ l ∈ R, l.length = a.length) (hR : R.length ≤ 100000000000) :
    Calls Tryd.prog 20 #[vl, vx] w fun e w' => ∃ v' vals, e = .returned v' ∧ OutAt w' w.heap.size S v' (putL R a) vals ∧ Below w.heap.size w w' := by
  have HM := Lib.hid hm
  have HA := Lib.hid hx
  have HA0 := Lib.hid ha
  have HSL := Lib.hid hsl
  have HRL := Lib.hid hR
  obtain ⟨am, cm, rfl, -⟩ := hm
  obtain ⟨b0, o0, cap0, hb0, rfl⟩ := nums_some hx ha
  have HB0 := Lib.hid hb0
  have HB0S := Lib.hid (hxs b0 rfl)
  have HS := Lib.hid hS
  clear hxs hS
  obtain ⟨i0, hi, hz0, hz1, hz2⟩ := info_parts Sc.infoRow
  clear hx ha hsl hb0
  have HX : Hid (PutX w S (.slice none 0 0) [] [] w) := ⟨Below.refl _ _, Nat.le_refl _, OutAt.nil _ _ _⟩
  go_enter Tryd.func20, Tryd.ntmps20
  go_wp2_with fail
  go_loopg [5, 6] (R.length + 1) (fun g s5 s6 wr => ∃ (k : Nat) (v : Value) (vals : List Value), s5 = v ∧ s6 = .int .i64 k ∧ k + g = R.length + 1 ∧ k ≤ R.length ∧ PutX w S v ([] ++ (R.take k).filter (fun y => ltL y a)) vals wr)
  case atStart => exact ⟨0, _, _, rfl, rfl, by omega, by omega, by simpa using HX.out⟩
  case round =>
    clear HX
    obtain ⟨k, v, vals, rfl, rfl, hkg, hkl, hX⟩ := hrel
    have HX := Lib.hid hX
    have HKG := Lib.hid hkg
    clear hX hkg
    rename World => wq
    by_cases hkn : k < R.length
    · have hkI : (k : Int) < R.length := by omega
      obtain ⟨l, hl⟩ : ∃ l, R.getD k [] = l := ⟨_, rfl⟩
      have hlm : l ∈ R := by rw [← hl, List.getD_eq_getElem?_getD, List.getElem?_eq_getElem hkn]; exact List.getElem_mem hkn
      have HTK : Hid (R.take (k + 1) = R.take k ++ [l]) := by
        show _ = _
        rw [List.take_add_one, List.getElem?_eq_getElem hkn, ← hl]
        simp [List.getD_eq_getElem?_getD, hkn]
      have HLL : Hid (l.length = a.length) := HSL.out l hlm
      have HLE : Hid (([] ++ (R.take k).filter (fun y => ltL y a)).length ≤ 300000000000) := by
        have := List.length_filter_le (fun y => ltL y a) (R.take k)
        have h2 := HRL.out
        show _ ≤ _
        simp only [List.length_append, List.length_take, List.length_nil] at *
        omega
      obtain ⟨a1, cap1, e1, hx1⟩ := HM.out
      obtain ⟨b1, o1, y1, rfl, hb1, c1, hy1, hys⟩ := hx1 k hkn
      cases e1
      rw [hl] at hy1
      have c1q : wq.cell? ⟨b1, o1 + k, none⟩ = some y1 := by rw [HX.out.bel.cell (p := ⟨b1, o1 + k, none⟩) hb1]; exact c1
      have HY0 := Lib.hid hy1
      obtain ⟨b2, o2, cap2, hb2, rfl⟩ := nums_some hy1 (by rw [HLL.out]; exact HA0.out)
      have HB2 : Hid (b2 < w.heap.size ∧ b2 ∉ S) := ⟨hb2, hys b2 rfl⟩
      clear hys
      have HY : Hid (Nums wq (.slice (some ⟨b2, o2, none⟩) l.length cap2) l) := HY0.out.below HX.out.bel
      have HNA : Hid (Nums wq (.slice (some ⟨b0, o0, none⟩) a.length cap0) a) := HA.out.below HX.out.bel
      clear hx1 c1 hy1 hb1 hl hlm hb2
      go_wp2_with fail
      refine (less_any HY.out HNA.out HLL.out).mono ?_
      rintro e w5 ⟨rfl, m, rfl⟩
      replace HX := Lib.hid (HX.out.drewN m)
      have c1q2 : (wq.drewN m).cell? ⟨b1, o1 + k, none⟩ = some (.slice (some ⟨b2, o2, none⟩) l.length cap2) := c1q
      have HYD : Hid (Nums (wq.drewN m) (.slice (some ⟨b2, o2, none⟩) l.length cap2) l) := HY.out
      clear c1q HY HNA
      generalize wq.drewN m = wq at HX c1q2 HYD ⊢
      cases hlt : ltL l a with
      | true =>
        have HEQ : Hid (([] ++ (R.take k).filter (fun y => ltL y a)) ++ [l] = ([] ++ (R.take (k + 1)).filter (fun y => ltL y a))) := by show _ = _; rw [HTK.out, List.filter_append]; simp [hlt]
        have HNX : Hid (NewRow w wq S (.slice (some ⟨b2, o2, none⟩) l.length cap2) l) := ⟨HYD.out, b2, rfl, HB2.out⟩
        clear hlt
        go_wp2_with (at_builtin; refine wpList_append_own_at _ rfl _ _ 26 rfl w.heap.size 47 i0 (.slice none 0 0) 1 24 Tryd.underlying26 hi hz0 hz1 hz2 rfl (by decide) _ ([] ++ (R.take k).filter (fun y => ltL y a)).length vals rfl (HX.out.out.own.alloc _) ⟨wq.heap.size, 0, none⟩ 1 1 [.slice (some ⟨b2, o2, none⟩) l.length cap2] rfl rfl ?kk1 ?kk2 ?kk3 ?kk4 ?kk5 ?_)
        try (case kk1 => exact fun j u h => news_cell wq _ _ j u h)
        case kk2 => first | rfl | (intro y hy; simp at hy; subst hy; rfl)
        case kk3 => have := HLE.out; unfold maxLen; omega
        case kk4 => have := HLE.out; omega
        case kk5 => first | exact Nat.le_trans HX.out.size (by simp) | (have := HX.out.size; simp; omega)
        intro v' w6 hown hgrow _ hat
        have hX := HX.out.push HS.out HNX.out hown hgrow (by simpa using hat) (by first | rfl | (simp; done) | (simp; omega)) (by first | rfl | simp)
        have HXN := Lib.hid hX
        clear hX hown hgrow hat
        rw [HEQ.out] at HXN
        clear HX HEQ
        go_wp2_with fail
        go_roundg (R.length - k)
        case measure => have := HKG.out; omega
        case rel => exact ⟨k + 1, _, _, rfl, by go_num, by omega, by omega, HXN.out⟩
      | false =>
        have HEQ : Hid (([] ++ (R.take k).filter (fun y => ltL y a)) = ([] ++ (R.take (k + 1)).filter (fun y => ltL y a))) := by show _ = _; rw [HTK.out, List.filter_append]; simp [hlt]
        have HXN := HX
        rw [HEQ.out] at HXN
        clear hlt HX HEQ
        go_wp2_with fail
        go_roundg (R.length - k)
        case measure => have := HKG.out; omega
        case rel => exact ⟨k + 1, _, _, rfl, by go_num, by omega, by omega, HXN.out⟩
    · obtain rfl : k = R.length := by omega
      have HXF : Hid (PutX w S u5 ([] ++ R.filter (fun y => ltL y a)) vals wq) := by
        have := HX.out
        rwa [List.take_length] at this
      clear HX HKG hkn
      have HX := HXF
      clear HXF
      have HLE : Hid (([] ++ R.filter (fun y => ltL y a)).length ≤ 300000000000) := by
        have := List.length_filter_le (fun y => ltL y a) R
        have h2 := HRL.out
        show _ ≤ _
        simp only [List.nil_append]; omega
      have HNX : Hid (NewRow w wq S (.slice (some ⟨b0, o0, none⟩) a.length cap0) a) := ⟨HA.out.below HX.out.bel, b0, rfl, HB0.out, HB0S.out⟩
      go_wp2_with (at_builtin; refine wpList_append_own_at _ rfl _ _ 26 rfl w.heap.size 47 i0 (.slice none 0 0) 1 24 Tryd.underlying26 hi hz0 hz1 hz2 rfl (by decide) _ ([] ++ R.filter (fun y => ltL y a)).length vals rfl (HX.out.out.own.alloc _) ⟨wq.heap.size, 0, none⟩ 1 1 [.slice (some ⟨b0, o0, none⟩) a.length cap0] rfl rfl ?mm1 ?mm2 ?mm3 ?mm4 ?mm5 ?_)
      try (case mm1 => exact fun j u h => news_cell wq _ _ j u h)
      case mm2 => first | rfl | (intro y hy; simp at hy; subst hy; rfl)
      case mm3 => have := HLE.out; unfold maxLen; omega
      case mm4 => have := HLE.out; omega
      case mm5 => first | exact Nat.le_trans HX.out.size (by simp) | (have := HX.out.size; simp; omega)
      intro v' w6 hown hgrow _ hat
      have hX := HX.out.push HS.out HNX.out hown hgrow (by simpa using hat) (by first | rfl | (simp; done) | (simp; omega)) (by first | rfl | simp)
      have HXN := Lib.hid hX
      clear hX hown hgrow hat
      clear HX HLE HNX
      have HX := HXN
      clear HXN
      simp only [List.nil_append] at HX
      go_wp2_with fail
      go_loopg [5, 7] (R.length + 1) (fun g s5 s6 wr => ∃ (k : Nat) (v : Value) (vals : List Value), s5 = v ∧ s6 = .int .i64 k ∧ k + g = R.length + 1 ∧ k ≤ R.length ∧ PutX w S v ((R.filter (fun y => ltL y a) ++ [a]) ++ (R.take k).filter (fun y => ltL a y)) vals wr)
      case atStart => exact ⟨0, _, _, rfl, rfl, by omega, by omega, by simpa using HX.out⟩
      case round =>
        clear HX
        obtain ⟨k, v, vals, rfl, rfl, hkg, hkl, hX⟩ := hrel
        have HX := Lib.hid hX
        have HKG := Lib.hid hkg
        clear hX hkg
        rename World => wq
        by_cases hkn : k < R.length
        · have hkI : (k : Int) < R.length := by omega
          obtain ⟨l, hl⟩ : ∃ l, R.getD k [] = l := ⟨_, rfl⟩
          have hlm : l ∈ R := by rw [← hl, List.getD_eq_getElem?_getD, List.getElem?_eq_getElem hkn]; exact List.getElem_mem hkn
          have HTK : Hid (R.take (k + 1) = R.take k ++ [l]) := by
            show _ = _
            rw [List.take_add_one, List.getElem?_eq_getElem hkn, ← hl]
            simp [List.getD_eq_getElem?_getD, hkn]
          have HLL : Hid (l.length = a.length) := HSL.out l hlm
          have HLE : Hid (((R.filter (fun y => ltL y a) ++ [a]) ++ (R.take k).filter (fun y => ltL a y)).length ≤ 300000000000) := by
            have := List.length_filter_le (fun y => ltL a y) (R.take k)
            have h2 := HRL.out
            show _ ≤ _
            simp only [List.length_append, List.length_take, List.length_cons, List.length_nil] at *
            have := List.length_filter_le (fun y => ltL y a) R
            omega
          obtain ⟨a1, cap1, e1, hx1⟩ := HM.out
          obtain ⟨b1, o1, y1, rfl, hb1, c1, hy1, hys⟩ := hx1 k hkn
          cases e1
          rw [hl] at hy1
          have c1q : wq.cell? ⟨b1, o1 + k, none⟩ = some y1 := by rw [HX.out.bel.cell (p := ⟨b1, o1 + k, none⟩) hb1]; exact c1
          have HY0 := Lib.hid hy1
          obtain ⟨b2, o2, cap2, hb2, rfl⟩ := nums_some hy1 (by rw [HLL.out]; exact HA0.out)
          have HB2 : Hid (b2 < w.heap.size ∧ b2 ∉ S) := ⟨hb2, hys b2 rfl⟩
          clear hys
          have HY : Hid (Nums wq (.slice (some ⟨b2, o2, none⟩) l.length cap2) l) := HY0.out.below HX.out.bel
          have HNA : Hid (Nums wq (.slice (some ⟨b0, o0, none⟩) a.length cap0) a) := HA.out.below HX.out.bel
          clear hx1 c1 hy1 hb1 hl hlm hb2
          go_wp2_with fail
          refine (less_any HNA.out HY.out HLL.out.symm).mono ?_
          rintro e w5 ⟨rfl, m, rfl⟩
          replace HX := Lib.hid (HX.out.drewN m)
          have c1q2 : (wq.drewN m).cell? ⟨b1, o1 + k, none⟩ = some (.slice (some ⟨b2, o2, none⟩) l.length cap2) := c1q
          have HYD : Hid (Nums (wq.drewN m) (.slice (some ⟨b2, o2, none⟩) l.length cap2) l) := HY.out
          clear c1q HY HNA
          generalize wq.drewN m = wq at HX c1q2 HYD ⊢
          cases hlt : ltL a l with
          | true =>
            have HEQ : Hid (((R.filter (fun y => ltL y a) ++ [a]) ++ (R.take k).filter (fun y => ltL a y)) ++ [l] = ((R.filter (fun y => ltL y a) ++ [a]) ++ (R.take (k + 1)).filter (fun y => ltL a y))) := by show _ = _; rw [HTK.out, List.filter_append]; simp [hlt]
            have HNX : Hid (NewRow w wq S (.slice (some ⟨b2, o2, none⟩) l.length cap2) l) := ⟨HYD.out, b2, rfl, HB2.out⟩
            clear hlt
            go_wp2_with (at_builtin; refine wpList_append_own_at _ rfl _ _ 26 rfl w.heap.size 47 i0 (.slice none 0 0) 1 24 Tryd.underlying26 hi hz0 hz1 hz2 rfl (by decide) _ ((R.filter (fun y => ltL y a) ++ [a]) ++ (R.take k).filter (fun y => ltL a y)).length vals rfl (HX.out.out.own.alloc _) ⟨wq.heap.size, 0, none⟩ 1 1 [.slice (some ⟨b2, o2, none⟩) l.length cap2] rfl rfl ?nn1 ?nn2 ?nn3 ?nn4 ?nn5 ?_)
            try (case nn1 => exact fun j u h => news_cell wq _ _ j u h)
            case nn2 => first | rfl | (intro y hy; simp at hy; subst hy; rfl)
            case nn3 => have := HLE.out; unfold maxLen; omega
            case nn4 => have := HLE.out; omega
            case nn5 => first | exact Nat.le_trans HX.out.size (by simp) | (have := HX.out.size; simp; omega)
            intro v' w6 hown hgrow _ hat
            have hX := HX.out.push HS.out HNX.out hown hgrow (by simpa using hat) (by first | rfl | (simp; done) | (simp; omega)) (by first | rfl | simp)
            have HXN := Lib.hid hX
            clear hX hown hgrow hat
            rw [HEQ.out] at HXN
            clear HX HEQ
            go_wp2_with fail
            go_roundg (R.length - k)
            case measure => have := HKG.out; omega
            case rel => exact ⟨k + 1, _, _, rfl, by go_num, by omega, by omega, HXN.out⟩
          | false =>
            have HEQ : Hid (((R.filter (fun y => ltL y a) ++ [a]) ++ (R.take k).filter (fun y => ltL a y)) = ((R.filter (fun y => ltL y a) ++ [a]) ++ (R.take (k + 1)).filter (fun y => ltL a y))) := by show _ = _; rw [HTK.out, List.filter_append]; simp [hlt]
            have HXN := HX
            rw [HEQ.out] at HXN
            clear hlt HX HEQ
            go_wp2_with fail
            go_roundg (R.length - k)
            case measure => have := HKG.out; omega
            case rel => exact ⟨k + 1, _, _, rfl, by go_num, by omega, by omega, HXN.out⟩
        · obtain rfl : k = R.length := by omega
          have HXF : Hid (PutX w S u5 ((R.filter (fun y => ltL y a) ++ [a]) ++ R.filter (fun y => ltL a y)) vals wq) := by
            have := HX.out
            rwa [List.take_length] at this
          clear HX HKG hkn
          have HMT : Hid (Mat wq u5 (putL R a)) := out_mat HXF.out.out (by
            have h1 := putL_len R a
            have h2 := HRL.out
            show (putL R a).length ≤ maxLen
            unfold maxLen; omega)
          obtain ⟨ae, ce, e, -⟩ := HMT.out
          have HBL := Lib.hid HXF.out.bel
          have HOT : Hid (OutAt wq w.heap.size S u5 (putL R a) vals) := HXF.out.out
          clear HXF
          subst e
          go_wp2_with fail
          go_ret
          exact ⟨_, _, rfl, HOT.out, HBL.out⟩
end Go.Proofs.YtimbdjmplcgilaaDoor.Rf
