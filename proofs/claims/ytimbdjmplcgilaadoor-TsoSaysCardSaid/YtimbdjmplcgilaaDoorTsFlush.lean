import Derived.Test.YtimbdjmplcgilaaDoorTsSeen
import Derived.Test.YtimbdjmplcgilaaDoorPrRes
import Derived.Laws.IdiomCopy
import Derived.Deep.RegionLaw
import Derived.StillTailTactics
namespace Go.Proofs.YtimbdjmplcgilaaDoor.Tso
open Go.RowKit Pr
set_option linter.unusedVariables false
set_option linter.unusedSimpArgs false

/-- What is copied of a row whose elements are two cells. -/
theorem run_copy_two {P : Program} (w : World) (dT sT ty elem : TypeId) (b o dLen dCap : Nat) (a : Addr) (sLen sCap m : Nat) (cs : List Value)
    (hu : P.underlying dT = some (.slice elem)) (hs : (P.info? elem).map (·.size) = some 2) (hm : Nat.min sLen dLen = m) (hn : cs.length = m * 2)
    (hsrc : ∀ j v, cs[j]? = some v → w.cell? (a.add j) = some v) (hc : ∀ j, j < cs.length → (w.cell? ⟨b, o + j, none⟩).isSome = true) (hf : ∀ j, j < cs.length → w.frozen? ⟨b, o + j, none⟩ = false) (h1 : ∀ v ∈ cs, v.oneCell' = true) :
    (Builtin.copy_ #[dT, sT] ty #[.slice (some ⟨b, o, none⟩) dLen dCap, .slice (some a) sLen sCap]).run P w = .ok (goInt m) (w.setCells b o cs) := by
  have hl := run_loadCells_list (P := P) w a cs hsrc
  have hst := run_storeCells_cells (P := P) b o cs 0 w (by simpa using hc) (by simpa using hf) h1
  rw [hn] at hl
  cases hq : P.info? elem with
  | none => simp [hq] at hs
  | some i =>
    have hi : i.size = 2 := by simpa [hq] using hs
    simp [Builtin.copy_, run_underlying hu, Builtin.lenOf, Builtin.firstCells, sizeOf, typeInfo, hq, hi, hm, hl, hst]
theorem wpList_copy_at {P : Program} (w : World) {ops : Array Oper} {rest : List Oper} {o : Oper} {a : Act} {Q : Exit → Act → World → Prop} (hgd : o.guard = none) (d x : Operand) (dT sT : TypeId)
    (ho : o.op = .call { callee := .builtin .copy, args := #[d, x], argTypes := #[dT, sT] }) (vd vx : Value) (hd : a.eval d = vd) (hx : a.eval x = vx) {v' : Value} {w' : World}
    (hr : ∀ ty, (Builtin.copy_ #[dT, sT] ty #[vd, vx]).run P w = .ok v' w') (h : wpList P ops Q rest (a.put o.dst v') w') : wpList P ops Q (o :: rest) a w := by
  refine wpList_plain hgd fun K hK => ?_
  unfold Oper.wp execOp
  simp only [ho, resolve, invoke, builtin, Sem.run_bind, Sem.run_pure, Result.andThen_ok, List.map_toArray, List.map_cons, List.map_nil, hd, hx, hr]
  exact hK _ _ h
theorem og_cells {w : World} {g : Nat} : ∀ (l : List Value) (o : Nat) (wr : World), OnlyG [g] w wr → OnlyG [g] w (wr.setCells g o l)
  | [], _, _, h => h
  | v :: r, o, wr, h => og_cells r (o + 1) _ (h.set (by simp) o v)
theorem infoStored : (Tryd.prog.info? 84).map (·.size) = some 2 := by kernel_rfl
theorem row_setCells {L n : Nat} : ∀ (vs : List Int) (o : Nat) (w : World) (f : St), StN n w L f → o + vs.length ≤ n → StN n (w.setCells L o (ints vs)) L (fun j => if o ≤ j ∧ j < o + vs.length then vs.getD (j - o) 0 else f j)
  | [], o, w, f, h, _ => by
    refine Row.eq h (fun j hj => ?_)
    exact (if_neg (show ¬ (o ≤ j ∧ j < o + ([] : List Int).length) by simp only [List.length_nil]; omega)).symm
  | v :: r, o, w, f, h, hl => by
    simp only [List.length_cons] at hl
    have h1 := Row.set h (i := o) (by omega) (fun j _ e => e) v
    have h2 := row_setCells r (o + 1) _ _ h1 (by omega)
    refine Row.eq h2 (fun j hj => ?_)
    simp only [List.length_cons]
    by_cases e : j = o
    · subst e
      rw [if_neg (by omega), if_pos (by omega), upd_same, Nat.sub_self]; rfl
    · by_cases e2 : o ≤ j ∧ j < o + (r.length + 1)
      · rw [if_pos (by omega), if_pos e2, show j - o = (j - (o + 1)) + 1 by omega]; rfl
      · rw [if_neg (by omega), if_neg e2, upd_other e]
/-- What is flushed, number by number. -/
def shift (f : St) (a : Nat) : St := fun j => if a ≤ j ∧ j < a + 8 then f (j + 2) else f j
theorem enc_flush {s : TS} {h : Nat} {wd : Nat} {v : Int} {r : List (Int × Int)} (h4 : h < 4) (hw : wd < 4) (hb : (s.l h).b = ((wd : Int), v) :: r) (hl : r.length ≤ 4) (j : Nat) (hj : j < 60) :
    upd (upd (upd (shift (upd (enc s) (12 + wd) v) (16 + h * 10)) (56 + h) (r.length : Int)) (16 + h * 10 + r.length * 2) 0) (16 + h * 10 + r.length * 2 + 1) 0 j = enc (flush s h) j := by
  have e0 : ∀ k, (flush s h).l k = if k = h then { s.l h with b := r } else s.l k := fun k => by rw [flush_cons hb]; rfl
  have em : (flush s h).m = upd s.m wd v := by rw [flush_cons hb]; rfl
  have sh0 : ∀ f j, (j < 16 + h * 10 ∨ 16 + h * 10 + 8 ≤ j) → shift f (16 + h * 10) j = f j := fun f j hj => by unfold shift; rw [if_neg (by omega)]
  rcases cell_cases hj with a | ⟨k, hk, rfl | rfl⟩ | ⟨w, hw', rfl⟩ | ⟨k, i, hk, hi, rfl | rfl⟩ | ⟨k, hk, rfl⟩
  · rw [upd_other (by omega), upd_other (by omega), upd_other (by omega), sh0 _ _ (by omega), upd_other (by omega), enc_at _ a, enc_at _ a, e0]
    split
    · subst_vars; rfl
    · rfl
  · rw [upd_other (by omega), upd_other (by omega), upd_other (by omega), sh0 _ _ (by omega), upd_other (by omega), enc_r0 _ hk, enc_r0 _ hk, e0]
    split
    · subst_vars; rfl
    · rfl
  · rw [upd_other (by omega), upd_other (by omega), upd_other (by omega), sh0 _ _ (by omega), upd_other (by omega), enc_r1 _ hk, enc_r1 _ hk, e0]
    split
    · subst_vars; rfl
    · rfl
  · rw [upd_other (by omega), upd_other (by omega), upd_other (by omega), sh0 _ _ (by omega), enc_word _ hw', em]
    by_cases e : w = wd
    · subst e; rw [upd_same, upd_same]
    · rw [upd_other (by omega), upd_other e, enc_word _ hw']
  · by_cases e : k = h
    · subst e
      by_cases ei : i = r.length
      · subst ei
        rw [upd_other (by omega), upd_same, enc_bw _ hk hi, e0, if_pos rfl]
        simp [List.getD_eq_getElem?_getD]
      · rw [upd_other (by omega), upd_other (by omega), upd_other (by omega), enc_bw _ hk hi, e0, if_pos rfl]
        unfold shift
        by_cases e8 : i < 4
        · rw [if_pos (by omega), show 16 + k * 10 + i * 2 + 2 = 16 + k * 10 + (i + 1) * 2 by omega, upd_other (by omega), enc_bw _ hk (by omega), hb]; rfl
        · rw [if_neg (by omega), upd_other (by omega), enc_bw _ hk hi, hb]
          obtain rfl : i = 4 := by omega
          have : r.length < 4 := by omega
          simp [List.getD_eq_getElem?_getD, List.getElem?_eq_none (l := r) (i := 3) (by omega), List.getElem?_eq_none (l := r) (i := 4) (by omega)]
    · rw [upd_other (by omega), upd_other (by omega), upd_other (by omega), sh0 _ _ (by omega), upd_other (by omega), enc_bw _ hk hi, enc_bw _ hk hi, e0, if_neg e]
  · by_cases e : k = h
    · subst e
      by_cases ei : i = r.length
      · subst ei
        rw [upd_same, enc_bv _ hk hi, e0, if_pos rfl]
        simp [List.getD_eq_getElem?_getD]
      · rw [upd_other (by omega), upd_other (by omega), upd_other (by omega), enc_bv _ hk hi, e0, if_pos rfl]
        unfold shift
        by_cases e8 : i < 4
        · rw [if_pos (by omega), show 16 + k * 10 + i * 2 + 1 + 2 = 16 + k * 10 + (i + 1) * 2 + 1 by omega, upd_other (by omega), enc_bv _ hk (by omega), hb]; rfl
        · rw [if_neg (by omega), upd_other (by omega), enc_bv _ hk hi, hb]
          obtain rfl : i = 4 := by omega
          have : r.length < 4 := by omega
          simp [List.getD_eq_getElem?_getD, List.getElem?_eq_none (l := r) (i := 3) (by omega), List.getElem?_eq_none (l := r) (i := 4) (by omega)]
    · rw [upd_other (by omega), upd_other (by omega), upd_other (by omega), sh0 _ _ (by omega), upd_other (by omega), enc_bv _ hk hi, enc_bv _ hk hi, e0, if_neg e]
  · rw [upd_other (by omega), upd_other (by omega), enc_many _ hk, e0]
    by_cases e : k = h
    · subst e; rw [upd_same, if_pos rfl]
    · rw [upd_other (by omega), sh0 _ _ (by omega), upd_other (by omega), enc_many _ hk, if_neg e]

set_option maxHeartbeats 4000000 in
set_option maxRecDepth 100000 in
theorem flush_any {w : World} {L h wd : Nat} {s : TS} {v : Int} {r : List (Int × Int)} (hs : TAt w L s) (h4 : h < 4) (hw : wd < 4) (hb : (s.l h).b = ((wd : Int), v) :: r) (hl : r.length ≤ 4) :
    Calls Tryd.prog 38 #[.pointer (some ⟨L, 0, none⟩), .int .i64 h] w fun e w' =>
      e = .returned (.tuple #[]) ∧ TAt w' L (flush s h) ∧ OnlyG [L] w w' := by
  have HEF : Hid (∀ j, j < 60 → upd (upd (upd (shift (upd (enc s) (12 + wd) v) (16 + h * 10)) (56 + h) (r.length : Int)) (16 + h * 10 + r.length * 2) 0) (16 + h * 10 + r.length * 2 + 1) 0 j = enc (flush s h) j) := enc_flush h4 hw hb hl
  have HLT := Lib.hid hs.lt
  have HS := Lib.hid hs
  have c0 := hs.cell (show 16 + h * 10 < 60 by omega)
  have c1 := hs.cell (show 16 + h * 10 + 1 < 60 by omega)
  have a0 := enc_bw s (h := h) (i := 0) h4 (by omega)
  have a1 := enc_bv s (h := h) (i := 0) h4 (by omega)
  have a2 := enc_many s h4
  rw [hb] at a0 a1 a2
  simp only [List.getD_cons_zero, Nat.zero_mul, Nat.add_zero, List.length_cons] at a0 a1 a2
  rw [a0] at c0
  rw [a1] at c1
  have HMA := Lib.hid a2
  have h4I : (h : Int) < 4 := by omega
  have hwI : (wd : Int) < 4 := by omega
  clear hs a0 a1 a2 hb
  go_enter Tryd.func38, Tryd.ntmps38
  go_wp2_with fail
  have hB := Blk.new w #[.int .i64 (wd : Int), .int .i64 v] 84
  have hS : StN 60 (w.alloc (.cells #[.int .i64 (wd : Int), .int .i64 v] 84)) L (enc s) := HS.out.keep (RowKit.Below.heap_alloc _ _ _ HLT.out)
  have hX : OnlyG [L] w (w.alloc (.cells #[.int .i64 (wd : Int), .int .i64 v] 84)) := (OnlyG.refl _ _).alloc _
  generalize w.alloc (.cells #[.int .i64 (wd : Int), .int .i64 v] 84) = wx at hB hS hX ⊢
  clear c0 c1
  have l0 : wx.cell? ⟨w.heap.size, 0, none⟩ = some (.int .i64 wd) := hB.cell 0
  have l1 : wx.cell? ⟨w.heap.size, 1, none⟩ = some (.int .i64 v) := hB.cell 1
  have c2 := (hS (12 + wd) (by omega)).1
  have g2 := (hS (12 + wd) (by omega)).2
  simp only at c2 g2
  have HX := Lib.hid hX
  have HS := Lib.hid hS
  clear hB hS hX
  go_region
  go_wp2_with fail
  have hS2 := (Row.set HS.out (i := 12 + wd) (by omega) (fun j _ e => e) v).drew
  have hX2 := (HX.out.set (b := L) (by simp) (12 + wd) (.int .i64 v)).drew
  clear HS HX l0 l1 c2 g2
  generalize (wx.setCell ⟨L, 12 + wd, none⟩ (.int .i64 v)).drew = w2 at hS2 hX2 ⊢
  have HX := Lib.hid hX2
  have HS : Hid (StN 60 w2 L (upd (enc s) (12 + wd) v)) := hS2
  clear hS2 hX2
  have hvs : (((List.range 8).map fun j => upd (enc s) (12 + wd) v (16 + h * 10 + 2 + j)) : List Int).length = 8 := by simp
  have HCP : Hid (∀ ty, (Builtin.copy_ #[107, 107] ty #[.slice (some ⟨L, 16 + h * 10, none⟩) 5 5, .slice (some ⟨L, 16 + h * 10 + 2, none⟩) 4 4]).run Tryd.prog w2.drew = .ok (goInt 4) (w2.drew.setCells L (16 + h * 10) (ints ((List.range 8).map fun j => upd (enc s) (12 + wd) v (16 + h * 10 + 2 + j))))) := fun ty => by
    refine run_copy_two w2.drew _ _ ty 84 L (16 + h * 10) 5 5 ⟨L, 16 + h * 10 + 2, none⟩ 4 4 4 _ (by rfl) infoStored (by rfl) (by simp [ints]) ?_ ?_ ?_ ?_
    · intro j u hu
      have hj : j < 8 := by
        have := (List.getElem?_eq_some_iff.1 hu).1
        simpa [ints] using this
      have e1 : Addr.add ⟨L, 16 + h * 10 + 2, none⟩ j = ⟨L, 16 + h * 10 + 2 + j, none⟩ := by
        unfold Addr.add; split
        · subst_vars; rfl
        · rfl
      rw [e1]
      have := (HS.out (16 + h * 10 + 2 + j) (by omega)).1
      simp only at this
      show w2.cell? _ = _
      rw [this]
      simpa [ints, hj] using hu
    · intro j hj
      have hj : j < 8 := by simpa [ints] using hj
      have := (HS.out (16 + h * 10 + j) (by omega)).1
      simp only at this
      show (w2.cell? _).isSome = true
      rw [this]; rfl
    · intro j hj
      have hj : j < 8 := by simpa [ints] using hj
      exact (HS.out (16 + h * 10 + j) (by omega)).2
    · intro y hy; simp only [ints, List.mem_map] at hy; obtain ⟨_, -, rfl⟩ := hy; rfl
  have hS3 : StN 60 (w2.drew.setCells L (16 + h * 10) (ints ((List.range 8).map fun j => upd (enc s) (12 + wd) v (16 + h * 10 + 2 + j)))) L (shift (upd (enc s) (12 + wd) v) (16 + h * 10)) := by
    refine Row.eq (row_setCells _ (16 + h * 10) w2.drew _ HS.out.drew (by rw [hvs]; omega)) (fun j hj => ?_)
    unfold shift
    rw [hvs]
    by_cases e : 16 + h * 10 ≤ j ∧ j < 16 + h * 10 + 8
    · rw [if_pos e, if_pos e]
      have : j - (16 + h * 10) < 8 := by omega
      simp only [List.getD_eq_getElem?_getD]
      rw [List.getElem?_map, List.getElem?_range this]
      simp only [Option.map_some, Option.getD_some]
      congr 1; omega
    · rw [if_neg e, if_neg e]
  have hX3 : OnlyG [L] w (w2.drew.setCells L (16 + h * 10) (ints ((List.range 8).map fun j => upd (enc s) (12 + wd) v (16 + h * 10 + 2 + j)))) := og_cells _ _ _ HX.out.drew
  generalize (w2.drew.setCells L (16 + h * 10) (ints ((List.range 8).map fun j => upd (enc s) (12 + wd) v (16 + h * 10 + 2 + j)))) = w3 at HCP hS3 hX3
  have hm3 : shift (upd (enc s) (12 + wd) v) (16 + h * 10) (56 + h) = (r.length : Int) + 1 := by
    unfold shift; rw [if_neg (by omega), upd_other (by omega)]; simpa using HMA.out
  go_still_tail 12, (by kernel_rfl)
  change wpList _ _ _ _ _ w2.drew
  refine wpList_copy_at w2.drew rfl _ _ 107 107 rfl _ _ rfl rfl HCP.out ?_
  have HX := Lib.hid hX3
  have HS := Lib.hid hS3
  clear hX3 hS3 HCP
  have c3 := (HS.out (56 + h) (by omega)).1
  have g3 := (HS.out (56 + h) (by omega)).2
  simp only at c3 g3
  rw [hm3] at c3
  clear hm3
  have hwr : IntKind.i64.wrap (r.length : Int) = (r.length : Int) := IntWalk.i64_in _ (by omega)
  go_wp2_with fail
  go_region
  go_wp2_with fail
  have hS2 := (Row.set HS.out (i := 56 + h) (by omega) (fun j _ e => e) (r.length : Int)).drew
  have hX2 := (HX.out.set (b := L) (by simp) (56 + h) (.int .i64 (r.length : Int))).drew
  clear HS HX c3 g3
  generalize (w3.setCell ⟨L, 56 + h, none⟩ (.int .i64 (r.length : Int))).drew = w4 at hS2 hX2 ⊢
  have hlI : (r.length : Int) < 5 := by omega
  have c4 := (hS2 (56 + h) (by omega)).1
  have c5 := (hS2 (16 + h * 10 + r.length * 2) (by omega)).1
  have g5 := (hS2 (16 + h * 10 + r.length * 2) (by omega)).2
  have c6 := (hS2 (16 + h * 10 + r.length * 2 + 1) (by omega)).1
  have g6 := (hS2 (16 + h * 10 + r.length * 2 + 1) (by omega)).2
  simp only at c4 c5 g5 c6 g6
  rw [upd_same] at c4
  have HX := Lib.hid hX2
  have HS : Hid (StN 60 w4 L (upd (shift (upd (enc s) (12 + wd) v) (16 + h * 10)) (56 + h) (r.length : Int))) := hS2
  clear hX2 hS2
  go_region
  go_wp2_with fail
  go_end0
  exact ⟨rfl, Row.eq ((Row.set (Row.set HS.out (i := 16 + h * 10 + r.length * 2) (by omega) (fun j _ e => e) 0) (i := 16 + h * 10 + r.length * 2 + 1) (by omega) (fun j _ e => e) 0).drew) (fun j hj => HEF.out j hj), ((HX.out.set (by simp) _ _).set (by simp) _ _).drew⟩
end Go.Proofs.YtimbdjmplcgilaaDoor.Tso
