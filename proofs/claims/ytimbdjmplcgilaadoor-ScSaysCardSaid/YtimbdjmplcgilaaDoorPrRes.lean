import Derived.Test.YtimbdjmplcgilaaDoorPrDo
import Derived.Test.YtimbdjmplcgilaaDoorPrCheck
import Derived.Deep.AppendLies
namespace Go.Proofs.YtimbdjmplcgilaaDoor.Pr
open Go.RowKit
set_option linter.unusedVariables false

theorem do_any {w : World} {L h : Nat} {f : St} {l : Ln} {words : Int} (hg : Good words l) (hw : words ≤ 4) (hs : StAt w L f) (h4 : h < 4) (h0 : 0 ≤ f h ∧ f h ≤ 10) :
    Calls Tryd.prog 28 #[.pointer (some ⟨L, 0, none⟩), .int .i64 h, lnVal l] w fun e w' =>
      e = .returned (.tuple #[]) ∧ StAt w' L (done f h l) ∧ OnlyG [L] w w' := by
  obtain ⟨k, r, wd, v⟩ := l
  obtain ⟨g1, g2, g3, g4, g5⟩ := hg
  simp only at g1 g2 g3 g4 g5
  have hR : (r ≤ 0 ∧ (if 0 < r then 1 else 0) = 0) ∨ (1 ≤ r ∧ (if 0 < r then 1 else 0) = 1) := by split <;> omega
  unfold lnVal
  simp only
  by_cases k0 : k = 0
  · subst k0; exact do_0 hs h4 h0 hR
  · by_cases k4 : k = 4
    · subst k4; exact do_4 hs h4 h0 hR
    · by_cases k5 : k = 5
      · subst k5; exact do_5 hs h4 h0 hR (g5 rfl)
      · have hwd := g3 (by omega) (by omega)
        obtain ⟨W, rfl⟩ := Int.eq_ofNat_of_zero_le hwd.1
        obtain rfl | rfl | rfl : k = 1 ∨ k = 2 ∨ k = 3 := by omega
        · exact do_1 hs h4 h0 hR (by omega)
        · exact do_2 hs h4 h0 hR (by omega)
        · exact do_3 hs h4 h0 hR (by omega)

/-- The cells of a row of numbers. -/
def ints (l : List Int) : List Value := l.map (.int .i64)
/-- New memory that holds a row of numbers. -/
def Gave (R : List Int) (w : World) (v : Value) (w' : World) : Prop :=
  ∃ g cap, v = .slice (some ⟨g, 0, none⟩) R.length cap ∧ (w.heap.size ≤ g ∧ R.length ≤ cap) ∧ g < w'.heap.size ∧ Row w' g R.length (fun j => j) (fun j => R.getD j 0)
theorem own_ints {w : World} {base : Nat} {e : TypeId} {v : Value} {R : List Int} (h : w.ownsRow base e 1 v R.length (ints R)) (hn : R.length ≠ 0) :
    ∃ g cap, v = .slice (some ⟨g, 0, none⟩) R.length cap ∧ (base ≤ g ∧ R.length ≤ cap) ∧ g < w.heap.size ∧ Row w g R.length (fun j => j) (fun j => R.getD j 0) := by
  obtain ⟨g, cap, cur, hv, hg, hb, hc, hs, ht⟩ := own_slice h hn
  refine ⟨g, cap, hv, ⟨hg, hc⟩, hb.lt, fun j hj => ⟨?_, hb.free _⟩⟩
  have h1 : (cur.toList.take (R.length * 1))[j]? = some (.int .i64 (R.getD j 0)) := by
    rw [ht]; simp [ints, List.getD_eq_getElem?_getD, hj]
  rw [List.getElem?_take_of_lt (by omega)] at h1
  rw [hb.cell]; simpa using h1
theorem infoInt2 : (Tryd.prog.info? 3).map (fun i => (i.zero, i.size, i.bytes)) = some (some (.int .i64 0), 1, 8) := by kernel_rfl
/-- The registers of the first hands. -/
def regs (f : St) (k : Nat) : List Int := (List.range (2 * k)).map (fun j => f (4 + j))
theorem regs_succ (f : St) (k : Nat) : regs f (k + 1) = regs f k ++ [f (4 + k * 2), f (4 + k * 2 + 1)] := by
  unfold regs
  rw [show 2 * (k + 1) = 2 * k + 1 + 1 by omega, List.range_succ, List.range_succ]
  simp
  constructor <;> congr 1 <;> omega
theorem regs_len (f : St) (k : Nat) : (regs f k).length = 2 * k := by simp [regs]
/-- Where a row of cells lies behind another cell. -/
theorem src_cell {w : World} {L o n : Nat} {f : St} (h : Row w L 16 (fun j => j) f) (hn : o + n ≤ 16) :
    ∀ j u, (ints ((List.range n).map fun j => f (o + j)))[j]? = some u → w.cell? (Addr.add ⟨L, o, none⟩ j) = some u := by
  intro j u hu
  have hj : j < n := by
    have := (List.getElem?_eq_some_iff.1 hu).1
    simpa [ints] using this
  have e1 : Addr.add ⟨L, o, none⟩ j = ⟨L, o + j, none⟩ := by
    unfold Addr.add; split
    · subst_vars; rfl
    · rfl
  rw [e1, (h (o + j) (by omega)).1]
  simpa [ints, hj] using hu

/-- The walk of Result, amid. -/
structure RS (w : World) (words : Int) (u : Value) (L : Nat) (f : St) (R : List Int) (v : Value) (wr : World) : Prop where
  bel : Below w.heap.size w wr
  size : w.heap.size + 1 ≤ wr.heap.size
  box : Blk wr w.heap.size #[.int .i64 words, u] 24
  st : StAt wr L f
  own : wr.ownsRow (w.heap.size + 1) 3 1 v R.length (ints R)
theorem RS.grown {w wr w1 : World} {words : Int} {u : Value} {L : Nat} {f : St} {R N : List Int} {v v' : Value} {n : Nat} {cs : List Value} (h : RS w words u L f R v wr) (hL : L < w.heap.size)
    (hown : w1.ownsRow (w.heap.size + 1) 3 1 v' n cs) (hg : wr.grownBy w1 v.ownBlock) (hn : n = (R ++ N).length) (hc : cs = ints (R ++ N)) : RS w words u L f (R ++ N) v' w1 := by
  subst hn hc
  have hb : Below (w.heap.size + 1) wr w1 := (Below.refl _ _).grown hg h.size (own_base h.own)
  exact ⟨h.bel.trans (hb.mono (by omega)), Nat.le_trans h.size hb.size, h.box.below hb (by omega), h.st.keep (hb.block _ (by omega)), hown⟩

set_option maxHeartbeats 4000000 in
set_option maxRecDepth 100000 in
theorem result_any {w : World} {L : Nat} {u : Value} {words : Int} {p : List (List Ln)} {f : St} (hp : IsProg w u p) (hs : StAt w L f) (h3 : p.length ≤ 3) (hw : 1 ≤ words ∧ words ≤ 4) :
    Calls Tryd.prog 29 #[.pointer (some ⟨L, 0, none⟩), .agg #[.int .i64 words, u]] w fun e w' =>
      ∃ v, e = .returned v ∧ Gave (result words p f) w v w' ∧ Below w.heap.size w w' := by
  have hLb : L < w.heap.size := World.block_lt_of_cell? (w := w) (a := ⟨L, 0, none⟩) (hs 0 (by omega)).1
  obtain ⟨a, cap, rfl, hl, -⟩ := hp
  have HS := Lib.hid hs
  have HC := Lib.hid (cbox w words (.slice a p.length cap))
  obtain ⟨i0, hi, hz0, hz1, hz2⟩ := info_parts infoInt2
  obtain ⟨W, hW⟩ := Int.eq_ofNat_of_zero_le (show 0 ≤ words by omega)
  subst hW
  clear hs hl
  go_enter Tryd.func29, Tryd.ntmps29
  go_wp2_with fail
  generalize w.alloc (.cells #[.int .i64 W, .slice a p.length cap] 24) = wx at HC ⊢
  have b1 : wx.cell? ⟨w.heap.size, 1, none⟩ = some (.slice a p.length cap) := HC.out.box.cell 1
  have HRS : Hid (RS w W (.slice a p.length cap) L f [] (.slice none 0 0) wx) := ⟨HC.out.bel, HC.out.size, HC.out.box, HS.out.keep (HC.out.bel.block _ hLb), ⟨rfl, .inl ⟨rfl, rfl⟩⟩⟩
  clear HC HS
  go_wp2_with fail
  go_loopg [5, 10] (p.length + 1) (fun g x i wr => ∃ (k : Nat) (v : Value), k ≤ p.length ∧ k + g = p.length + 1 ∧ i = .int .i64 k ∧ x = v ∧ RS w W (.slice a p.length cap) L f (regs f k) v wr)
  case atStart => exact ⟨0, _, by omega, by omega, rfl, rfl, HRS.out⟩
  case round =>
    clear HRS b1
    obtain ⟨k, v, hk, hkg, rfl, rfl, hr⟩ := hrel
    have HRS := Lib.hid hr
    have HKG := Lib.hid hkg
    clear hr hkg
    by_cases hkn : k < p.length
    · have hkI : (k : Int) < p.length := by omega
      have hk4 : (k : Int) < 4 := by omega
      go_wp2_with (at_builtin; refine wpList_append_own _ rfl _ _ 47 rfl (w.heap.size + 1) 3 i0 (.int .i64 0) 1 8 Tryd.underlying47 hi hz0 hz1 hz2 rfl (by decide) _ (regs f k).length (ints (regs f k)) rfl HRS.out.own ⟨L, 4 + k * 2, none⟩ 2 2 (ints [f (4 + k * 2), f (4 + k * 2 + 1)]) rfl rfl ?c1 ?c2 ?c3 ?c4 HRS.out.size ?_)
      case c1 => exact src_cell (o := 4 + k * 2) (n := 2) HRS.out.st (by omega)
      case c2 => intro y hy; simp [ints] at hy; rcases hy with rfl | rfl <;> rfl
      case c3 => rw [regs_len]; unfold maxLen; omega
      case c4 => rw [regs_len]; omega
      intro v' w1 hown hgrow _
      have hr := HRS.out.grown (N := [f (4 + k * 2), f (4 + k * 2 + 1)]) hLb hown hgrow (by simp) (by simp [ints])
      rw [← regs_succ] at hr
      replace HRS := Lib.hid hr
      clear hr hown hgrow
      go_wp2_with fail
      go_roundg (p.length - k)
      case measure => have := HKG.out; omega
      case rel => exact ⟨k + 1, _, by omega, by omega, by go_num, rfl, HRS.out⟩
    · obtain rfl : k = p.length := by omega
      have b0 : wr.cell? ⟨w.heap.size, 0, none⟩ = some (.int .i64 W) := HRS.out.box.cell 0
      have hW4 : W ≤ 4 := by omega
      go_wp2_with fail
      have HD : Hid (RS w W (.slice a p.length cap) L f (regs f p.length) u5 wr.drew) := ⟨HRS.out.bel.trans (Below.todrewN (Below.refl _ _) 1), HRS.out.size, HRS.out.box, HRS.out.st, HRS.out.own⟩
      have HN : Hid (∀ j u, (ints ((List.range W).map fun j => f (12 + j)))[j]? = some u → wr.drew.cell? (Addr.add ⟨L, 12, none⟩ j) = some u) := src_cell (o := 12) (n := W) HD.out.st (by omega)
      have H1 : Hid (∀ u ∈ ints ((List.range W).map fun j => f (12 + j)), u.oneCell' = true) := by intro y hy; simp [ints] at hy; obtain ⟨j, -, rfl⟩ := hy; rfl
      have e63 : (regs f p.length).length + W ≤ maxLen := by rw [regs_len]; unfold maxLen; omega
      have eby : ((regs f p.length).length + W) * 8 ≤ 140737488355328 := by rw [regs_len]; omega
      have hW1 : 0 < W := by omega
      have hnl : (ints ((List.range W).map fun j => f (12 + j))).length = W * 1 := by simp [ints]
      have hW4I : (W : Int) ≤ 4 := by omega
      have HNL := Lib.hid hnl
      have HZ : Hid (wr.drew.heap.size = wr.heap.size) := rfl
      clear hnl HRS
      go_region_law ((refine step_append_lies _ (by rfl) (.tmp 22) (.tmp 28) 47 (by rfl) (w.heap.size + 1) 3 i0 (.int .i64 0) 1 8 Tryd.underlying47 hi hz0 hz1 hz2 rfl (by decide) u5 (regs f p.length).length (ints (regs f p.length)) (by rfl) HD.out.own ⟨L, 12, none⟩ W 4 (ints ((List.range W).map fun j => f (12 + j))) (by rfl) HNL.out HN.out H1.out hW1 e63 eby HD.out.size wr.heap.size HZ.out ?_; intro g2 cap2 w4 hown4 hgrow4 hat4 hlt4; have HF := Lib.hid (HD.out.grown (N := (List.range W).map fun j => f (12 + j)) hLb hown4 hgrow4 (by simp) (by simp [ints])); clear hown4 hgrow4 hat4 hlt4))
      all_goals go_wp2_with fail
      have er : result W p f = regs f p.length ++ (List.range W).map fun j => f (12 + j) := by simp [result, regs]
      have hlen : (regs f p.length ++ (List.range W).map fun j => f (12 + j)).length ≠ 0 := by simp; omega
      obtain ⟨g, cap', hv, hg, hlt, hrow⟩ := own_ints HF.out.own hlen
      rw [← er] at hv hrow hg
      refine bodyPost_ret (results_tmp (by rfl) _ _ _) rfl ?_
      exact ⟨_, rfl, ⟨g, cap', hv, ⟨by omega, hg.2⟩, hlt, hrow⟩, HF.out.bel⟩
end Go.Proofs.YtimbdjmplcgilaaDoor.Pr
