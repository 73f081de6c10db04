import Derived.Test.YtimbdjmplcgilaaDoorRfState
import Derived.Deep.AppendLies
import Derived.Deep.RegionLaw
namespace Go.Proofs.YtimbdjmplcgilaaDoor.Rf
open Go.RowKit Pr
set_option linter.unusedVariables false
set_option linter.unusedSimpArgs false

/-! What a state tells: the registers hand by hand, and the words. -/
def rregs (f : St) (k : Nat) : List Int := (List.range k).flatMap fun h => [f (h * 3 + 1), f (h * 3 + 2)]
theorem rregs_succ (f : St) (k : Nat) : rregs f (k + 1) = rregs f k ++ [f (k * 3 + 1)] ++ [f (k * 3 + 2)] := by
  simp [rregs, List.range_succ]
theorem rregs_len (f : St) (k : Nat) : (rregs f k).length = 2 * k := by
  induction k with
  | zero => rfl
  | succ k ih => rw [rregs_succ]; simp [ih]; omega
def rresult (words : Int) (p : List (List Ln)) (f : St) : List Int := rregs f p.length ++ (List.range words.toNat).map fun j => f (9 + j)
theorem rsrc {w : World} {L o n : Nat} {f : St} (h : Row w L 46 (fun j => j) f) (hn : o + n ≤ 46) :
    ∀ j u, (ints ((List.range n).map fun j => f (o + j)))[j]? = some u → w.cell? (Addr.add ⟨L, o, none⟩ j) = some u := by
  intro j u hu
  have hj : j < n := by
    have := (List.getElem?_eq_some_iff.1 hu).1
    simpa [ints] using this
  have e1 : Addr.add ⟨L, o, none⟩ j = ⟨L, o + j, none⟩ := by
    unfold Addr.add; split
    · subst_vars; rfl
    · rfl
  rw [e1, (h (o + j) (by omega)).1]
  simpa [ints, hj] using hu
/-- A row of one named type onto one of another, whose elements are alike. -/
theorem append_two {P : Program} {t t2 e : TypeId} (ht : P.underlying t = some (.slice e)) (ht2 : P.underlying t2 = some (.slice e)) (ty : TypeId) (v x : Value) (w : World) :
    (Builtin.append_ #[t, t2] ty #[v, x]).run P w = (Builtin.append_ #[t, t] ty #[v, x]).run P w := by
  unfold Builtin.append_
  simp only [List.getElem?_toArray, List.getElem?_cons_zero, List.getElem?_cons_succ, Sem.run_bind, run_underlying ht, run_underlying ht2, Result.andThen_ok]
  cases v <;> simp only [Sem.run_bind, run_underlying ht, run_underlying ht2, Result.andThen_ok]
theorem wpList_append_two {P : Program} {w : World} {ops : Array Oper} {rest : List Oper} {o : Oper} {a : Act} {Q : Exit → Act → World → Prop} (hgd : o.guard = none) (s x : Operand) (t t2 : TypeId)
    (ho : o.op = .call { callee := .builtin .append, args := #[s, x], argTypes := #[t, t2] })
    (base : Nat) (e : TypeId) (i : TypeInfo) (z : Value) (size bytes : Nat) (ht : P.underlying t = some (.slice e)) (ht2 : P.underlying t2 = some (.slice e)) (hi : P.info? e = some i) (hz : i.zero = some z)
    (hsize : i.size = size) (hby : i.bytes = bytes) (hzs : z.cells.size = size) (hsz : 0 < size)
    (v : Value) (n : Nat) (xs : List Value) (hs : a.eval s = v) (hown : w.ownsRow base e size v n xs)
    (ad : Addr) (m c : Nat) (news : List Value) (hx : a.eval x = .slice (some ad) m c) (hl : news.length = m * size) (hnews : ∀ j u, news[j]? = some u → w.cell? (ad.add j) = some u) (h1 : ∀ u ∈ news, u.oneCell' = true)
    (h63 : n + m ≤ maxLen) (hbytes : (n + m) * bytes ≤ 140737488355328) (hbase : base ≤ w.heap.size)
    (h : ∀ v' w', w'.ownsRow base e size v' (n + m) (xs ++ news) → w.grownBy w' v.ownBlock → (v' = .slice none 0 0 ↔ v = .slice none 0 0 ∧ m = 0) → wpList P ops Q rest (a.put o.dst v') w') : wpList P ops Q (o :: rest) a w := by
  refine wpList_plain hgd fun K hK => ?_
  obtain ⟨v', w', hr, h2, h3, h4⟩ := run_append_own (P := P) w base t o.type e i z size bytes ht hi hz hsize hby hzs hsz v n xs hown ad m c news hl hnews h1 h63 hbytes hbase
  rw [← append_two ht ht2] at hr
  unfold Oper.wp execOp
  simp only [ho, resolve, invoke, builtin, Sem.run_bind, Sem.run_pure, Result.andThen_ok, List.map_toArray, List.map_cons, List.map_nil, hs, hx, hr]
  exact hK _ _ (h v' w' h2 h3 h4)
/-- The walk of result, amid. -/
structure RR (w : World) (words : Int) (u : Value) (L : Nat) (f : St) (R : List Int) (v : Value) (wr : World) : Prop where
  bel : Below w.heap.size w wr
  size : w.heap.size + 1 ≤ wr.heap.size
  box : Blk wr w.heap.size #[.int .i64 words, u] 24
  st : Row wr L 46 (fun j => j) f
  own : wr.ownsRow (w.heap.size + 1) 3 1 v R.length (ints R)
theorem RR.alloc {w wr : World} {words : Int} {u : Value} {L : Nat} {f : St} {R : List Int} {v : Value} (h : RR w words u L f R v wr) (hL : L < w.heap.size) (o : Obj) : RR w words u L f R v (wr.alloc o) := by
  have hs := h.size
  have k : Below wr.heap.size wr (wr.alloc o) := (Below.refl _ _).alloc (Nat.le_refl _) o
  exact ⟨h.bel.alloc h.bel.size o, Nat.le_trans h.size k.size, h.box.alloc o, h.st.keep (k.block _ (by omega)), h.own.alloc o⟩
theorem RR.grown {w wr w1 : World} {words : Int} {u : Value} {L : Nat} {f : St} {R N : List Int} {v v' : Value} {n : Nat} {cs : List Value} (h : RR w words u L f R v wr) (hL : L < w.heap.size)
    (hown : w1.ownsRow (w.heap.size + 1) 3 1 v' n cs) (hg : wr.grownBy w1 v.ownBlock) (hn : n = (R ++ N).length) (hc : cs = ints (R ++ N)) : RR w words u L f (R ++ N) v' w1 := by
  subst hn hc
  have hb : Below (w.heap.size + 1) wr w1 := (Below.refl _ _).grown hg h.size (own_base h.own)
  exact ⟨h.bel.trans (hb.mono (by omega)), Nat.le_trans h.size hb.size, h.box.below hb (by omega), h.st.keep (hb.block _ (by omega)), hown⟩

set_option maxHeartbeats 4000000 in
set_option maxRecDepth 100000 in
theorem result_any {w : World} {u v : Value} {words : Int} {p : List (List Ln)} {f : St} (hp : IsProg w u p) (hv : RV w v f) (h3 : p.length ≤ 3) (hw : 1 ≤ words ∧ words ≤ 4) :
    Calls Tryd.prog 21 #[.agg #[.int .i64 words, u], v] w fun e w' =>
      ∃ x, e = .returned x ∧ Gave (rresult words p f) w x w' ∧ Below w.heap.size w w' := by
  obtain ⟨L, capL, rfl, hcL, hLb, hs⟩ := hv
  obtain ⟨a, cap, rfl, hl, -⟩ := hp
  have HS := Lib.hid hs
  have HC := Lib.hid (cbox w words (.slice a p.length cap))
  obtain ⟨i0, hi, hz0, hz1, hz2⟩ := info_parts infoInt2
  obtain ⟨W, hW⟩ := Int.eq_ofNat_of_zero_le (show 0 ≤ words by omega)
  subst hW
  clear hs hl
  go_enter Tryd.func21, Tryd.ntmps21
  go_upto_region 1 with fail
  generalize w.alloc (.cells #[.int .i64 W, .slice a p.length cap] 24) = wx at HC ⊢
  have HRS : Hid (RR w W (.slice a p.length cap) L f (rregs f 0) (.slice none 0 0) wx) := ⟨HC.out.bel, HC.out.size, HC.out.box, HS.out.keep (HC.out.bel.block _ hLb), ⟨rfl, .inl ⟨rfl, rfl⟩⟩⟩
  clear HC HS
  go_wp2_with fail
  go_loopg [5, 6] (p.length + 1) (fun g x i wr => ∃ (k : Nat) (v : Value), k ≤ p.length ∧ k + g = p.length + 1 ∧ i = .int .i64 k ∧ x = v ∧ RR w W (.slice a p.length cap) L f (rregs f k) v wr)
  case atStart => exact ⟨0, _, by omega, by omega, rfl, rfl, HRS.out⟩
  case round =>
    clear HRS
    obtain ⟨k, v, hk, hkg, rfl, rfl, hr⟩ := hrel
    have HRS := Lib.hid hr
    have HKG := Lib.hid hkg
    clear hr hkg
    have b1 : wr.cell? ⟨w.heap.size, 1, none⟩ = some (.slice a p.length cap) := HRS.out.box.cell 1
    by_cases hkn : k < p.length
    · have hkI : (k : Int) < p.length := by omega
      have hk4 : (k : Int) < 3 := by omega
      have c1 := (HRS.out.st (k * 3 + 1) (by omega)).1
      have HA := Lib.hid (HRS.out.alloc hLb (.cells #[.int .i64 (f (k * 3 + 1))] 3))
      simp only at c1
      go_wp2_with (at_builtin; refine wpList_append_own _ rfl _ _ 47 rfl (w.heap.size + 1) 3 i0 (.int .i64 0) 1 8 Tryd.underlying47 hi hz0 hz1 hz2 rfl (by decide) _ (rregs f k).length (ints (rregs f k)) rfl HA.out.own ⟨wr.heap.size, 0, none⟩ 1 1 [.int .i64 (f (k * 3 + 1))] rfl rfl ?c1 ?c2 ?c3 ?c4 HA.out.size ?_)
      try (case c1 => exact fun j u h => news_cell wr _ _ j u h)
      case c2 => intro y hy; simp at hy; subst hy; rfl
      case c3 => rw [rregs_len]; unfold maxLen; omega
      case c4 => rw [rregs_len]; omega
      intro v' w1 hown hgrow _
      have hr := HA.out.grown (N := [f (k * 3 + 1)]) hLb hown hgrow (by simp) (by simp [ints])
      replace HRS := Lib.hid hr
      clear hr hown hgrow HA c1
      have c1 := (HRS.out.st (k * 3 + 2) (by omega)).1
      have HA := Lib.hid (HRS.out.alloc hLb (.cells #[.int .i64 (f (k * 3 + 2))] 3))
      simp only at c1
      go_wp2_with (at_builtin; refine wpList_append_own _ rfl _ _ 47 rfl (w.heap.size + 1) 3 i0 (.int .i64 0) 1 8 Tryd.underlying47 hi hz0 hz1 hz2 rfl (by decide) _ (rregs f k ++ [f (k * 3 + 1)]).length (ints (rregs f k ++ [f (k * 3 + 1)])) rfl HA.out.own ⟨w1.heap.size, 0, none⟩ 1 1 [.int .i64 (f (k * 3 + 2))] rfl rfl ?d1 ?d2 ?d3 ?d4 HA.out.size ?_)
      try (case d1 => exact fun j u h => news_cell w1 _ _ j u h)
      case d2 => first | rfl | (intro y hy; simp at hy; subst hy; rfl)
      case d3 => rw [List.length_append, rregs_len]; unfold maxLen; simp; omega
      case d4 => rw [List.length_append, rregs_len]; simp; omega
      intro v' w2 hown hgrow _
      have hr := HA.out.grown (N := [f (k * 3 + 2)]) hLb hown hgrow (by simp) (by simp [ints])
      rw [← rregs_succ] at hr
      replace HRS := Lib.hid hr
      clear hr hown hgrow HA c1
      go_wp2_with fail
      go_roundg (p.length - k)
      case measure => have := HKG.out; omega
      case rel => exact ⟨k + 1, _, by omega, by omega, by go_num, rfl, HRS.out⟩
    · obtain rfl : k = p.length := by omega
      have b0 : wr.cell? ⟨w.heap.size, 0, none⟩ = some (.int .i64 W) := HRS.out.box.cell 0
      have hW4 : W ≤ 4 := by omega
      have hW1 : 0 < W := by omega
      have HN : Hid (∀ j u, (ints ((List.range W).map fun j => f (9 + j)))[j]? = some u → wr.cell? (Addr.add ⟨L, 9, none⟩ j) = some u) := rsrc (o := 9) (n := W) HRS.out.st (by omega)
      have H1 : Hid (∀ u ∈ ints ((List.range W).map fun j => f (9 + j)), u.oneCell' = true) := by intro y hy; simp [ints] at hy; obtain ⟨j, -, rfl⟩ := hy; rfl
      have hW4I : (W : Int) ≤ 4 := by omega
      go_wp2_with (at_builtin; refine wpList_append_two rfl _ _ 47 48 rfl (w.heap.size + 1) 3 i0 (.int .i64 0) 1 8 Tryd.underlying47 Tryd.underlying48 hi hz0 hz1 hz2 rfl (by decide) _ (rregs f p.length).length (ints (rregs f p.length)) rfl HRS.out.own ⟨L, 9, none⟩ (9 + W - 9) (capL - 9) (ints ((List.range W).map fun j => f (9 + j))) rfl ?g0 HN.out H1.out ?g3 ?g4 HRS.out.size ?_)
      case g0 => simp [ints]
      case g3 => rw [rregs_len]; unfold maxLen; omega
      case g4 => rw [rregs_len]; omega
      intro v' w4 hown hgrow _
      have HF := Lib.hid (HRS.out.grown (N := (List.range W).map fun j => f (9 + j)) hLb hown hgrow (by simp) (by simp [ints]))
      clear hown hgrow
      go_wp2_with fail
      have hlen : (rregs f p.length ++ (List.range W).map fun j => f (9 + j)).length ≠ 0 := by simp; omega
      obtain ⟨g, cap', hv, hg, hlt, hrow⟩ := own_ints HF.out.own hlen
      have er : rresult W p f = rregs f p.length ++ (List.range W).map fun j => f (9 + j) := by simp [rresult]
      rw [← er] at hv hrow hg
      refine bodyPost_ret (results_tmp (by rfl) _ _ _) rfl ?_
      exact ⟨_, rfl, ⟨g, cap', hv, ⟨by omega, hg.2⟩, hlt, hrow⟩, HF.out.bel⟩
end Go.Proofs.YtimbdjmplcgilaaDoor.Rf
