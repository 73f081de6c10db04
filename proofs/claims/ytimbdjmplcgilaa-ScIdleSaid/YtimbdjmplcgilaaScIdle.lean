import Derived.Test.YtimbdjmplcgilaaScTurned
namespace Go.Proofs.Ytimbdjmplcgilaa.Sc
open Go.RowKit Pr SortFn
set_option linter.unusedVariables false

theorem Told.form {words : Int} {p : List (List Ln)} {w w' : World} {e : Ending} (h : Told words p w w' e) : ∃ v er, e = .returned (.tuple #[v, er]) := by
  cases h with
  | err h => exact ⟨_, _, rfl⟩
  | ok h => exact ⟨_, _, rfl⟩
theorem RTold.form {words : Int} {p : List (List Ln)} {e : Ending} (h : RTold words p e) : ∃ v er, e = .returned (.tuple #[v, er]) := by
  cases h with
  | err h => exact ⟨_, _, rfl⟩
  | yes h => exact ⟨_, _, rfl⟩
  | no h => exact ⟨_, _, rfl⟩
theorem Told.bad {words : Int} {p : List (List Ln)} {w w' : World} {e : Ending} (h : Told words p w w' e) (hc : check words p ≠ 0) : e = .returned (.tuple #[.slice none 0 0, .iface 81 (.int .i64 (check words p))]) := by
  cases h with
  | err h => rfl
  | ok h => exact absurd h hc
theorem RTold.bad {words : Int} {p : List (List Ln)} {e : Ending} (h : RTold words p e) (hc : check words p ≠ 0) : e = .returned (.tuple #[.bool false, .iface 81 (.int .i64 (check words p))]) := by
  cases h with
  | err h => rfl
  | yes h => exact absurd h hc
  | no h => exact absurd h hc
theorem RTold.good {words : Int} {p : List (List Ln)} {e : Ending} (h : RTold words p e) (hc : check words p = 0) {r : Bool} (hr : r = true ↔ Races p) : e = .returned (.tuple #[.bool r, .nilIface]) := by
  cases h with
  | err h => exact absurd hc h
  | yes h hy => rw [hr.2 hy]
  | no h hn =>
    cases r with
    | true => exact absurd (hr.1 rfl) hn
    | false => rfl
theorem Told.good {words : Int} {p : List (List Ln)} {w w' : World} {e : Ending} (h : Told words p w w' e) (hc : check words p = 0) : ∃ a cap R, e = .returned (.tuple #[.slice a R.length cap, .nilIface]) ∧ Mat w' (.slice a R.length cap) R ∧ Res words p R ∧ R.length ≤ 21523360 := by
  cases h with
  | err h => exact absurd hc h
  | @ok v R h hM hR hl =>
    obtain ⟨a, cap, rfl, h2⟩ := hM
    exact ⟨a, cap, R, rfl, ⟨a, cap, rfl, h2⟩, hR, hl⟩
theorem races_bool (p : List (List Ln)) : ∃ r : Bool, (r = true ↔ Races p) := by
  by_cases h : Races p
  · exact ⟨true, by simp [h]⟩
  · exact ⟨false, by simp [h]⟩
/-- The values of the hands of a program. -/
theorem prog_vals {w : World} {b o n cap : Nat} {p : List (List Ln)} (h : IsProg w (.slice (some ⟨b, o, none⟩) n cap) p) :
    ∃ vals : List Value, vals.length = p.length ∧ (∀ j u, vals[j]? = some u → w.cell? (Addr.add ⟨b, o, none⟩ j) = some u) ∧ (∀ u ∈ vals, u.oneCell' = true) ∧ ∀ j x, vals[j]? = some x → HandAt w x (lines p j) := by
  obtain ⟨a, cap', e, -, hj⟩ := h
  cases e
  have key : ∀ j, j < p.length → ∃ x, w.cell? ⟨b, o + j, none⟩ = some x ∧ HandAt w x (lines p j) := fun j hj' => by
    obtain ⟨b', o', e, -, x, hx, hh⟩ := hj j hj'
    cases e
    exact ⟨x, hx, hh⟩
  have ea : ∀ j, (Addr.add ⟨b, o, none⟩ j) = ⟨b, o + j, none⟩ := fun j => by
    unfold Addr.add; split
    · subst_vars; rfl
    · rfl
  have get : ∀ j u, ((List.range p.length).map fun h => (w.cell? ⟨b, o + h, none⟩).getD undef)[j]? = some u → j < p.length ∧ w.cell? ⟨b, o + j, none⟩ = some u := by
    intro j u hu
    have hj' : j < p.length := by
      have := (List.getElem?_eq_some_iff.1 hu).1
      simpa using this
    obtain ⟨x, hx, hh⟩ := key j hj'
    simp [hj', hx] at hu
    exact ⟨hj', by rw [hx, hu]⟩
  refine ⟨(List.range p.length).map fun h => (w.cell? ⟨b, o + h, none⟩).getD undef, by simp, fun j u hu => by rw [ea]; exact (get j u hu).2, fun u hu => ?_, fun j x hx => ?_⟩
  · obtain ⟨j, hj'⟩ := List.getElem?_of_mem hu
    obtain ⟨h1, h2⟩ := get j u hj'
    obtain ⟨x, hx, a2, cap2, e, -⟩ := key j h1
    rw [h2] at hx
    cases hx
    rw [e]; rfl
  · obtain ⟨h1, h2⟩ := get j x hx
    obtain ⟨y, hy, hh⟩ := key j h1
    rw [h2] at hy
    cases hy
    exact hh
theorem own_form {w : World} {base : Nat} {e : TypeId} {size : Nat} {v : Value} {n : Nat} {xs : List Value} (h : w.ownsRow base e size v n xs) : ∃ a m cap, v = .slice a m cap := by
  rcases h.2 with ⟨hv, -⟩ | ⟨g, cap, cur, hv, -⟩
  · exact ⟨_, _, _, hv⟩
  · exact ⟨_, _, _, hv⟩
/-- The hands, and one more that has no lines. -/
theorem prog_idle {w : World} {base n : Nat} {e : TypeId} {v : Value} {p : List (List Ln)} {vals cs : List Value} (h : w.ownsRow base e 1 v n cs) (hn : n = p.length + 1) (hc : cs = vals ++ [.slice none 0 0]) (hl : p.length ≤ 1000) (hlv : vals.length = p.length)
    (hv : ∀ j x, vals[j]? = some x → HandAt w x (lines p j)) : IsProg w v (p ++ [[]]) := by
  subst hn hc
  obtain ⟨g, cap, cur, rfl, hg, hb, hc, hs, ht⟩ := own_slice h (by omega)
  refine ⟨_, cap, by simp, by simp [maxLen]; omega, fun i hi => ⟨g, 0, rfl, hb.lt, ?_⟩⟩
  have hi' : i < p.length + 1 := by simpa using hi
  have hx : ∀ y, (vals ++ [.slice none 0 0])[i]? = some y → w.cell? ⟨g, 0 + i, none⟩ = some y := by
    intro y hy
    rw [hb.cell, Nat.zero_add]
    rw [← ht, List.getElem?_take_of_lt (by omega)] at hy
    simpa using hy
  by_cases hip : i < p.length
  · have : ∃ y, vals[i]? = some y := ⟨_, List.getElem?_eq_getElem (by omega)⟩
    obtain ⟨y, hy⟩ := this
    exact ⟨y, hx y (by rw [List.getElem?_append_left (by omega)]; exact hy), by rw [lines_idle]; exact hv i y hy⟩
  · obtain rfl : i = p.length := by omega
    refine ⟨.slice none 0 0, hx _ (by rw [← hlv, List.getElem?_append_right (Nat.le_refl _)]; simp), ?_⟩
    have e : lines (p ++ [[]]) p.length = [] := by
      rw [lines_idle]; unfold lines
      simp [List.getD_eq_getElem?_getD]
    rw [e]
    exact ⟨none, 0, rfl, by simp, fun j hj => by simp at hj⟩
/-- Nothing is appended to nil. -/
theorem wpList_append_nothing {P : Program} (w : World) {ops : Array Oper} {rest : List Oper} {o : Oper} {a : Act} {Q : Exit → Act → World → Prop} (hgd : o.guard = none) (s x : Operand) (t : TypeId)
    (ho : o.op = .call { callee := .builtin .append, args := #[s, x], argTypes := #[t, t] }) (hs : a.eval s = .slice none 0 0) (ad : Option Addr) (cap : Nat) (hx : a.eval x = .slice ad 0 cap)
    (happ : ∀ ty, (Builtin.append_ #[t, t] ty #[.slice none 0 0, .slice ad 0 cap]).run P w = .ok (.slice none 0 0) w)
    (h : wpList P ops Q rest (a.put o.dst (.slice none 0 0)) w) : wpList P ops Q (o :: rest) a w := by
  refine wpList_plain hgd fun K hK => ?_
  unfold Oper.wp execOp
  simp only [ho, resolve, invoke, builtin, Sem.run_bind, Sem.run_pure, Result.andThen_ok, List.map_toArray, List.map_cons, List.map_nil, hs, hx, happ]
  exact hK _ _ h
theorem run_append_nothing (w : World) (ad : Option Addr) (cap : Nat) (ty : TypeId) : (Builtin.append_ #[24, 24] ty #[.slice none 0 0, .slice ad 0 cap]).run Try.prog w = .ok (.slice none 0 0) w := by
  cases ad <;> kernel_rfl
theorem infoHand : (Try.prog.info? 22).map (fun i => (i.zero, i.size, i.bytes)) = some (some (.slice none 0 0), 1, 24) := by kernel_rfl

/-- The second program amid: its box, and its hands in new memory. -/
structure IX (w : World) (words : Int) (u : Value) (Bq : Nat) (v : Value) (n : Nat) (cs : List Value) (wr : World) : Prop where
  bel : Below w.heap.size w wr
  lt : w.heap.size < Bq
  size : Bq + 1 ≤ wr.heap.size
  box : Blk wr w.heap.size #[.int .i64 words, u] 26
  q : Blk wr Bq #[.int .i64 words, v] 26
  own : wr.ownsRow (Bq + 1) 22 1 v n cs
theorem IX.since {w : World} {words : Int} {u : Value} {Bq : Nat} {v : Value} {n : Nat} {cs : List Value} {wr wa w1 : World} (h : IX w words u Bq v n cs wr) (ha : Below (Bq + 1) wr wa) (hg : wa.grownBy w1 v.ownBlock) : Below (Bq + 1) wr w1 :=
  ha.grown hg (Nat.le_trans h.size ha.size) (own_base h.own)
theorem IX.put {w : World} {words : Int} {u : Value} {Bq : Nat} {v v' : Value} {n n' : Nat} {cs cs' : List Value} {wr w1 : World} (h : IX w words u Bq v n cs wr) (hb : Below (Bq + 1) wr w1) (hown : w1.ownsRow (Bq + 1) 22 1 v' n' cs') : IX w words u Bq v' n' cs' (w1.setCell ⟨Bq, 1, none⟩ v') := by
  have hlt := h.lt
  refine ⟨(h.bel.trans (hb.mono (by omega))).setCell (p := ⟨Bq, 1, none⟩) (by show _ ≤ Bq; omega) _, hlt, by have := h.size; have := hb.size; simp; omega, (h.box.below hb (by omega)).other (by omega) _ _, ?_, ownsRow_setCell_below hown (by show Bq < _; omega) _⟩
  exact Blk.eq ((h.q.below hb (by omega)).set 1 v') (by simp)

set_option maxHeartbeats 8000000 in
set_option maxRecDepth 100000 in
theorem law_idle {w : World} {words : Int} {u : Value} {p : List (List Ln)} (hp : IsProg w u p) :
    Calls Try.prog 4 #[.agg #[.int .i64 words, u]] w fun e w' => e = .returned (.bool true) ∧ Below w.heap.size w w' := by
  have HP := Lib.hid hp
  have HC := Lib.hid (cbox w words u)
  obtain ⟨a, cap, rfl, hl, hjj⟩ := hp
  unfold maxLen at hl
  obtain ⟨i0, hi, hz0, hz1, hz2⟩ := info_parts infoInt2
  obtain ⟨i1, hi1, hy0, hy1, hy2⟩ := info_parts infoHand
  go_enter Try.func4, Try.ntmps4
  go_upto_region 1 with fail
  generalize w.alloc (.cells #[.int .i64 words, .slice a p.length cap] 26) = wx at HC ⊢
  go_wp2_with fail
  refine scFact_any.mono ?_
  rintro e w1 ⟨rfl, hb1⟩
  replace HC := Lib.hid (HC.out.below hb1)
  clear hb1
  have b0 : w1.cell? ⟨w.heap.size, 0, none⟩ = some (.int .i64 words) := HC.out.box.cell 0
  have b1 : w1.cell? ⟨w.heap.size, 1, none⟩ = some (.slice a p.length cap) := HC.out.box.cell 1
  by_cases h2 : 2 < p.length
  · have h2I : (p.length : Int) > 2 := by omega
    clear hjj
    go_wp2_with fail
    go_ret
    exact ⟨rfl, HC.out.bel⟩
  · have h2I : decide ((p.length : Int) > 2) = false := by simp; omega
    have HJJ := Lib.hid hjj
    clear hjj
    go_upto_region 7 with fail
    have HC2 := Lib.hid (HC.out.alloc (.cells #[.int .i64 words, .slice none 0 0] 26))
    have HQ := Lib.hid (Blk.new w1 #[.int .i64 words, .slice none 0 0] 26)
    have hBq : w.heap.size < w1.heap.size := by have := HC.out.size; omega
    clear HC b0 b1
    generalize w1.alloc (.cells #[.int .i64 words, .slice none 0 0] 26) = w2 at HC2 HQ ⊢
    generalize w1.heap.size = Bq at HQ hBq ⊢
    by_cases h0 : p.length = 0
    · have b0 : w2.cell? ⟨w.heap.size, 0, none⟩ = some (.int .i64 words) := HC2.out.box.cell 0
      have b1 : w2.cell? ⟨w.heap.size, 1, none⟩ = some (.slice a p.length cap) := HC2.out.box.cell 1
      have q0 : w2.cell? ⟨Bq, 0, none⟩ = some (.int .i64 words) := HQ.out.cell 0
      have q1 : w2.cell? ⟨Bq, 1, none⟩ = some (.slice none 0 0) := HQ.out.cell 1
      rw [h0] at b1
      have f1 := HQ.out.free 1
      have hpn : p = [] := by simpa using h0
      subst hpn
      have HCKN : Hid (check words [] ≠ 0) := by
        show _ ≠ _
        intro h
        have := (fine_of h).n
        simp at this
      have HLB : Hid (w.heap.size < w2.heap.size) := by have := HC2.out.size; show _ < _; omega
      have HX : Hid (IX w words (.slice a ([] : List (List Ln)).length cap) Bq (.slice none 0 0) 0 [] w2) := ⟨HC2.out.bel, hBq, HQ.out.lt, HC2.out.box, HQ.out, World.ownsRow_nil w2 _ _ _⟩
      have HX3 := Lib.hid (HX.out.put (Below.refl _ _) (World.ownsRow_nil w2 _ _ _))
      go_upto_region 8 with (at_builtin; refine wpList_append_nothing _ rfl _ _ 24 rfl rfl a cap rfl (run_append_nothing _ _ _) ?_)
      clear q0 q1 b0 b1 f1 HX HQ HC2
      generalize w2.setCell ⟨Bq, 1, none⟩ (.slice none 0 0) = w4 at HX3 ⊢
      have q1 : w4.cell? ⟨Bq, 1, none⟩ = some (.slice none 0 0) := HX3.out.q.cell 1
      have HOW2 : Hid ((w4.alloc (.cells #[.slice none 0 0] 22)).ownsRow (Bq + 1) 22 1 (.slice none 0 0) 0 []) := HX3.out.own.alloc (.cells #[.slice none 0 0] 22)
      have HA : Hid (Below (Bq + 1) w4 (w4.alloc (.cells #[.slice none 0 0] 22))) := (Below.refl _ _).alloc HX3.out.size _
      go_wp2_with (at_builtin; refine wpList_append_own _ rfl _ _ 24 rfl (Bq + 1) 22 i1 (.slice none 0 0) 1 24 Try.underlying24 hi1 hy0 hy1 hy2 rfl (by decide) (.slice none 0 0) 0 [] rfl HOW2.out ⟨w4.heap.size, 0, none⟩ 1 1 [.slice none 0 0] rfl rfl ?n1 ?n2 ?n3 ?n4 ?n5 ?_)
      try (case n1 => exact fun j u h => news_cell w4 _ _ j u h)
      case n2 => first | rfl | (intro y hy; simp at hy; subst hy; rfl)
      case n3 => unfold maxLen; omega
      case n4 => omega
      case n5 => exact Nat.le_trans HX3.out.size HA.out.size
      intro v' w5 hown hgrow _
      have hb5 := HX3.out.since HA.out hgrow
      have hw5 := HX3.out.q.below hb5 (by omega)
      have hq1 : w5.cell? ⟨Bq, 1, none⟩ = some (.slice none 0 0) := hw5.cell 1
      have hf1 := hw5.free 1
      obtain ⟨x2, m2, c2, rfl⟩ := own_form hown
      have HX5 := Lib.hid (HX3.out.put hb5 hown)
      clear hown hgrow hb5 hw5 q1 HX3 HA
      go_upto_region 9 with fail
      generalize w5.setCell ⟨Bq, 1, none⟩ (.slice x2 m2 c2) = w6 at HX5 ⊢
      clear hq1 hf1
      have HT : Hid (TwoProg w.heap.size Bq w w6 words (.slice a ([] : List (List Ln)).length cap) (.slice x2 m2 c2) [] [[]]) := by
        refine ⟨HX5.out.bel, ⟨HX5.out.box.lt, HX5.out.q.lt⟩, HX5.out.box, HX5.out.q, HP.out.below HX5.out.bel, ?_⟩
        exact prog_idle (vals := []) (p := []) HX5.out.own rfl rfl (by simp) rfl (fun j y hy => by simp at hy)
      clear HX5
      have b0 : w6.cell? ⟨w.heap.size, 0, none⟩ = some (.int .i64 words) := HT.out.b1.cell 0
      have b1 : w6.cell? ⟨w.heap.size, 1, none⟩ = some (.slice a ([] : List (List Ln)).length cap) := HT.out.b1.cell 1
      go_wp2_with fail
      refine (results_any HT.out.p1').mono ?_
      rintro e w7 ⟨hT1, hb7⟩
      replace HT := Lib.hid (HT.out.below hb7)
      obtain rfl := hT1.bad HCKN.out
      clear b0 b1 hb7 hT1
      have b0 : w7.cell? ⟨Bq, 0, none⟩ = some (.int .i64 words) := HT.out.b2.cell 0
      have b1 : w7.cell? ⟨Bq, 1, none⟩ = some (.slice x2 m2 c2) := HT.out.b2.cell 1
      go_wp2_with fail
      refine (results_any HT.out.p2').mono ?_
      rintro e w8 ⟨hT2, hb8⟩
      replace HT := Lib.hid (HT.out.below hb8)
      obtain ⟨v2, e2, rfl⟩ := hT2.form
      clear b0 b1 hb8 hT2
      have b0 : w8.cell? ⟨w.heap.size, 0, none⟩ = some (.int .i64 words) := HT.out.b1.cell 0
      have b1 : w8.cell? ⟨w.heap.size, 1, none⟩ = some (.slice a ([] : List (List Ln)).length cap) := HT.out.b1.cell 1
      go_wp2_with fail
      refine (races_any HT.out.p1').mono ?_
      rintro e w9 ⟨hT3, hb9⟩
      replace HT := Lib.hid (HT.out.below hb9)
      obtain rfl := hT3.bad HCKN.out
      clear b0 b1 hb9 hT3
      have b0 : w9.cell? ⟨Bq, 0, none⟩ = some (.int .i64 words) := HT.out.b2.cell 0
      have b1 : w9.cell? ⟨Bq, 1, none⟩ = some (.slice x2 m2 c2) := HT.out.b2.cell 1
      go_wp2_with fail
      refine (races_any HT.out.p2').mono ?_
      rintro e w10 ⟨hT4, hb10⟩
      replace HT := Lib.hid (HT.out.below hb10)
      obtain ⟨v4, e4, rfl⟩ := hT4.form
      clear b0 b1 hb10 hT4
      go_wp2_with fail
      go_ret
      exact ⟨rfl, HT.out.bel⟩
    · obtain ⟨b, o, rfl, -, -⟩ := HJJ.out 0 (by omega)
      obtain ⟨vals, hvl, hvc, hv1, hvh⟩ := prog_vals HP.out
      have HVC : Hid (∀ j u, vals[j]? = some u → w2.cell? (Addr.add ⟨b, o, none⟩ j) = some u) := fun j u hu => by
        have hx := hvc j u hu
        have hbk : (Addr.add ⟨b, o, none⟩ j).block = b := by unfold Addr.add; split <;> rfl
        have hlt := World.block_lt_of_cell? (w := w) (a := Addr.add ⟨b, o, none⟩ j) hx
        rw [HC2.out.bel.cell hlt]; exact hx
      have HV1 := Lib.hid hv1
      have HVH := Lib.hid hvh
      have HVL := Lib.hid hvl
      have HSZ : Hid (Bq + 1 ≤ w2.heap.size) := HQ.out.lt
      have b0 : w2.cell? ⟨w.heap.size, 0, none⟩ = some (.int .i64 words) := HC2.out.box.cell 0
      have b1 : w2.cell? ⟨w.heap.size, 1, none⟩ = some (.slice (some ⟨b, o, none⟩) p.length cap) := HC2.out.box.cell 1
      have q0 : w2.cell? ⟨Bq, 0, none⟩ = some (.int .i64 words) := HQ.out.cell 0
      have q1 : w2.cell? ⟨Bq, 1, none⟩ = some (.slice none 0 0) := HQ.out.cell 1
      have HX : Hid (IX w words (.slice (some ⟨b, o, none⟩) p.length cap) Bq (.slice none 0 0) 0 [] w2) := ⟨HC2.out.bel, hBq, HSZ.out, HC2.out.box, HQ.out, World.ownsRow_nil w2 _ _ _⟩
      clear hvl hvc hv1 hvh
      go_wp2_with (at_builtin; refine wpList_append_own _ rfl _ _ 24 rfl (Bq + 1) 22 i1 (.slice none 0 0) 1 24 Try.underlying24 hi1 hy0 hy1 hy2 rfl (by decide) (.slice none 0 0) 0 [] rfl HX.out.own ⟨b, o, none⟩ p.length cap vals rfl ?c0 HVC.out HV1.out ?c3 ?c4 HSZ.out ?_)
      case c0 => rw [Nat.mul_one]; exact HVL.out
      case c3 => unfold maxLen; omega
      case c4 => omega
      intro v' w3 hown hgrow _
      have hb3 := HX.out.since (Below.refl _ _) hgrow
      have hw3 := HX.out.q.below hb3 (by omega)
      have hq1 : w3.cell? ⟨Bq, 1, none⟩ = some (.slice none 0 0) := hw3.cell 1
      have hf1 := hw3.free 1
      obtain ⟨x, m, c, rfl⟩ := own_form hown
      have HX3 := Lib.hid (HX.out.put hb3 hown)
      clear hown hgrow hb3 q0 q1 hw3 b0 b1 HX HQ HC2 HVC HV1 HSZ
      go_upto_region 8 with fail
      generalize w3.setCell ⟨Bq, 1, none⟩ (.slice x m c) = w4 at HX3 ⊢
      clear hq1 hf1
      have q1 : w4.cell? ⟨Bq, 1, none⟩ = some (.slice x m c) := HX3.out.q.cell 1
      have HOW2 : Hid ((w4.alloc (.cells #[.slice none 0 0] 22)).ownsRow (Bq + 1) 22 1 (.slice x m c) p.length vals) := by
        have hx := HX3.out.own.alloc (.cells #[.slice none 0 0] 22)
        show World.ownsRow _ _ _ _ _ _ _
        simpa using hx
      have HA : Hid (Below (Bq + 1) w4 (w4.alloc (.cells #[.slice none 0 0] 22))) := (Below.refl _ _).alloc HX3.out.size _
      go_wp2_with (at_builtin; refine wpList_append_own _ rfl _ _ 24 rfl (Bq + 1) 22 i1 (.slice none 0 0) 1 24 Try.underlying24 hi1 hy0 hy1 hy2 rfl (by decide) (.slice x m c) p.length vals rfl HOW2.out ⟨w4.heap.size, 0, none⟩ 1 1 [.slice none 0 0] rfl rfl ?d1 ?d2 ?d3 ?d4 ?d5 ?_)
      case d1 => exact fun j u h => news_cell w4 _ _ j u h
      case d2 => intro y hy; simp at hy; subst hy; rfl
      case d3 => unfold maxLen; omega
      case d4 => omega
      case d5 => exact HA.out.size |> fun h => Nat.le_trans HX3.out.size h
      intro v' w5 hown hgrow _
      have hb5 := HX3.out.since HA.out hgrow
      have hw5 := HX3.out.q.below hb5 (by omega)
      have hq1 : w5.cell? ⟨Bq, 1, none⟩ = some (.slice x m c) := hw5.cell 1
      have hf1 := hw5.free 1
      obtain ⟨x2, m2, c2, rfl⟩ := own_form hown
      have HX5 := Lib.hid (HX3.out.put hb5 hown)
      clear hown hgrow hb5 hw5 q1 HX3 HA
      go_upto_region 9 with fail
      generalize w5.setCell ⟨Bq, 1, none⟩ (.slice x2 m2 c2) = w6 at HX5 ⊢
      clear hq1 hf1
      have HT : Hid (TwoProg w.heap.size Bq w w6 words (.slice (some ⟨b, o, none⟩) p.length cap) (.slice x2 m2 c2) p (p ++ [[]])) := by
        refine ⟨HX5.out.bel, ⟨HX5.out.box.lt, HX5.out.q.lt⟩, HX5.out.box, HX5.out.q, HP.out.below HX5.out.bel, ?_⟩
        exact prog_idle HX5.out.own (by omega) (by first | rfl | simp) (by omega) HVL.out (fun j y hy => (HVH.out j y hy).below HX5.out.bel)
      clear HX5 HVL HVH
      have b0 : w6.cell? ⟨w.heap.size, 0, none⟩ = some (.int .i64 words) := HT.out.b1.cell 0
      have b1 : w6.cell? ⟨w.heap.size, 1, none⟩ = some (.slice (some ⟨b, o, none⟩) p.length cap) := HT.out.b1.cell 1
      go_wp2_with fail
      refine (results_any HT.out.p1').mono ?_
      rintro e w7 ⟨hT1, hb7⟩
      replace HT := Lib.hid (HT.out.below hb7)
      clear b0 b1 hb7
      have b0 : w7.cell? ⟨Bq, 0, none⟩ = some (.int .i64 words) := HT.out.b2.cell 0
      have b1 : w7.cell? ⟨Bq, 1, none⟩ = some (.slice x2 m2 c2) := HT.out.b2.cell 1
      by_cases hc : check words p = 0
      · have hc2 := check_idle (show p.length ≤ 2 by omega) hc
        obtain ⟨ar, cr, R, rfl, hM, hR, hRl⟩ := hT1.good hc
        have HM := Lib.hid hM
        have HR := Lib.hid hR
        have HCK := Lib.hid hc
        have HCK2 := Lib.hid hc2
        have HF := Lib.hid (fine_of hc)
        clear hT1 hM hR hc hc2
        go_wp2_with fail
        refine (results_any HT.out.p2').mono ?_
        rintro e w8 ⟨hT2, hb8⟩
        replace HT := Lib.hid (HT.out.below hb8)
        replace HM := Lib.hid (HM.out.below hb8)
        obtain ⟨as2, cs2, S, rfl, hM2, hS, hSl⟩ := hT2.good HCK2.out
        have HM2 := Lib.hid hM2
        have HS := Lib.hid hS
        have HRS := Lib.hid (idle_len HF.out (by omega) HR.out hS)
        clear b0 b1 hb8 hT2 hM2 hS
        have b0 : w8.cell? ⟨w.heap.size, 0, none⟩ = some (.int .i64 words) := HT.out.b1.cell 0
        have b1 : w8.cell? ⟨w.heap.size, 1, none⟩ = some (.slice (some ⟨b, o, none⟩) p.length cap) := HT.out.b1.cell 1
        obtain ⟨r, hr⟩ := races_bool p
        have HRA := Lib.hid hr
        have HRB : Hid (r = true ↔ Races (p ++ [[]])) := hr.trans (races_idle HF.out (by omega)).symm
        clear hr
        go_wp2_with fail
        refine (races_any HT.out.p1').mono ?_
        rintro e w9 ⟨hT3, hb9⟩
        replace HT := Lib.hid (HT.out.below hb9)
        replace HM := Lib.hid (HM.out.below hb9)
        replace HM2 := Lib.hid (HM2.out.below hb9)
        obtain rfl := hT3.good HCK.out HRA.out
        clear b0 b1 hb9 hT3
        have b0 : w9.cell? ⟨Bq, 0, none⟩ = some (.int .i64 words) := HT.out.b2.cell 0
        have b1 : w9.cell? ⟨Bq, 1, none⟩ = some (.slice x2 m2 c2) := HT.out.b2.cell 1
        go_wp2_with fail
        refine (races_any HT.out.p2').mono ?_
        rintro e w10 ⟨hT4, hb10⟩
        replace HT := Lib.hid (HT.out.below hb10)
        replace HM := Lib.hid (HM.out.below hb10)
        replace HM2 := Lib.hid (HM2.out.below hb10)
        obtain rfl := hT4.good HCK2.out HRB.out
        clear b0 b1 hb10 hT4
        have e1 : ((R.length : Int) != (S.length : Int)) = false := by have := HRS.out; simp; omega
        have e2 : (r != r) = false := by simp
        have b1 : w10.cell? ⟨w.heap.size, 1, none⟩ = some (.slice (some ⟨b, o, none⟩) p.length cap) := HT.out.b1.cell 1
        go_upto_region 18 with fail
        have ek : (2 * (p.length : Int)) = ((2 * p.length : Nat) : Int) := by omega
        rw [ek]
        obtain ⟨K, hK⟩ : ∃ K, 2 * p.length = K := ⟨_, rfl⟩
        rw [hK]
        have HKK := Lib.hid hK
        have hK4 : 1 ≤ K ∧ K ≤ 4 := by omega
        have HW := Lib.hid HF.out.w
        have HX : Hid (Below w.heap.size w w10 ∧ Mat w10 (.slice ar R.length cr) R ∧ Mat w10 (.slice as2 S.length cs2) S) := ⟨HT.out.bel, HM.out, HM2.out⟩
        clear HT HM HM2 b1 ek hK e1 e2
        go_wp2_with fail
        go_loopg [14] (R.length + 1) (fun gg s14 wr => ∃ k : Nat, s14 = .int .i64 k ∧ k + gg = R.length + 1 ∧ k ≤ R.length ∧ Below w.heap.size w wr ∧ Mat wr (.slice ar R.length cr) R ∧ Mat wr (.slice as2 S.length cs2) S)
        case atStart => exact ⟨0, rfl, by omega, by omega, HX.out.1, HX.out.2.1, HX.out.2.2⟩
        case round =>
          clear HX
          obtain ⟨k, rfl, hkg, hkl, hbl, hM, hM2⟩ := hrel
          have HKG := Lib.hid hkg
          have HBL := Lib.hid hbl
          have HM := Lib.hid hM
          have HM2 := Lib.hid hM2
          clear hkg hbl hM hM2
          by_cases hkn : k < R.length
          · have hkI : (k : Int) < R.length := by omega
            obtain ⟨a', cap', e, -, hx⟩ := HM.out
            obtain ⟨b', o', y, rfl, -, c1, hn⟩ := hx k hkn
            cases e
            obtain ⟨L, hL⟩ : ∃ L, R.getD k [] = L := ⟨_, rfl⟩
            have hLR : L ∈ R := by rw [← hL, List.getD_eq_getElem?_getD, List.getElem?_eq_getElem hkn]; exact List.getElem_mem _
            have hE := (HR.out.mem L).1 hLR
            have hlen := ends_len hE
            have hw := HW.out
            have hkk := HKK.out
            have hl5 : K + 1 ≤ L.length ∧ L.length ≤ 8 := by omega
            have HD : Hid (decide (idled K L ∈ S) = true) := by show _ = _; simpa using (HS.out.mem _).2 ((ends_idle HF.out (by omega)).2 ⟨L, hE, by rw [hkk]⟩)
            rw [hL] at hn
            have HN := Lib.hid hn
            obtain ⟨ax, cx, rfl, -, hcell⟩ := hn
            obtain ⟨bx, ox, rfl, ⟨-, hcx⟩, -⟩ := hcell 0 (by omega)
            have HL5 := Lib.hid hl5
            have i1I : decide ((L.length : Int) < K) = false := by simp; omega
            have i2I : (K : Int) ≤ cx := by omega
            have i3I : (K : Int) ≤ L.length := by omega
            have hc0 : cx ≠ 0 := by omega
            have hcK : cx ≠ K := by omega
            have HO0 : Hid (wr.ownsRow wr.heap.size 3 1 (.slice none 0 0) 0 []) := World.ownsRow_nil wr _ _ _
            have HNT : Hid (∀ j u, (ints (L.take K))[j]? = some u → wr.cell? (Addr.add ⟨bx, ox, none⟩ j) = some u) := fun j u hu => nums_from HN.out 0 j u (by
              have hj : j < K := by
                have := (List.getElem?_eq_some_iff.1 hu).1
                simp [ints] at this; omega
              rw [List.drop_zero]
              rw [← hu]
              unfold ints
              rw [List.map_take, List.getElem?_take_of_lt hj])
            clear hx hLR hE hlen hw hL hcell hkk
            go_wp2_with (at_builtin; refine wpList_append_own _ rfl _ _ 34 rfl wr.heap.size 3 i0 (.int .i64 0) 1 8 Try.underlying34 hi hz0 hz1 hz2 rfl (by decide) (.slice none 0 0) 0 [] rfl HO0.out ⟨bx, ox, none⟩ K cx (ints (L.take K)) rfl ?f0 HNT.out ?f2 ?f3 ?f4 (Nat.le_refl _) ?_)
            case f0 => simp [ints]; omega
            case f2 => intro z hz; unfold ints at hz; obtain ⟨q, -, rfl⟩ := List.mem_map.1 hz; rfl
            case f3 => unfold maxLen; omega
            case f4 => omega
            intro v1 wa hown hgrow _
            have HBA : Hid (Below wr.heap.size wr wa) := (Below.refl _ _).grown hgrow (Nat.le_refl _) (own_base HO0.out)
            have HOA : Hid (wa.ownsRow wr.heap.size 3 1 v1 K (ints (L.take K))) := by simpa [Hid] using hown
            obtain ⟨x1, m1, d1, rfl⟩ := own_form HOA.out
            have hlt' := World.block_lt_of_cell? (w := wr) (a := ⟨b', o' + k, none⟩) c1
            have c1a : wa.cell? ⟨b', o' + k, none⟩ = some (.slice (some ⟨bx, ox, none⟩) L.length cx) := by rw [HBA.out.cell (p := ⟨b', o' + k, none⟩) hlt']; exact c1
            have HOA2 : Hid ((wa.alloc (.cells #[.int .i64 0, .int .i64 0] 3)).ownsRow wr.heap.size 3 1 (.slice x1 m1 d1) K (ints (L.take K))) := HOA.out.alloc _
            have HBA2 : Hid (Below wr.heap.size wr (wa.alloc (.cells #[.int .i64 0, .int .i64 0] 3))) := HBA.out.alloc HBA.out.size _
            clear hown hgrow c1 HNT
            go_wp2_with (at_builtin; refine wpList_append_own _ rfl _ _ 34 rfl wr.heap.size 3 i0 (.int .i64 0) 1 8 Try.underlying34 hi hz0 hz1 hz2 rfl (by decide) (.slice x1 m1 d1) K (ints (L.take K)) rfl HOA2.out ⟨wa.heap.size, 0, none⟩ 2 2 [.int .i64 0, .int .i64 0] rfl rfl ?g1 ?g2 ?g3 ?g4 HBA2.out.size ?_)
            try (case g1 => exact fun j u h => news_cell wa _ _ j u h)
            case g2 => first | rfl | (intro z hz; simp at hz; subst hz; rfl)
            case g3 => unfold maxLen; omega
            case g4 => omega
            intro v2 wb hown hgrow _
            have HBB : Hid (Below wr.heap.size wr wb) := HBA2.out.trans ((Below.refl _ _).grown hgrow HBA2.out.size (own_base HOA2.out))
            have HOB : Hid (wb.ownsRow wr.heap.size 3 1 v2 (K + 2) (ints (L.take K) ++ [.int .i64 0, .int .i64 0])) := hown
            obtain ⟨x2', m2', d2', rfl⟩ := own_form HOB.out
            have c1b : wb.cell? ⟨b', o' + k, none⟩ = some (.slice (some ⟨bx, ox, none⟩) L.length cx) := by
              have hx := HBB.out.cell (p := ⟨b', o' + k, none⟩) hlt'
              have hy := HBA.out.cell (p := ⟨b', o' + k, none⟩) hlt'
              rw [hx, ← hy]; exact c1a
            have HNB := Lib.hid (HN.out.below HBB.out)
            clear hown hgrow c1a HOA HOA2 HBA HBA2
            go_wp2_with (at_builtin; refine wpList_append_own _ rfl _ _ 34 rfl wr.heap.size 3 i0 (.int .i64 0) 1 8 Try.underlying34 hi hz0 hz1 hz2 rfl (by decide) (.slice x2' m2' d2') (K + 2) (ints (L.take K) ++ [.int .i64 0, .int .i64 0]) rfl HOB.out ⟨bx, ox + K, none⟩ (L.length - K) (cx - K) (ints (L.drop K)) rfl ?h0 ?h1 ?h2' ?h3 ?h4 HBB.out.size ?_)
            case h0 => simp [ints]
            case h1 => exact nums_from HNB.out K
            case h2' => intro z hz; unfold ints at hz; obtain ⟨q, -, rfl⟩ := List.mem_map.1 hz; rfl
            case h3 => unfold maxLen; omega
            case h4 => omega
            intro v3 wc hown hgrow _
            have hk : Below wr.heap.size wr wc := HBB.out.trans ((Below.refl _ _).grown hgrow HBB.out.size (own_base HOB.out))
            have hnew : Nums wc v3 (idled K L) := by
              have e : ints (L.take K) ++ .int .i64 0 :: .int .i64 0 :: ints (L.drop K) = ints (idled K L) := by simp [ints, idled]
              have hl : (idled K L).length = K + 2 + (L.length - K) := by simp [idled]; omega
              have hown' : wc.ownsRow wr.heap.size 3 1 v3 (K + 2 + (L.length - K)) (ints (L.take K) ++ .int .i64 0 :: .int .i64 0 :: ints (L.drop K)) := by simpa using hown
              rw [e, ← hl] at hown'
              exact nums_own hown' (by rw [hl]; unfold maxLen; omega)
            have HNW := Lib.hid hnew
            have HQ8 : Hid (Mat wc (.slice (some ⟨b', o', none⟩) R.length cr) R ∧ Mat wc (.slice as2 S.length cs2) S ∧ Below w.heap.size w wc) := ⟨HM.out.below hk, HM2.out.below hk, HBL.out.trans (hk.mono HBL.out.size)⟩
            clear hown hgrow hnew hk HM HM2 HBL c1b HOB HNB HBB HN
            obtain ⟨an, cn, rfl, -⟩ := HNW.out
            go_wp2_with fail
            refine (has_any HQ8.out.2.1 HNW.out).mono ?_
            rintro e w9 ⟨rfl, m, rfl⟩
            rw [HD.out]
            go_wp2_with fail
            go_roundg (R.length - k)
            case measure => have := HKG.out; omega
            case rel => exact ⟨k + 1, by go_num, by omega, by omega, Below.todrewN HQ8.out.2.2 m, HQ8.out.1.drewN m, HQ8.out.2.1.drewN m⟩
          · obtain rfl : k = R.length := by omega
            go_wp2_with fail
            go_ret
            exact ⟨rfl, HBL.out⟩
      · obtain rfl := hT1.bad hc
        have HCK := Lib.hid hc
        clear hT1 hc
        go_wp2_with fail
        refine (results_any HT.out.p2').mono ?_
        rintro e w8 ⟨hT2, hb8⟩
        replace HT := Lib.hid (HT.out.below hb8)
        obtain ⟨v2, e2, rfl⟩ := hT2.form
        clear b0 b1 hb8 hT2
        have b0 : w8.cell? ⟨w.heap.size, 0, none⟩ = some (.int .i64 words) := HT.out.b1.cell 0
        have b1 : w8.cell? ⟨w.heap.size, 1, none⟩ = some (.slice (some ⟨b, o, none⟩) p.length cap) := HT.out.b1.cell 1
        go_wp2_with fail
        refine (races_any HT.out.p1').mono ?_
        rintro e w9 ⟨hT3, hb9⟩
        replace HT := Lib.hid (HT.out.below hb9)
        obtain rfl := hT3.bad HCK.out
        clear b0 b1 hb9 hT3
        have b0 : w9.cell? ⟨Bq, 0, none⟩ = some (.int .i64 words) := HT.out.b2.cell 0
        have b1 : w9.cell? ⟨Bq, 1, none⟩ = some (.slice x2 m2 c2) := HT.out.b2.cell 1
        go_wp2_with fail
        refine (races_any HT.out.p2').mono ?_
        rintro e w10 ⟨hT4, hb10⟩
        replace HT := Lib.hid (HT.out.below hb10)
        obtain ⟨v4, e4, rfl⟩ := hT4.form
        clear b0 b1 hb10 hT4
        go_wp2_with fail
        go_ret
        exact ⟨rfl, HT.out.bel⟩
end Go.Proofs.Ytimbdjmplcgilaa.Sc
