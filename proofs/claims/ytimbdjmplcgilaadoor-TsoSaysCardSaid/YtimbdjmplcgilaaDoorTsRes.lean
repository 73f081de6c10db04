import Derived.Test.YtimbdjmplcgilaaDoorTQ
import Derived.Test.YtimbdjmplcgilaaDoorTsFlush
import Derived.Test.YtimbdjmplcgilaaDoorTsStep
import Derived.Test.YtimbdjmplcgilaaDoorTsPlain
import Derived.Test.YtimbdjmplcgilaaDoorScRes
import Derived.Test.YtimbdjmplcgilaaDoorSortW
import Derived.Deep.CutRange
import Derived.Test.YtimbdjmplcgilaaDoorPrRun
namespace Go.Proofs.YtimbdjmplcgilaaDoor.Tso
open Go.RowKit Pr SortFn TQ
set_option linter.unusedVariables false

theorem wf_vec {words : Int} {p : List (List Ln)} (hf : Fine words p) {s : TS} (h : Reach p s) : TQ.Wf (vec s) :=
  ⟨vec_len s, small_of (fun x hx => by
    unfold vec at hx
    obtain ⟨j, -, rfl⟩ := List.mem_map.1 hx
    have := enc_bd hf h j; omega)⟩
theorem ints_vec (s : TS) {j : Nat} (hj : j < 60) : (ints (vec s)).toArray[j]? = some (.int .i64 (enc s j)) := by
  simp [ints, vec, hj]
/-- A state in a box. -/
theorem st_box {w : World} {L : Nat} {s : TS} (h : Blk w L (ints (vec s)).toArray 88) : TAt w L s := fun j hj =>
  ⟨by rw [h.cell]; exact ints_vec s hj, h.free _⟩
/-- The search amid: the box of the program, the queue, and what came of it so far. -/
structure SX (w : World) (words : Int) (u : Value) (Q B g : Nat) (ss : List (List Int)) (v : Value) (R : List (List Int)) (vals : List Value) (wr : World) : Prop where
  bel : Below w.heap.size w wr
  size : w.heap.size + 1 ≤ wr.heap.size
  box : Blk wr w.heap.size #[.int .i64 words, u] 24
  qw : w.heap.size < Q ∧ w.heap.size < B ∧ w.heap.size < g
  q : QAt wr Q B g ss
  out : OutAt wr (w.heap.size + 1) [Q, B, g] v R vals
theorem SX.below {w wr w' : World} {words : Int} {u : Value} {Q B g : Nat} {ss : List (List Int)} {v : Value} {R : List (List Int)} {vals : List Value} (h : SX w words u Q B g ss v R vals wr) (k : Below wr.heap.size wr w') : SX w words u Q B g ss v R vals w' :=
  ⟨h.bel.trans (k.mono (by have := h.size; omega)), Nat.le_trans h.size k.size, h.box.below k (by have := h.size; omega), h.qw, h.q.new k, h.out.below k⟩
theorem SX.add {w wr w' : World} {words : Int} {u : Value} {Q B g g' : Nat} {ss ss' : List (List Int)} {v : Value} {R : List (List Int)} {vals : List Value} (h : SX w words u Q B g ss v R vals wr) (hq : QAt w' Q B g' ss') (k : OnlyG [Q, B, g] wr w') (hg : g' = g ∨ wr.heap.size ≤ g') : SX w words u Q B g' ss' v R vals w' := by
  have hqw := h.qw
  have hsz := h.size
  exact ⟨h.bel.trans (k.below (by simp; omega) (by omega)), Nat.le_trans h.size k.size_le, k.blk (by simp; omega) h.box, by omega, hq, h.out.add k hg⟩
theorem SX.pg {w wr : World} {words : Int} {u : Value} {Q B g : Nat} {ss : List (List Int)} {v : Value} {R : List (List Int)} {vals : List Value} {p : List (List Ln)} (h : SX w words u Q B g ss v R vals wr) (hp : IsProg w u p) : IsProg wr u p := hp.below h.bel
theorem gave_nums {w w' : World} {R : List Int} {v : Value} (h : Gave R w v w') (hl : R.length ≤ maxLen) : Nums w' v R ∧ ∃ b, v.ownBlock = some b ∧ w.heap.size ≤ b ∧ b < w'.heap.size := by
  obtain ⟨g, cap, rfl, h1, h2, hr⟩ := h
  exact ⟨⟨_, cap, rfl, hl, fun k hk => ⟨g, 0, rfl, ⟨h2, h1.2⟩, by have := (hr k hk).1; simpa using this⟩⟩, g, rfl, h1.1, h2⟩
theorem SX.push {w wr w2 w1 : World} {words : Int} {u : Value} {Q B g n : Nat} {ss : List (List Int)} {v v' x : Value} {R : List (List Int)} {vals cs : List Value} {l : List Int} {T : TypeId} (h : SX w words u Q B g ss v R vals wr) (k : Below wr.heap.size wr w2)
    (hG : Nums w2 x l ∧ ∃ b, x.ownBlock = some b ∧ wr.heap.size ≤ b ∧ b < w2.heap.size)
    (hown : w1.ownsRow (w.heap.size + 1) 47 1 v' n cs) (hg : (w2.alloc (.cells #[x] T)).grownBy w1 v.ownBlock) (hat : v'.ownBlock = v.ownBlock ∨ v'.ownBlock = some (w2.alloc (.cells #[x] T)).heap.size) (hn : n = R.length + 1) (hc : cs = vals ++ [x]) :
    SX w words u Q B g ss v' (R ++ [l]) (vals ++ [x]) w1 := by
  obtain ⟨hx, b, hb, hb1, hb2⟩ := hG
  have h2 := h.below k
  have hqw := h2.qw
  have hQ := h2.q.qlt
  have hB := h2.q.set.lt
  have hgl := h2.q.glt
  have hQ0 := h.q.qlt
  have hB0 := h.q.set.lt
  have hg0 := h.q.glt
  have hlt := h.out.own.lt
  have hvb := fun e => (hlt b e).2
  have hsz : (w2.alloc (.cells #[x] T)).heap.size = w2.heap.size + 1 := by simp
  have hsz1 := hg.size
  have kb : ∀ b, b < w2.heap.size → v.ownBlock ≠ some b → w1.heap[b]? = w2.heap[b]? := fun b h1 h3 => by
    rw [hg.block b (by omega) (fun e => h3 e.symm)]
    exact Below.heap_alloc _ _ _ h1
  have hout := h2.out.out
  have nQ : ∀ b, b ∈ [Q, B, g] → v.ownBlock ≠ some b := fun b hm e => hout b e hm
  have hbase : ∀ k, v.ownBlock = some k → w.heap.size + 1 ≤ k := fun k e => (h2.out.own.lt k e).1
  have hbl : Below (w.heap.size + 1) w2 w1 := ((Below.refl _ _).alloc h2.size _).grown hg (by have := h2.size; simp; omega) hbase
  refine ⟨h2.bel.trans (hbl.mono (by omega)), by have := h2.size; omega, h2.box.below hbl (by omega), h2.qw, h2.q.keep (kb Q hQ (nQ Q (by simp))) (kb B hB (nQ B (by simp))) (kb g hgl (nQ g (by simp))), ?_⟩
  exact h2.out.push (fun b hm => by simp at hm; omega) hx hb (by simp; omega) (fun e => by have := hvb e; omega) hb2 hown hg hat hn hc
theorem infoRow : (Tryd.prog.info? 47).map (fun i => (i.zero, i.size, i.bytes)) = some (some (.slice none 0 0), 1, 24) := by kernel_rfl

/-- What tso.Results tells. -/
inductive Told (words : Int) (p : List (List Ln)) (w : World) (w' : World) : Ending → Prop
  | err : check words p ≠ 0 → Told words p w w' (.returned (.tuple #[.slice none 0 0, .iface 74 (.int .i64 (check words p))]))
  | ok {v : Value} {R : List (List Int)} : check words p = 0 → Mat w' v R → Res words p R → R.length ≤ 72832127856 → Told words p w w' (.returned (.tuple #[v, .nilIface]))
end Go.Proofs.YtimbdjmplcgilaaDoor.Tso
namespace Go.Proofs.YtimbdjmplcgilaaDoor.Tso
open Go.RowKit Pr SortFn TQ
set_option linter.unusedVariables false

/-- A hand's line, done or not. -/
theorem step_any {w : World} {L h : Nat} {u : Value} {words : Int} {p : List (List Ln)} {s : TS} (hf : Fine words p) (hr : Reach p s) (hp : IsProg w u p) (hs : TAt w L s) (hh : h < p.length) {bb : Bool} (hbb : can p h (s.l h) = bb) :
    Calls Tryd.prog 37 #[.pointer (some ⟨L, 0, none⟩), .agg #[.int .i64 words, u], .int .i64 h] w fun e w' =>
      e = .returned (.bool bb) ∧ (bb = true → TAt w' L (step p s h)) ∧ OnlyG [L] w w' := by
  have ho := hr.ok hf
  have hn := hf.n
  subst hbb
  cases hm : mor p h (s.l h) with
  | false =>
    have hc : can p h (s.l h) = false := by unfold can; rw [hm]; rfl
    refine (step_no hp hs hh (by omega) (ho.at0 h) hm).mono ?_
    rintro e w' ⟨rfl, hog⟩
    rw [hc]
    exact ⟨rfl, fun x => absurd x (by simp), hog⟩
  | true =>
    have hl := (hf.lines h).1
    have hm' := hm
    unfold mor at hm'
    simp at hm'
    exact step_yes hp hs hh (by omega) (ho.at0 h) hf.w.2 (ho.many h).2 (fun _ => by have := (ho.many h).1; omega) hm rfl (nxt_good hf (ho.at0 h).1 hm)
/-- What waited longest is seen. -/
theorem flush_ok {w : World} {L h : Nat} {words : Int} {p : List (List Ln)} {s : TS} (hf : Fine words p) (hr : Reach p s) (hs : TAt w L s) (hh : h < p.length) (hb : (s.l h).b ≠ []) :
    Calls Tryd.prog 38 #[.pointer (some ⟨L, 0, none⟩), .int .i64 h] w fun e w' =>
      e = .returned (.tuple #[]) ∧ TAt w' L (flush s h) ∧ OnlyG [L] w w' := by
  have ho := hr.ok hf
  have hn := hf.n
  have hw := hf.w
  obtain ⟨⟨x, v⟩, r, e⟩ := List.exists_cons_of_ne_nil hb
  have hx := ho.wb h (x, v) (by rw [e]; simp)
  simp only at hx
  obtain ⟨wd, rfl⟩ : ∃ wd : Nat, x = (wd : Int) := ⟨x.toNat, by omega⟩
  have hl := (ho.many h).2
  rw [e] at hl
  simp only [List.length_cons] at hl
  exact flush_any hs (by omega) (by omega) e (by omega)

/-- A state laid into a new box. -/
structure NewBox (w : World) (s : TS) (w' : World) : Prop where
  bel : Below w.heap.size w w'
  lt : w.heap.size < w'.heap.size
  st : TAt w' w.heap.size s
theorem new_box (w : World) (s : TS) {z : Array Value} (hz : z.size = 60) : NewBox w s ((w.alloc (.cells z 88)).setRow w.heap.size (ints (vec s)).toArray) := by
  have hb : Blk (w.alloc (.cells z 88)) w.heap.size z 88 := Blk.new _ _ _
  have h2 := TQ.Blk.setRow (c' := (ints (vec s)).toArray) hb
  exact ⟨below_setRow ((Below.refl _ _).alloc (Nat.le_refl _) _) (Nat.le_refl _) _, h2.lt, st_box h2⟩
theorem vec_size (s : TS) : (ints (vec s)).toArray.size = 60 := by simp [ints, vec]
theorem vec_one (s : TS) : (ints (vec s)).toArray.all (·.oneCell') = true := all_oneCell_toArray (fun v hv => by simp [ints] at hv; obtain ⟨x, -, rfl⟩ := hv; rfl)
theorem vec_info (s : TS) : (Tryd.prog.info? 88).map (·.size) = some (ints (vec s)).toArray.size := by rw [infoK, vec_size]
theorem vec_info2 (s : TS) : (Tryd.prog.info? 88).map (·.size) = some (ints (vec s)).length := by rw [infoK]; simp [ints, vec]
theorem st_range {w : World} {L : Nat} {s : TS} (h : TAt w L s) : w.rangeAt L 0 (ints (vec s)) := by
  intro j v hv
  have hj : j < 60 := by
    have := (List.getElem?_eq_some_iff.1 hv).1
    simpa [ints, vec] using this
  rw [Nat.zero_add, (h j hj).1]
  have := ints_vec s hj
  simp only [List.getElem?_toArray] at this
  rw [this] at hv
  exact hv
def sA (p : List (List Ln)) (s : TS) (h : Nat) : List (List Int) := if can p h (s.l h) then [vec (step p s h)] else []
def sB (s : TS) (h : Nat) : List (List Int) := if (s.l h).b.isEmpty then [] else [vec (flush s h)]
theorem succ1_two {words : Int} {p : List (List Ln)} (hf : Fine words p) {s : TS} (hr : Reach p s) (h : Nat) : succ1 p (vec s) h = sA p s h ++ sB s h := by
  unfold succ1 sA sB
  rw [dec_vec hf.n.2 (hr.ok hf)]
theorem zero_val : stVal (vec TS.zero) = .agg (List.toArray (Value.int .i64 0 :: Value.int .i64 0 :: Value.int .i64 0 :: Value.int .i64 0 :: Value.int .i64 0 :: Value.int .i64 0 :: Value.int .i64 0 :: Value.int .i64 0 :: Value.int .i64 0 :: Value.int .i64 0 :: Value.int .i64 0 :: Value.int .i64 0 :: Value.int .i64 0 :: Value.int .i64 0 :: Value.int .i64 0 :: Value.int .i64 0 :: Value.int .i64 0 :: Value.int .i64 0 :: Value.int .i64 0 :: Value.int .i64 0 :: Value.int .i64 0 :: Value.int .i64 0 :: Value.int .i64 0 :: Value.int .i64 0 :: Value.int .i64 0 :: Value.int .i64 0 :: Value.int .i64 0 :: Value.int .i64 0 :: Value.int .i64 0 :: Value.int .i64 0 :: Value.int .i64 0 :: Value.int .i64 0 :: Value.int .i64 0 :: Value.int .i64 0 :: Value.int .i64 0 :: Value.int .i64 0 :: Value.int .i64 0 :: Value.int .i64 0 :: Value.int .i64 0 :: Value.int .i64 0 :: Value.int .i64 0 :: Value.int .i64 0 :: Value.int .i64 0 :: Value.int .i64 0 :: Value.int .i64 0 :: Value.int .i64 0 :: Value.int .i64 0 :: Value.int .i64 0 :: Value.int .i64 0 :: Value.int .i64 0 :: Value.int .i64 0 :: Value.int .i64 0 :: Value.int .i64 0 :: Value.int .i64 0 :: Value.int .i64 0 :: Value.int .i64 0 :: Value.int .i64 0 :: Value.int .i64 0 :: Value.int .i64 0 :: Value.int .i64 0 :: [])) := rfl
theorem run_nil {words : Int} {p : List (List Ln)} (h : check words p = 0) : ∃ x, Ends words p x := by
  obtain ⟨x, hx⟩ := Sc.run_nil h
  exact ⟨x, ends_more (fine_of h) (Sc.run_ends hx)⟩

set_option maxHeartbeats 8000000 in
set_option maxRecDepth 100000 in
theorem results_any {w : World} {words : Int} {u : Value} {p : List (List Ln)} (hp : IsProg w u p) :
    Calls Tryd.prog 12 #[.agg #[.int .i64 words, u]] w fun e w' => Told words p w w' e ∧ Below w.heap.size w w' := by
  have HP := Lib.hid hp
  have HC := Lib.hid (cbox w words u)
  obtain ⟨a, cap, rfl, hl, -⟩ := hp
  unfold maxLen at hl
  go_enter Tryd.func12, Tryd.ntmps12
  go_wp2_with fail
  generalize w.alloc (.cells #[.int .i64 words, .slice a p.length cap] 24) = wx at HC ⊢
  have b0 : wx.cell? ⟨w.heap.size, 0, none⟩ = some (.int .i64 words) := HC.out.box.cell 0
  have b1 : wx.cell? ⟨w.heap.size, 1, none⟩ = some (.slice a p.length cap) := HC.out.box.cell 1
  go_wp2_with fail
  refine (check_any (HP.out.below HC.out.bel)).mono ?_
  rintro e w1 ⟨rfl, hb1⟩
  replace HC := Lib.hid (HC.out.below hb1)
  clear b0 b1 hb1
  by_cases hc : check words p = 0
  · have HCK := Lib.hid hc
    have ev : errVal (check words p) = .nilIface := by rw [hc]; rfl
    rw [ev]
    clear hc ev
    have HF := Lib.hid (fine_of HCK.out)
    have HN3 : p.length ≤ 3 := HF.out.n.2
    go_upto_region 5 with fail
    have hQ : Blk (w1.alloc (.cells #[.map none, .slice none 0 0] 81)) w1.heap.size #[.map none, .slice none 0 0] 81 := Blk.new _ _ _
    have HC2 := Lib.hid (HC.out.alloc (.cells #[.map none, .slice none 0 0] 81))
    have hQ1 : w.heap.size < w1.heap.size := by have := HC.out.size; omega
    clear HC
    generalize w1.alloc (.cells #[.map none, .slice none 0 0] 81) = wy at hQ HC2 ⊢
    generalize w1.heap.size = Q at hQ hQ1 ⊢
    have hadd := add_first hQ (wf_vec HF.out (.zero : Reach p TS.zero))
    rw [zero_val] at hadd
    have HADD := Lib.hid hadd
    clear hadd hQ
    go_wp2_with fail
    refine HADD.out.mono ?_
    clear HADD
    rintro e w2 ⟨rfl, B, g, hq, ho, hB, hg⟩
    have HX : Hid (SX w words (.slice a p.length cap) Q B g [vec TS.zero] (.slice none 0 0) [] [] w2) := by
      have hsz := HC2.out.size
      refine ⟨HC2.out.bel.trans (ho.below (by simp; omega) (by omega)), Nat.le_trans hsz ho.size_le, ho.blk (by simp; omega) HC2.out.box, by omega, hq, OutAt.nil _ _ _⟩
    clear HC2 hq ho hB hg
    obtain ⟨i0, hi, hz0, hz1, hz2⟩ := info_parts infoRow
    go_wp2_with fail
    go_loopg [6, 7] 72832127857 (fun gg s6 s7 wr => ∃ (i g : Nat) (ss R : List (List Int)) (vals : List Value) (v : Value), s6 = v ∧ s7 = .int .i64 i ∧ i + gg = 72832127857 ∧ SX w words (.slice a p.length cap) Q B g ss v R vals wr ∧ Bfs.Inv (vec TS.zero) (succ p) ss i ∧ R = outs words p ss i)
    case atStart => exact ⟨0, g, [vec TS.zero], [], [], _, rfl, rfl, by omega, HX.out, Bfs.Inv.start _ _, by rw [outs_zero]⟩
    case round =>
      clear HX
      obtain ⟨i, g, ss, R, vals, _, rfl, rfl, hig, hX, hI, hR⟩ := hrel
      have HX := Lib.hid hX
      have HI := Lib.hid hI
      have HIG := Lib.hid hig
      have HRO := Lib.hid hR
      have hsl : ss.length ≤ 72832127856 := bound HF.out hI
      have hile := hI.le
      clear hX hI hig hR
      go_wp2_with fail
      refine (len_any HX.out.q).mono ?_
      rintro e wr ⟨rfl, rfl⟩
      by_cases hin : i < ss.length
      · have hinI : (i : Int) < ss.length := by omega
        obtain ⟨v, hv⟩ : ∃ v, ss[i]? = some v := ⟨_, List.getElem?_eq_getElem hin⟩
        obtain ⟨s, hr, rfl⟩ := (reach_iff HF.out).1 (HI.out.reach v (List.mem_of_getElem? hv))
        have HV := Lib.hid hv
        have HRF := Lib.hid hr
        have HOC := Lib.hid (hr.ok HF.out)
        clear hv hr
        have b1 : wr.cell? ⟨w.heap.size, 1, none⟩ = some (.slice a p.length cap) := HX.out.box.cell 1
        have HXI : Hid (SX w words (.slice a p.length cap) Q B g (Bfs.addAll ss (succTo p (vec s) 0)) u6 R vals wr) := HX.out
        go_wp2_with fail
        go_loopg [8, 28] (p.length + 1) (fun gg s8 s28 wr => ∃ (h g : Nat) (d : Bool), s8 = .bool d ∧ s28 = .int .i64 h ∧ h + gg = p.length + 1 ∧ h ≤ p.length ∧ decide (succTo p (vec s) h = []) = d ∧ SX w words (.slice a p.length cap) Q B g (Bfs.addAll ss (succTo p (vec s) h)) u6 R vals wr)
        case atStart => exact ⟨0, g, true, rfl, rfl, by omega, by omega, by simp [succTo], HXI.out⟩
        case round =>
          clear HX HXI b1
          obtain ⟨h, g, d, rfl, rfl, hhg, hhp, hd, hX⟩ := hrel
          have HX := Lib.hid hX
          have HD := Lib.hid hd
          have HHG := Lib.hid hhg
          clear hX hd hhg
          have HIN := Lib.hid (HI.out.some HV.out (xs := succTo p (vec s) h) (fun b hb => succTo_mem hhp hb))
          have hsl2 : (Bfs.addAll ss (succTo p (vec s) h)).length ≤ 72832127856 := bound HF.out HIN.out
          have HV2 : Hid ((Bfs.addAll ss (succTo p (vec s) h))[i]? = some (vec s)) := by show _ = _; rw [Bfs.addAll_get hin]; exact HV.out
          by_cases hhn : h < p.length
          · have hhI : (h : Int) < p.length := by omega
            have h4 : h < 4 := by omega
            have HS1 : Hid (succTo p (vec s) (h + 1) = succTo p (vec s) h ++ sA p s h ++ sB s h) := by
              show _ = _
              rw [succTo_succ, succ1_two HF.out HRF.out, List.append_assoc]
            have HINA := Lib.hid (HI.out.some HV.out (xs := succTo p (vec s) h ++ sA p s h) (fun b hb => succTo_mem (k := h + 1) hhn (by rw [HS1.out]; exact List.mem_append_left _ hb)))
            have hsl3 : (Bfs.addAll ss (succTo p (vec s) h ++ sA p s h)).length ≤ 72832127856 := bound HF.out HINA.out
            have HV3 : Hid ((Bfs.addAll ss (succTo p (vec s) h ++ sA p s h))[i]? = some (vec s)) := by show _ = _; rw [Bfs.addAll_get hin]; exact HV.out
            go_wp2_with fail
            refine (at_any HX.out.q HV2.out (by omega)).mono ?_
            rintro e w3 ⟨rfl, hb3⟩
            replace HX := Lib.hid (HX.out.below hb3)
            clear hb3
            unfold stVal
            have HB : Hid (Blk (w3.alloc (.cells (List.toArray (Value.int .i64 0 :: Value.int .i64 0 :: Value.int .i64 0 :: Value.int .i64 0 :: Value.int .i64 0 :: Value.int .i64 0 :: Value.int .i64 0 :: Value.int .i64 0 :: Value.int .i64 0 :: Value.int .i64 0 :: Value.int .i64 0 :: Value.int .i64 0 :: Value.int .i64 0 :: Value.int .i64 0 :: Value.int .i64 0 :: Value.int .i64 0 :: Value.int .i64 0 :: Value.int .i64 0 :: Value.int .i64 0 :: Value.int .i64 0 :: Value.int .i64 0 :: Value.int .i64 0 :: Value.int .i64 0 :: Value.int .i64 0 :: Value.int .i64 0 :: Value.int .i64 0 :: Value.int .i64 0 :: Value.int .i64 0 :: Value.int .i64 0 :: Value.int .i64 0 :: Value.int .i64 0 :: Value.int .i64 0 :: Value.int .i64 0 :: Value.int .i64 0 :: Value.int .i64 0 :: Value.int .i64 0 :: Value.int .i64 0 :: Value.int .i64 0 :: Value.int .i64 0 :: Value.int .i64 0 :: Value.int .i64 0 :: Value.int .i64 0 :: Value.int .i64 0 :: Value.int .i64 0 :: Value.int .i64 0 :: Value.int .i64 0 :: Value.int .i64 0 :: Value.int .i64 0 :: Value.int .i64 0 :: Value.int .i64 0 :: Value.int .i64 0 :: Value.int .i64 0 :: Value.int .i64 0 :: Value.int .i64 0 :: Value.int .i64 0 :: Value.int .i64 0 :: Value.int .i64 0 :: Value.int .i64 0 :: Value.int .i64 0 :: Value.int .i64 0 :: [])) 88)) w3.heap.size (List.toArray (Value.int .i64 0 :: Value.int .i64 0 :: Value.int .i64 0 :: Value.int .i64 0 :: Value.int .i64 0 :: Value.int .i64 0 :: Value.int .i64 0 :: Value.int .i64 0 :: Value.int .i64 0 :: Value.int .i64 0 :: Value.int .i64 0 :: Value.int .i64 0 :: Value.int .i64 0 :: Value.int .i64 0 :: Value.int .i64 0 :: Value.int .i64 0 :: Value.int .i64 0 :: Value.int .i64 0 :: Value.int .i64 0 :: Value.int .i64 0 :: Value.int .i64 0 :: Value.int .i64 0 :: Value.int .i64 0 :: Value.int .i64 0 :: Value.int .i64 0 :: Value.int .i64 0 :: Value.int .i64 0 :: Value.int .i64 0 :: Value.int .i64 0 :: Value.int .i64 0 :: Value.int .i64 0 :: Value.int .i64 0 :: Value.int .i64 0 :: Value.int .i64 0 :: Value.int .i64 0 :: Value.int .i64 0 :: Value.int .i64 0 :: Value.int .i64 0 :: Value.int .i64 0 :: Value.int .i64 0 :: Value.int .i64 0 :: Value.int .i64 0 :: Value.int .i64 0 :: Value.int .i64 0 :: Value.int .i64 0 :: Value.int .i64 0 :: Value.int .i64 0 :: Value.int .i64 0 :: Value.int .i64 0 :: Value.int .i64 0 :: Value.int .i64 0 :: Value.int .i64 0 :: Value.int .i64 0 :: Value.int .i64 0 :: Value.int .i64 0 :: Value.int .i64 0 :: Value.int .i64 0 :: Value.int .i64 0 :: Value.int .i64 0 :: Value.int .i64 0 :: [])) 88) := Blk.new _ _ _
            have HNB : Hid (NewBox w3 s ((w3.alloc (.cells (List.toArray (Value.int .i64 0 :: Value.int .i64 0 :: Value.int .i64 0 :: Value.int .i64 0 :: Value.int .i64 0 :: Value.int .i64 0 :: Value.int .i64 0 :: Value.int .i64 0 :: Value.int .i64 0 :: Value.int .i64 0 :: Value.int .i64 0 :: Value.int .i64 0 :: Value.int .i64 0 :: Value.int .i64 0 :: Value.int .i64 0 :: Value.int .i64 0 :: Value.int .i64 0 :: Value.int .i64 0 :: Value.int .i64 0 :: Value.int .i64 0 :: Value.int .i64 0 :: Value.int .i64 0 :: Value.int .i64 0 :: Value.int .i64 0 :: Value.int .i64 0 :: Value.int .i64 0 :: Value.int .i64 0 :: Value.int .i64 0 :: Value.int .i64 0 :: Value.int .i64 0 :: Value.int .i64 0 :: Value.int .i64 0 :: Value.int .i64 0 :: Value.int .i64 0 :: Value.int .i64 0 :: Value.int .i64 0 :: Value.int .i64 0 :: Value.int .i64 0 :: Value.int .i64 0 :: Value.int .i64 0 :: Value.int .i64 0 :: Value.int .i64 0 :: Value.int .i64 0 :: Value.int .i64 0 :: Value.int .i64 0 :: Value.int .i64 0 :: Value.int .i64 0 :: Value.int .i64 0 :: Value.int .i64 0 :: Value.int .i64 0 :: Value.int .i64 0 :: Value.int .i64 0 :: Value.int .i64 0 :: Value.int .i64 0 :: Value.int .i64 0 :: Value.int .i64 0 :: Value.int .i64 0 :: Value.int .i64 0 :: Value.int .i64 0 :: Value.int .i64 0 :: [])) 88)).setRow w3.heap.size (ints (vec s)).toArray)) := new_box w3 s rfl
            go_upto_region 15 with (refine wpList_store_row rfl 88 _ _ rfl _ (ints (vec s)).toArray rfl rfl 88 (List.toArray (Value.int .i64 0 :: Value.int .i64 0 :: Value.int .i64 0 :: Value.int .i64 0 :: Value.int .i64 0 :: Value.int .i64 0 :: Value.int .i64 0 :: Value.int .i64 0 :: Value.int .i64 0 :: Value.int .i64 0 :: Value.int .i64 0 :: Value.int .i64 0 :: Value.int .i64 0 :: Value.int .i64 0 :: Value.int .i64 0 :: Value.int .i64 0 :: Value.int .i64 0 :: Value.int .i64 0 :: Value.int .i64 0 :: Value.int .i64 0 :: Value.int .i64 0 :: Value.int .i64 0 :: Value.int .i64 0 :: Value.int .i64 0 :: Value.int .i64 0 :: Value.int .i64 0 :: Value.int .i64 0 :: Value.int .i64 0 :: Value.int .i64 0 :: Value.int .i64 0 :: Value.int .i64 0 :: Value.int .i64 0 :: Value.int .i64 0 :: Value.int .i64 0 :: Value.int .i64 0 :: Value.int .i64 0 :: Value.int .i64 0 :: Value.int .i64 0 :: Value.int .i64 0 :: Value.int .i64 0 :: Value.int .i64 0 :: Value.int .i64 0 :: Value.int .i64 0 :: Value.int .i64 0 :: Value.int .i64 0 :: Value.int .i64 0 :: Value.int .i64 0 :: Value.int .i64 0 :: Value.int .i64 0 :: Value.int .i64 0 :: Value.int .i64 0 :: Value.int .i64 0 :: Value.int .i64 0 :: Value.int .i64 0 :: Value.int .i64 0 :: Value.int .i64 0 :: Value.int .i64 0 :: Value.int .i64 0 :: Value.int .i64 0 :: Value.int .i64 0 :: [])) HB.out (vec_info s) (by rw [vec_size]; rfl) (vec_one s) ?_)
            generalize (w3.alloc (.cells (List.toArray (Value.int .i64 0 :: Value.int .i64 0 :: Value.int .i64 0 :: Value.int .i64 0 :: Value.int .i64 0 :: Value.int .i64 0 :: Value.int .i64 0 :: Value.int .i64 0 :: Value.int .i64 0 :: Value.int .i64 0 :: Value.int .i64 0 :: Value.int .i64 0 :: Value.int .i64 0 :: Value.int .i64 0 :: Value.int .i64 0 :: Value.int .i64 0 :: Value.int .i64 0 :: Value.int .i64 0 :: Value.int .i64 0 :: Value.int .i64 0 :: Value.int .i64 0 :: Value.int .i64 0 :: Value.int .i64 0 :: Value.int .i64 0 :: Value.int .i64 0 :: Value.int .i64 0 :: Value.int .i64 0 :: Value.int .i64 0 :: Value.int .i64 0 :: Value.int .i64 0 :: Value.int .i64 0 :: Value.int .i64 0 :: Value.int .i64 0 :: Value.int .i64 0 :: Value.int .i64 0 :: Value.int .i64 0 :: Value.int .i64 0 :: Value.int .i64 0 :: Value.int .i64 0 :: Value.int .i64 0 :: Value.int .i64 0 :: Value.int .i64 0 :: Value.int .i64 0 :: Value.int .i64 0 :: Value.int .i64 0 :: Value.int .i64 0 :: Value.int .i64 0 :: Value.int .i64 0 :: Value.int .i64 0 :: Value.int .i64 0 :: Value.int .i64 0 :: Value.int .i64 0 :: Value.int .i64 0 :: Value.int .i64 0 :: Value.int .i64 0 :: Value.int .i64 0 :: Value.int .i64 0 :: Value.int .i64 0 :: Value.int .i64 0 :: Value.int .i64 0 :: [])) 88)).setRow w3.heap.size (ints (vec s)).toArray = w4 at HNB ⊢
            have HK := Lib.hid HNB.out.bel
            have HST := Lib.hid HNB.out.st
            have HLT := Lib.hid HNB.out.lt
            clear HB HNB
            have b0 : w4.cell? ⟨w.heap.size, 0, none⟩ = some (.int .i64 words) := (HX.out.below HK.out).box.cell 0
            have b1 : w4.cell? ⟨w.heap.size, 1, none⟩ = some (.slice a p.length cap) := (HX.out.below HK.out).box.cell 1
            obtain ⟨bb, hbb⟩ : ∃ bb, can p h (s.l h) = bb := ⟨_, rfl⟩
            have HBB := Lib.hid hbb
            clear hbb
            go_wp2_with fail
            refine (step_any HF.out HRF.out ((HX.out.below HK.out).pg HP.out) HST.out hhn HBB.out).mono ?_
            rintro e w5 ⟨rfl, hst, hog⟩
            have hk5 := HK.out.trans (hog.below (B := w3.heap.size) (by simp) HK.out.size)
            replace HX := Lib.hid (HX.out.below hk5)
            have HSTP := Lib.hid hst
            clear b0 b1 hog HK HST HLT hk5 hst
            go_upto_if 35 with fail
            go_cut [8] from 30 to 48 (fun s8 wz => ∃ (g' : Nat) (d' : Bool), s8 = .bool d' ∧ decide (succTo p (vec s) h ++ sA p s h = []) = d' ∧ SX w words (.slice a p.length cap) Q B g' (Bfs.addAll ss (succTo p (vec s) h ++ sA p s h)) u6 R vals wz)
            case first =>
              cases bb with
              | true =>
                have HRN : Hid (Reach p (step p s h)) := .step HRF.out hhn HBB.out
                have HRG := Lib.hid (st_range (HSTP.out rfl))
                have HSA : Hid (sA p s h = [vec (step p s h)]) := by show _ = _; unfold sA; rw [if_pos HBB.out]
                go_wp2_with (refine wpList_load_mid rfl 88 _ rfl _ _ rfl (ints (vec (step p s h))) _ HRG.out Tryd.underlying88 rfl (vec_info2 (step p s h)) ?_)
                refine (add_any HX.out.q (wf_vec HF.out HRN.out) (by omega)).mono ?_
                rintro e w8 ⟨rfl, g', hq, ho, hg⟩
                have hX := HX.out.add hq ho hg
                have ea : Bfs.add (Bfs.addAll ss (succTo p (vec s) h)) (vec (step p s h)) = Bfs.addAll ss (succTo p (vec s) h ++ sA p s h) := by
                  rw [Bfs.addAll_append, HSA.out]; rfl
                rw [ea] at hX
                replace HX := Lib.hid hX
                have HDN : Hid (decide (succTo p (vec s) h ++ sA p s h = []) = false) := by show _ = _; rw [HSA.out]; simp
                clear hq ho hg hX ea HRG
                go_wp2_with fail
                go_meet
                exact ⟨g', false, rfl, HDN.out, HX.out⟩
              | false =>
                have HSA : Hid (sA p s h = []) := by show _ = _; unfold sA; rw [if_neg (by rw [HBB.out]; simp)]
                have HDN : Hid (decide (succTo p (vec s) h ++ sA p s h = []) = d) := by show _ = _; rw [HSA.out, List.append_nil]; exact HD.out
                go_wp2_with fail
                go_meet
                exact ⟨g, d, rfl, HDN.out, by rw [HSA.out, List.append_nil]; exact HX.out⟩
            case rest =>
              obtain ⟨g', d', rfl, hd', hX⟩ := hcut
              replace HX := Lib.hid hX
              replace HD := Lib.hid hd'
              clear hX hd' HSTP HBB HV2 HIN hsl2
              go_wp2_with fail
              refine (at_any HX.out.q HV3.out (by omega)).mono ?_
              rintro e w3 ⟨rfl, hb3⟩
              replace HX := Lib.hid (HX.out.below hb3)
              clear hb3
              unfold stVal
              have HB : Hid (Blk (w3.alloc (.cells (List.toArray (Value.int .i64 0 :: Value.int .i64 0 :: Value.int .i64 0 :: Value.int .i64 0 :: Value.int .i64 0 :: Value.int .i64 0 :: Value.int .i64 0 :: Value.int .i64 0 :: Value.int .i64 0 :: Value.int .i64 0 :: Value.int .i64 0 :: Value.int .i64 0 :: Value.int .i64 0 :: Value.int .i64 0 :: Value.int .i64 0 :: Value.int .i64 0 :: Value.int .i64 0 :: Value.int .i64 0 :: Value.int .i64 0 :: Value.int .i64 0 :: Value.int .i64 0 :: Value.int .i64 0 :: Value.int .i64 0 :: Value.int .i64 0 :: Value.int .i64 0 :: Value.int .i64 0 :: Value.int .i64 0 :: Value.int .i64 0 :: Value.int .i64 0 :: Value.int .i64 0 :: Value.int .i64 0 :: Value.int .i64 0 :: Value.int .i64 0 :: Value.int .i64 0 :: Value.int .i64 0 :: Value.int .i64 0 :: Value.int .i64 0 :: Value.int .i64 0 :: Value.int .i64 0 :: Value.int .i64 0 :: Value.int .i64 0 :: Value.int .i64 0 :: Value.int .i64 0 :: Value.int .i64 0 :: Value.int .i64 0 :: Value.int .i64 0 :: Value.int .i64 0 :: Value.int .i64 0 :: Value.int .i64 0 :: Value.int .i64 0 :: Value.int .i64 0 :: Value.int .i64 0 :: Value.int .i64 0 :: Value.int .i64 0 :: Value.int .i64 0 :: Value.int .i64 0 :: Value.int .i64 0 :: Value.int .i64 0 :: Value.int .i64 0 :: Value.int .i64 0 :: [])) 88)) w3.heap.size (List.toArray (Value.int .i64 0 :: Value.int .i64 0 :: Value.int .i64 0 :: Value.int .i64 0 :: Value.int .i64 0 :: Value.int .i64 0 :: Value.int .i64 0 :: Value.int .i64 0 :: Value.int .i64 0 :: Value.int .i64 0 :: Value.int .i64 0 :: Value.int .i64 0 :: Value.int .i64 0 :: Value.int .i64 0 :: Value.int .i64 0 :: Value.int .i64 0 :: Value.int .i64 0 :: Value.int .i64 0 :: Value.int .i64 0 :: Value.int .i64 0 :: Value.int .i64 0 :: Value.int .i64 0 :: Value.int .i64 0 :: Value.int .i64 0 :: Value.int .i64 0 :: Value.int .i64 0 :: Value.int .i64 0 :: Value.int .i64 0 :: Value.int .i64 0 :: Value.int .i64 0 :: Value.int .i64 0 :: Value.int .i64 0 :: Value.int .i64 0 :: Value.int .i64 0 :: Value.int .i64 0 :: Value.int .i64 0 :: Value.int .i64 0 :: Value.int .i64 0 :: Value.int .i64 0 :: Value.int .i64 0 :: Value.int .i64 0 :: Value.int .i64 0 :: Value.int .i64 0 :: Value.int .i64 0 :: Value.int .i64 0 :: Value.int .i64 0 :: Value.int .i64 0 :: Value.int .i64 0 :: Value.int .i64 0 :: Value.int .i64 0 :: Value.int .i64 0 :: Value.int .i64 0 :: Value.int .i64 0 :: Value.int .i64 0 :: Value.int .i64 0 :: Value.int .i64 0 :: Value.int .i64 0 :: Value.int .i64 0 :: Value.int .i64 0 :: Value.int .i64 0 :: [])) 88) := Blk.new _ _ _
              have HNB : Hid (NewBox w3 s ((w3.alloc (.cells (List.toArray (Value.int .i64 0 :: Value.int .i64 0 :: Value.int .i64 0 :: Value.int .i64 0 :: Value.int .i64 0 :: Value.int .i64 0 :: Value.int .i64 0 :: Value.int .i64 0 :: Value.int .i64 0 :: Value.int .i64 0 :: Value.int .i64 0 :: Value.int .i64 0 :: Value.int .i64 0 :: Value.int .i64 0 :: Value.int .i64 0 :: Value.int .i64 0 :: Value.int .i64 0 :: Value.int .i64 0 :: Value.int .i64 0 :: Value.int .i64 0 :: Value.int .i64 0 :: Value.int .i64 0 :: Value.int .i64 0 :: Value.int .i64 0 :: Value.int .i64 0 :: Value.int .i64 0 :: Value.int .i64 0 :: Value.int .i64 0 :: Value.int .i64 0 :: Value.int .i64 0 :: Value.int .i64 0 :: Value.int .i64 0 :: Value.int .i64 0 :: Value.int .i64 0 :: Value.int .i64 0 :: Value.int .i64 0 :: Value.int .i64 0 :: Value.int .i64 0 :: Value.int .i64 0 :: Value.int .i64 0 :: Value.int .i64 0 :: Value.int .i64 0 :: Value.int .i64 0 :: Value.int .i64 0 :: Value.int .i64 0 :: Value.int .i64 0 :: Value.int .i64 0 :: Value.int .i64 0 :: Value.int .i64 0 :: Value.int .i64 0 :: Value.int .i64 0 :: Value.int .i64 0 :: Value.int .i64 0 :: Value.int .i64 0 :: Value.int .i64 0 :: Value.int .i64 0 :: Value.int .i64 0 :: Value.int .i64 0 :: Value.int .i64 0 :: Value.int .i64 0 :: [])) 88)).setRow w3.heap.size (ints (vec s)).toArray)) := new_box w3 s rfl
              go_upto_region 19 with (refine wpList_store_row rfl 88 _ _ rfl _ (ints (vec s)).toArray rfl rfl 88 (List.toArray (Value.int .i64 0 :: Value.int .i64 0 :: Value.int .i64 0 :: Value.int .i64 0 :: Value.int .i64 0 :: Value.int .i64 0 :: Value.int .i64 0 :: Value.int .i64 0 :: Value.int .i64 0 :: Value.int .i64 0 :: Value.int .i64 0 :: Value.int .i64 0 :: Value.int .i64 0 :: Value.int .i64 0 :: Value.int .i64 0 :: Value.int .i64 0 :: Value.int .i64 0 :: Value.int .i64 0 :: Value.int .i64 0 :: Value.int .i64 0 :: Value.int .i64 0 :: Value.int .i64 0 :: Value.int .i64 0 :: Value.int .i64 0 :: Value.int .i64 0 :: Value.int .i64 0 :: Value.int .i64 0 :: Value.int .i64 0 :: Value.int .i64 0 :: Value.int .i64 0 :: Value.int .i64 0 :: Value.int .i64 0 :: Value.int .i64 0 :: Value.int .i64 0 :: Value.int .i64 0 :: Value.int .i64 0 :: Value.int .i64 0 :: Value.int .i64 0 :: Value.int .i64 0 :: Value.int .i64 0 :: Value.int .i64 0 :: Value.int .i64 0 :: Value.int .i64 0 :: Value.int .i64 0 :: Value.int .i64 0 :: Value.int .i64 0 :: Value.int .i64 0 :: Value.int .i64 0 :: Value.int .i64 0 :: Value.int .i64 0 :: Value.int .i64 0 :: Value.int .i64 0 :: Value.int .i64 0 :: Value.int .i64 0 :: Value.int .i64 0 :: Value.int .i64 0 :: Value.int .i64 0 :: Value.int .i64 0 :: Value.int .i64 0 :: Value.int .i64 0 :: [])) HB.out (vec_info s) (by rw [vec_size]; rfl) (vec_one s) ?_)
              generalize (w3.alloc (.cells (List.toArray (Value.int .i64 0 :: Value.int .i64 0 :: Value.int .i64 0 :: Value.int .i64 0 :: Value.int .i64 0 :: Value.int .i64 0 :: Value.int .i64 0 :: Value.int .i64 0 :: Value.int .i64 0 :: Value.int .i64 0 :: Value.int .i64 0 :: Value.int .i64 0 :: Value.int .i64 0 :: Value.int .i64 0 :: Value.int .i64 0 :: Value.int .i64 0 :: Value.int .i64 0 :: Value.int .i64 0 :: Value.int .i64 0 :: Value.int .i64 0 :: Value.int .i64 0 :: Value.int .i64 0 :: Value.int .i64 0 :: Value.int .i64 0 :: Value.int .i64 0 :: Value.int .i64 0 :: Value.int .i64 0 :: Value.int .i64 0 :: Value.int .i64 0 :: Value.int .i64 0 :: Value.int .i64 0 :: Value.int .i64 0 :: Value.int .i64 0 :: Value.int .i64 0 :: Value.int .i64 0 :: Value.int .i64 0 :: Value.int .i64 0 :: Value.int .i64 0 :: Value.int .i64 0 :: Value.int .i64 0 :: Value.int .i64 0 :: Value.int .i64 0 :: Value.int .i64 0 :: Value.int .i64 0 :: Value.int .i64 0 :: Value.int .i64 0 :: Value.int .i64 0 :: Value.int .i64 0 :: Value.int .i64 0 :: Value.int .i64 0 :: Value.int .i64 0 :: Value.int .i64 0 :: Value.int .i64 0 :: Value.int .i64 0 :: Value.int .i64 0 :: Value.int .i64 0 :: Value.int .i64 0 :: Value.int .i64 0 :: Value.int .i64 0 :: Value.int .i64 0 :: [])) 88)).setRow w3.heap.size (ints (vec s)).toArray = w4 at HNB ⊢
              have HK := Lib.hid HNB.out.bel
              have HST := Lib.hid HNB.out.st
              have HLT := Lib.hid HNB.out.lt
              have c0 := HNB.out.st.cell (show 56 + h < 60 by omega)
              rw [enc_many s h4] at c0
              have h4I : (h : Int) < 4 := by omega
              clear HB HNB
              by_cases hbe : (s.l h).b = []
              · have z : ((s.l h).b.length : Int) = 0 := by rw [hbe]; rfl
                rw [z] at c0
                have HSB : Hid (sB s h = []) := by show _ = _; unfold sB; rw [hbe]; rfl
                have HEA : Hid (succTo p (vec s) (h + 1) = succTo p (vec s) h ++ sA p s h) := by show _ = _; rw [HS1.out, HSB.out, List.append_nil]
                replace HX := Lib.hid (HX.out.below HK.out)
                clear z hbe
                go_wp2_with fail
                go_roundg (p.length - h)
                case measure => have := HHG.out; omega
                case rel => exact ⟨h + 1, g', d', rfl, by go_num, by omega, by omega, by rw [HEA.out]; exact HD.out, by rw [HEA.out]; exact HX.out⟩
              · have z : 0 < ((s.l h).b.length : Int) := by
                  have : (s.l h).b.length ≠ 0 := by simpa using hbe
                  omega
                have HBE := Lib.hid hbe
                have HRN : Hid (Reach p (flush s h)) := .flush HRF.out hhn hbe
                have HSB : Hid (sB s h = [vec (flush s h)]) := by show _ = _; unfold sB; rw [if_neg (by simpa using hbe)]
                clear hbe
                go_wp2_with fail
                refine (flush_ok HF.out HRF.out HST.out hhn HBE.out).mono ?_
                rintro e w7 ⟨rfl, hst, hog⟩
                have hk7 := HK.out.trans (hog.below (B := w3.heap.size) (by simp) HK.out.size)
                replace HX := Lib.hid (HX.out.below hk7)
                have HRG := Lib.hid (st_range hst)
                clear c0 z hst hog HK HST HLT hk7
                go_wp2_with (refine wpList_load_mid rfl 88 _ rfl _ _ rfl (ints (vec (flush s h))) _ HRG.out Tryd.underlying88 rfl (vec_info2 (flush s h)) ?_)
                refine (add_any HX.out.q (wf_vec HF.out HRN.out) (by omega)).mono ?_
                rintro e w8 ⟨rfl, g2, hq, ho, hg⟩
                have hX := HX.out.add hq ho hg
                have ea : Bfs.add (Bfs.addAll ss (succTo p (vec s) h ++ sA p s h)) (vec (flush s h)) = Bfs.addAll ss (succTo p (vec s) (h + 1)) := by
                  rw [HS1.out, HSB.out, Bfs.addAll_append (xs := succTo p (vec s) h ++ sA p s h)]; rfl
                rw [ea] at hX
                replace HX := Lib.hid hX
                have HDN : Hid (decide (succTo p (vec s) (h + 1) = []) = false) := by show _ = _; rw [HS1.out, HSB.out]; simp
                clear hq ho hg hX ea HRG
                go_wp2_with fail
                go_roundg (p.length - h)
                case measure => have := HHG.out; omega
                case rel => exact ⟨h + 1, g2, false, rfl, by go_num, by omega, by omega, HDN.out, HX.out⟩
          · obtain rfl : h = p.length := by omega
            have HNX := Lib.hid (HI.out.next HV.out)
            have HON := Lib.hid (outs_next (words := words) (p := p) (xs := succ p (vec s)) HV.out)
            cases d with
            | false =>
              have HRN : Hid (R = outs words p (Bfs.addAll ss (succ p (vec s))) (i + 1)) := by
                have := HD.out
                show R = _
                rw [HON.out, if_neg (by simpa [succ] using this), List.append_nil]; exact HRO.out
              go_wp2_with fail
              go_roundg (72832127857 - (i + 1))
              case measure => have := HIG.out; omega
              case rel => exact ⟨i + 1, g, _, R, vals, _, rfl, by go_num, by omega, HX.out, HNX.out, HRN.out⟩
            | true =>
              have HRN : Hid (R ++ [result words p (enc s)] = outs words p (Bfs.addAll ss (succ p (vec s))) (i + 1)) := by
                have := HD.out
                show R ++ _ = _
                rw [HON.out, if_pos (by simpa [succ] using this), HRO.out]
                unfold resV; rw [dec_vec HF.out.n.2 HOC.out]
              have HRL : Hid (R.length ≤ 72832127856) := by
                show _ ≤ _
                rw [HRO.out]; exact Nat.le_trans (outs_len _ _ _ _) hsl
              go_wp2_with fail
              refine (at_any HX.out.q HV2.out (by omega)).mono ?_
              rintro e w3 ⟨rfl, hb3⟩
              replace HX := Lib.hid (HX.out.below hb3)
              clear hb3
              unfold stVal
              have HB : Hid (Blk (w3.alloc (.cells (List.toArray (Value.int .i64 0 :: Value.int .i64 0 :: Value.int .i64 0 :: Value.int .i64 0 :: Value.int .i64 0 :: Value.int .i64 0 :: Value.int .i64 0 :: Value.int .i64 0 :: Value.int .i64 0 :: Value.int .i64 0 :: Value.int .i64 0 :: Value.int .i64 0 :: Value.int .i64 0 :: Value.int .i64 0 :: Value.int .i64 0 :: Value.int .i64 0 :: Value.int .i64 0 :: Value.int .i64 0 :: Value.int .i64 0 :: Value.int .i64 0 :: Value.int .i64 0 :: Value.int .i64 0 :: Value.int .i64 0 :: Value.int .i64 0 :: Value.int .i64 0 :: Value.int .i64 0 :: Value.int .i64 0 :: Value.int .i64 0 :: Value.int .i64 0 :: Value.int .i64 0 :: Value.int .i64 0 :: Value.int .i64 0 :: Value.int .i64 0 :: Value.int .i64 0 :: Value.int .i64 0 :: Value.int .i64 0 :: Value.int .i64 0 :: Value.int .i64 0 :: Value.int .i64 0 :: Value.int .i64 0 :: Value.int .i64 0 :: Value.int .i64 0 :: Value.int .i64 0 :: Value.int .i64 0 :: Value.int .i64 0 :: Value.int .i64 0 :: Value.int .i64 0 :: Value.int .i64 0 :: Value.int .i64 0 :: Value.int .i64 0 :: Value.int .i64 0 :: Value.int .i64 0 :: Value.int .i64 0 :: Value.int .i64 0 :: Value.int .i64 0 :: Value.int .i64 0 :: Value.int .i64 0 :: Value.int .i64 0 :: Value.int .i64 0 :: Value.int .i64 0 :: [])) 88)) w3.heap.size (List.toArray (Value.int .i64 0 :: Value.int .i64 0 :: Value.int .i64 0 :: Value.int .i64 0 :: Value.int .i64 0 :: Value.int .i64 0 :: Value.int .i64 0 :: Value.int .i64 0 :: Value.int .i64 0 :: Value.int .i64 0 :: Value.int .i64 0 :: Value.int .i64 0 :: Value.int .i64 0 :: Value.int .i64 0 :: Value.int .i64 0 :: Value.int .i64 0 :: Value.int .i64 0 :: Value.int .i64 0 :: Value.int .i64 0 :: Value.int .i64 0 :: Value.int .i64 0 :: Value.int .i64 0 :: Value.int .i64 0 :: Value.int .i64 0 :: Value.int .i64 0 :: Value.int .i64 0 :: Value.int .i64 0 :: Value.int .i64 0 :: Value.int .i64 0 :: Value.int .i64 0 :: Value.int .i64 0 :: Value.int .i64 0 :: Value.int .i64 0 :: Value.int .i64 0 :: Value.int .i64 0 :: Value.int .i64 0 :: Value.int .i64 0 :: Value.int .i64 0 :: Value.int .i64 0 :: Value.int .i64 0 :: Value.int .i64 0 :: Value.int .i64 0 :: Value.int .i64 0 :: Value.int .i64 0 :: Value.int .i64 0 :: Value.int .i64 0 :: Value.int .i64 0 :: Value.int .i64 0 :: Value.int .i64 0 :: Value.int .i64 0 :: Value.int .i64 0 :: Value.int .i64 0 :: Value.int .i64 0 :: Value.int .i64 0 :: Value.int .i64 0 :: Value.int .i64 0 :: Value.int .i64 0 :: Value.int .i64 0 :: Value.int .i64 0 :: Value.int .i64 0 :: [])) 88) := Blk.new _ _ _
              have HNB : Hid (NewBox w3 s ((w3.alloc (.cells (List.toArray (Value.int .i64 0 :: Value.int .i64 0 :: Value.int .i64 0 :: Value.int .i64 0 :: Value.int .i64 0 :: Value.int .i64 0 :: Value.int .i64 0 :: Value.int .i64 0 :: Value.int .i64 0 :: Value.int .i64 0 :: Value.int .i64 0 :: Value.int .i64 0 :: Value.int .i64 0 :: Value.int .i64 0 :: Value.int .i64 0 :: Value.int .i64 0 :: Value.int .i64 0 :: Value.int .i64 0 :: Value.int .i64 0 :: Value.int .i64 0 :: Value.int .i64 0 :: Value.int .i64 0 :: Value.int .i64 0 :: Value.int .i64 0 :: Value.int .i64 0 :: Value.int .i64 0 :: Value.int .i64 0 :: Value.int .i64 0 :: Value.int .i64 0 :: Value.int .i64 0 :: Value.int .i64 0 :: Value.int .i64 0 :: Value.int .i64 0 :: Value.int .i64 0 :: Value.int .i64 0 :: Value.int .i64 0 :: Value.int .i64 0 :: Value.int .i64 0 :: Value.int .i64 0 :: Value.int .i64 0 :: Value.int .i64 0 :: Value.int .i64 0 :: Value.int .i64 0 :: Value.int .i64 0 :: Value.int .i64 0 :: Value.int .i64 0 :: Value.int .i64 0 :: Value.int .i64 0 :: Value.int .i64 0 :: Value.int .i64 0 :: Value.int .i64 0 :: Value.int .i64 0 :: Value.int .i64 0 :: Value.int .i64 0 :: Value.int .i64 0 :: Value.int .i64 0 :: Value.int .i64 0 :: Value.int .i64 0 :: Value.int .i64 0 :: Value.int .i64 0 :: [])) 88)).setRow w3.heap.size (ints (vec s)).toArray)) := new_box w3 s rfl
              go_upto_region 26 with (refine wpList_store_row rfl 88 _ _ rfl _ (ints (vec s)).toArray rfl rfl 88 (List.toArray (Value.int .i64 0 :: Value.int .i64 0 :: Value.int .i64 0 :: Value.int .i64 0 :: Value.int .i64 0 :: Value.int .i64 0 :: Value.int .i64 0 :: Value.int .i64 0 :: Value.int .i64 0 :: Value.int .i64 0 :: Value.int .i64 0 :: Value.int .i64 0 :: Value.int .i64 0 :: Value.int .i64 0 :: Value.int .i64 0 :: Value.int .i64 0 :: Value.int .i64 0 :: Value.int .i64 0 :: Value.int .i64 0 :: Value.int .i64 0 :: Value.int .i64 0 :: Value.int .i64 0 :: Value.int .i64 0 :: Value.int .i64 0 :: Value.int .i64 0 :: Value.int .i64 0 :: Value.int .i64 0 :: Value.int .i64 0 :: Value.int .i64 0 :: Value.int .i64 0 :: Value.int .i64 0 :: Value.int .i64 0 :: Value.int .i64 0 :: Value.int .i64 0 :: Value.int .i64 0 :: Value.int .i64 0 :: Value.int .i64 0 :: Value.int .i64 0 :: Value.int .i64 0 :: Value.int .i64 0 :: Value.int .i64 0 :: Value.int .i64 0 :: Value.int .i64 0 :: Value.int .i64 0 :: Value.int .i64 0 :: Value.int .i64 0 :: Value.int .i64 0 :: Value.int .i64 0 :: Value.int .i64 0 :: Value.int .i64 0 :: Value.int .i64 0 :: Value.int .i64 0 :: Value.int .i64 0 :: Value.int .i64 0 :: Value.int .i64 0 :: Value.int .i64 0 :: Value.int .i64 0 :: Value.int .i64 0 :: Value.int .i64 0 :: Value.int .i64 0 :: [])) HB.out (vec_info s) (by rw [vec_size]; rfl) (vec_one s) ?_)
              generalize (w3.alloc (.cells (List.toArray (Value.int .i64 0 :: Value.int .i64 0 :: Value.int .i64 0 :: Value.int .i64 0 :: Value.int .i64 0 :: Value.int .i64 0 :: Value.int .i64 0 :: Value.int .i64 0 :: Value.int .i64 0 :: Value.int .i64 0 :: Value.int .i64 0 :: Value.int .i64 0 :: Value.int .i64 0 :: Value.int .i64 0 :: Value.int .i64 0 :: Value.int .i64 0 :: Value.int .i64 0 :: Value.int .i64 0 :: Value.int .i64 0 :: Value.int .i64 0 :: Value.int .i64 0 :: Value.int .i64 0 :: Value.int .i64 0 :: Value.int .i64 0 :: Value.int .i64 0 :: Value.int .i64 0 :: Value.int .i64 0 :: Value.int .i64 0 :: Value.int .i64 0 :: Value.int .i64 0 :: Value.int .i64 0 :: Value.int .i64 0 :: Value.int .i64 0 :: Value.int .i64 0 :: Value.int .i64 0 :: Value.int .i64 0 :: Value.int .i64 0 :: Value.int .i64 0 :: Value.int .i64 0 :: Value.int .i64 0 :: Value.int .i64 0 :: Value.int .i64 0 :: Value.int .i64 0 :: Value.int .i64 0 :: Value.int .i64 0 :: Value.int .i64 0 :: Value.int .i64 0 :: Value.int .i64 0 :: Value.int .i64 0 :: Value.int .i64 0 :: Value.int .i64 0 :: Value.int .i64 0 :: Value.int .i64 0 :: Value.int .i64 0 :: Value.int .i64 0 :: Value.int .i64 0 :: Value.int .i64 0 :: Value.int .i64 0 :: Value.int .i64 0 :: Value.int .i64 0 :: [])) 88)).setRow w3.heap.size (ints (vec s)).toArray = w4 at HNB ⊢
              have b0 : w4.cell? ⟨w.heap.size, 0, none⟩ = some (.int .i64 words) := (HX.out.below HNB.out.bel).box.cell 0
              have b1 : w4.cell? ⟨w.heap.size, 1, none⟩ = some (.slice a p.length cap) := (HX.out.below HNB.out.bel).box.cell 1
              clear HB
              go_wp2_with fail
              refine (result_any ((HX.out.below HNB.out.bel).pg HP.out) HNB.out.st.st HN3 HF.out.w).mono ?_
              rintro e w5 ⟨x, rfl, hg, hbel⟩
              have HK := Lib.hid (HNB.out.bel.trans (hbel.mono HNB.out.bel.size))
              have HGN : Hid (Nums w5 x (result words p (enc s)) ∧ ∃ b, x.ownBlock = some b ∧ w3.heap.size ≤ b ∧ b < w5.heap.size) := by
                obtain ⟨a1, b, b1, b2, b3⟩ := gave_nums hg (by
                  have := result_len (words := words) (p := p) (f := enc s) (by have := HF.out.w; omega)
                  have := HF.out.w
                  unfold maxLen; omega)
                exact ⟨a1, b, b1, Nat.le_trans HNB.out.bel.size b2, b3⟩
              have HXO : Hid (OutAt w5 (w.heap.size + 1) [Q, B, g] u6 R vals) := (HX.out.below HK.out).out
              obtain ⟨a1, c1, rfl, -⟩ := HGN.out.1
              have HSZ : Hid (w.heap.size + 1 ≤ w5.heap.size) := (HX.out.below HK.out).size
              clear hg hbel b0 b1 HNB
              go_wp2_with (at_builtin; refine wpList_append_own_at _ rfl _ _ 26 rfl (w.heap.size + 1) 47 i0 (.slice none 0 0) 1 24 Tryd.underlying26 hi hz0 hz1 hz2 rfl (by decide) _ R.length vals rfl (HXO.out.own.alloc _) ⟨w5.heap.size, 0, none⟩ 1 1 [.slice a1 (result words p (enc s)).length c1] rfl rfl ?c1 ?c2 ?c3 ?c4 ?c5 ?_)
              case c1 => exact fun j u h => news_cell w5 _ _ j u h
              case c2 => intro y hy; simp at hy; subst hy; rfl
              case c3 => have := HRL.out; unfold maxLen; omega
              case c4 => have := HRL.out; omega
              case c5 => have := HSZ.out; simp; omega
              intro v' w6 hown hgrow _ hat
              have hX := HX.out.push HK.out HGN.out hown hgrow (by simpa using hat) rfl rfl
              replace HX := Lib.hid hX
              clear hX hown hgrow hat HXO
              go_wp2_with fail
              go_roundg (72832127857 - (i + 1))
              case measure => have := HIG.out; omega
              case rel => exact ⟨i + 1, g, _, _, _, _, rfl, by go_num, by omega, HX.out, HNX.out, HRN.out⟩
      · obtain rfl : i = ss.length := by omega
        have HME : Hid (∀ x, x ∈ R ↔ Ends words p x) := fun x => by rw [HRO.out]; exact outs_mem HF.out HI.out
        have HR0 : Hid (R.length ≠ 0) := by
          obtain ⟨x, hx⟩ := run_nil HCK.out
          have := (HME.out x).2 hx
          intro e
          have e2 : R = [] := by simpa using e
          exact absurd this (by rw [e2]; simp)
        have HRL : Hid (R.length ≤ 72832127856) := by
          show _ ≤ _
          rw [HRO.out]; exact Nat.le_trans (outs_len _ _ _ _) hsl
        go_wp2_with fail
        refine (sorted_any HX.out.out HR0.out (by have := HRL.out; omega) HX.out.size).mono ?_
        rintro e w2 ⟨x, M, rfl, hM, hrise, hmem, hlen, hbel⟩
        have HT : Hid (Told words p w w2 (.returned (.tuple #[x, .nilIface]))) := .ok HCK.out hM ⟨hrise, fun y => by rw [hmem]; exact HME.out y⟩ (Nat.le_trans hlen HRL.out)
        have HBL := Lib.hid (HX.out.bel.trans (hbel.mono (by omega)))
        clear hM hrise hmem hlen hbel
        go_wp2_with fail
        go_ret2
        exact ⟨HT.out, HBL.out⟩
  · have ev : errVal (check words p) = .iface 74 (.int .i64 (check words p)) := by simp [errVal, hc]
    have HCE := Lib.hid hc
    rw [ev]
    clear ev hc
    go_wp2_with fail
    go_ret2
    exact ⟨.err HCE.out, HC.out.bel⟩
end Go.Proofs.YtimbdjmplcgilaaDoor.Tso
