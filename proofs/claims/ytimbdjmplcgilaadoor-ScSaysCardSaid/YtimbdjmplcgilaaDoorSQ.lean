import Derived.Test.YtimbdjmplcgilaaDoorQKey
import Derived.Test.YtimbdjmplcgilaaDoorBfs
namespace Go.Proofs.YtimbdjmplcgilaaDoor.SQ
open Go.RowKit Go.Maps Go.ChangeMaps Go.MapKept
open Pr (ints)
set_option linter.unusedVariables false

/-- A state as a value. -/
def stVal (s : List Int) : Value := .agg (ints s).toArray
structure Wf (s : List Int) : Prop where
  len : s.length = 16
  num : Small s
theorem laid : laidOutB Tryd.prog = true := by kernel_rfl
set_option maxRecDepth 100000 in
theorem law : Keyed Tryd.prog 67 := Keyed.of_law (deep_law_laid laid (m := 6) (by omega) (of_decide_eq_true (by kernel_rfl)) (by kernel_rfl) (by kernel_rfl))
set_option maxRecDepth 100000 in
theorem key_some {s : List Int} (h : Wf s) : ∃ l, keyOf Tryd.prog 67 (stVal s) = some l :=
  keyOf_int_only (by kernel_rfl) (by kernel_rfl) (by kernel_rfl) (by
    have : Tryd.prog.cellsOf 67 = 16 := by kernel_rfl
    rw [this]; simp [ints, h.len]) (by
    intro c hc
    simp [ints] at hc
    obtain ⟨x, hx, rfl⟩ := hc
    exact ⟨x, rfl, h.num x hx⟩)
set_option maxRecDepth 100000 in
theorem key_inj {s r : List Int} {l : Lit} (h : keyOf Tryd.prog 67 (stVal s) = some l) (k : keyOf Tryd.prog 67 (stVal r) = some l) : s = r := by
  have := law.inj h k
  simp only [stVal, Value.agg.injEq] at this
  exact Pr.ints_inj (by simpa using congrArg Array.toList this)
/-- A map that holds the states of a list. -/
def SetAt (w : World) (B : Nat) (ss : List (List Int)) : Prop :=
  ∃ (n : Nat) (D : DataW Unit), n ≤ ss.length ∧ w.ownsMap Tryd.prog 67 (plainElem Tryd.prog 4) B n D ∧ ∀ s l, keyOf Tryd.prog 67 (stVal s) = some l → D.atKey l (.lit (.bool false)) = .lit (.bool (decide (s ∈ ss)))
theorem SetAt.keep {w w' : World} {B : Nat} {ss : List (List Int)} (h : SetAt w B ss) (k : w'.heap[B]? = w.heap[B]?) : SetAt w' B ss := by
  obtain ⟨n, D, hn, ⟨es, clock, hb, r⟩, hat⟩ := h
  exact ⟨n, D, hn, ⟨es, clock, k.trans hb, r⟩, hat⟩
theorem SetAt.lt {w : World} {B : Nat} {ss : List (List Int)} (h : SetAt w B ss) : B < w.heap.size := by
  obtain ⟨n, D, hn, ho, -⟩ := h; exact ho.lt
theorem set_made (w : World) : SetAt (w.alloc (.map #[] 0)) w.heap.size [] :=
  ⟨0, .map [], Nat.le_refl _, World.ownsMap_made w _ _ _, fun s l _ => by simp [DataW.atKey]⟩
theorem zeroB (w : World) : (zeroValue 4).run Tryd.prog w = .ok (.bool false) w := by kernel_rfl
set_option maxRecDepth 100000 in
theorem SetAt.look {w : World} {B : Nat} {ss : List (List Int)} (h : SetAt w B ss) {s : List Int} (hs : Wf s) :
    (Instr.lookup 58 (.map (some B)) (stVal s) false).run Tryd.prog w = .ok (.bool (decide (s ∈ ss))) w := by
  obtain ⟨n, D, hn, ho, hat⟩ := h
  obtain ⟨l, hkl⟩ := key_some hs
  obtain ⟨v, ps, hrun, hv⟩ := ho.lookup law Tryd.underlying58 (zeroB w) (plainElem_bool Tryd.underlying4 false) hkl
  rw [hat s l hkl] at hv
  obtain ⟨b, rfl, hb⟩ := plainElem_bool_inv Tryd.underlying4 hv
  simp at hb
  rw [hrun, hb.1]
set_option maxRecDepth 100000 in
theorem SetAt.put {w : World} {B : Nat} {ss : List (List Int)} (h : SetAt w B ss) {s : List Int} (hs : Wf s) (hl : ss.length < 1000000000000) :
    ∃ w', (Instr.mapUpdate 58 (.map (some B)) (stVal s) (.bool true)).run Tryd.prog w = .ok () w' ∧ SetAt w' B (ss ++ [s]) ∧ Only [B] w w' := by
  obtain ⟨n, D, hn, ho, hat⟩ := h
  have hnm : n < maxLen := by unfold maxLen; omega
  obtain ⟨l, hkl⟩ := key_some hs
  obtain ⟨w', hrun, ho', ht⟩ := ho.store law Tryd.underlying58 hnm (val := .bool true) hkl (plainElem_bool Tryd.underlying4 true)
  have hik : WideAt.IsKeyLit l := law.key hkl
  have him := ho.isMap
  refine ⟨w', hrun, ⟨n + 1, _, by simp; omega, ho', fun r m hr => ?_⟩, ?_⟩
  · by_cases e : r = s
    · subst e
      have e2 : l = m := by rw [hkl] at hr; exact Option.some.inj hr
      subst e2
      rw [atKey_put_same him hik]; simp
    · have hk : m ≠ l := fun x => e (key_inj hr (x ▸ hkl))
      rw [atKey_put_other hk, hat r m hr]; simp [e]
  · obtain ⟨es, clock, es', clock', hb, rfl⟩ := ht
    exact ⟨rfl, rfl, rfl, by simp [setBlock], fun k hk => heap_setBlock_other hb _ (by simpa using hk)⟩
end Go.Proofs.YtimbdjmplcgilaaDoor.SQ
namespace Go.Proofs.YtimbdjmplcgilaaDoor.SQ
open Go.RowKit Go.Maps
open Pr (ints)
set_option linter.unusedVariables false

/-- A queue that holds the states of a list: its own block Q, its map B, its row g. -/
structure QAt (w : World) (Q B g : Nat) (ss : List (List Int)) : Prop where
  lies : ∃ cap, Blk w Q #[.map (some B), .slice (some ⟨g, 0, none⟩) ss.length cap] 61 ∧ w.ownsRow 0 67 16 (.slice (some ⟨g, 0, none⟩) ss.length cap) ss.length (ss.flatMap ints)
  set : SetAt w B ss
  qb : Q ≠ B
  qg : Q ≠ g
  bg : B ≠ g
  wf : ∀ s ∈ ss, Wf s
theorem QAt.glt {w : World} {Q B g : Nat} {ss : List (List Int)} (h : QAt w Q B g ss) : g < w.heap.size := by
  obtain ⟨cap, -, ho⟩ := h.lies
  exact (ho.lt g rfl).2
theorem QAt.keep {w w' : World} {Q B g : Nat} {ss : List (List Int)} (h : QAt w Q B g ss) (kQ : w'.heap[Q]? = w.heap[Q]?) (kB : w'.heap[B]? = w.heap[B]?) (kg : w'.heap[g]? = w.heap[g]?) : QAt w' Q B g ss := by
  refine ⟨?_, h.set.keep kB, h.qb, h.qg, h.bg, h.wf⟩
  obtain ⟨cap, hb, hl, ho⟩ := h.lies
  refine ⟨cap, by unfold Blk at *; rw [kQ]; exact hb, hl, ?_⟩
  rcases ho with ⟨e, -⟩ | ⟨g', cap', cur, e, h0, h1, r⟩
  · cases e
  · cases e
    exact .inr ⟨g, cap, cur, rfl, h0, by rw [kg]; exact h1, r⟩
theorem QAt.qlt {w : World} {Q B g : Nat} {ss : List (List Int)} (h : QAt w Q B g ss) : Q < w.heap.size := by
  obtain ⟨cap, hb, -⟩ := h.lies
  exact hb.lt
theorem QAt.below {w w' : World} {b : Nat} {Q B g : Nat} {ss : List (List Int)} (h : QAt w Q B g ss) (k : Below b w w') (hQ : Q < b) (hB : B < b) (hg : g < b) : QAt w' Q B g ss :=
  h.keep (k.block _ hQ) (k.block _ hB) (k.block _ hg)
theorem QAt.new {w w' : World} {Q B g : Nat} {ss : List (List Int)} (h : QAt w Q B g ss) (k : Below w.heap.size w w') : QAt w' Q B g ss :=
  h.below k h.qlt h.set.lt h.glt
theorem flat_len {ss : List (List Int)} (h : ∀ s ∈ ss, Wf s) : (ss.flatMap ints).length = ss.length * 16 := by
  induction ss with
  | nil => rfl
  | cons a r ih =>
    rw [List.flatMap_cons, List.length_append, ih (fun s hs => h s (by simp [hs]))]
    have := (h a (by simp)).len
    simp [ints, this]; omega
theorem flat_get {ss : List (List Int)} (h : ∀ s ∈ ss, Wf s) : ∀ {i : Nat} {s : List Int}, ss[i]? = some s → ∀ j v, (ints s)[j]? = some v → (ss.flatMap ints)[i * 16 + j]? = some v := by
  induction ss with
  | nil => intro i s hi; simp at hi
  | cons a r ih =>
    intro i s hi j v hv
    have ha := (h a (by simp)).len
    rw [List.flatMap_cons]
    cases i with
    | zero =>
      simp at hi
      subst hi
      have hj := (List.getElem?_eq_some_iff.1 hv).1
      rw [List.getElem?_append_left (by omega)]; simpa using hv
    | succ i =>
      have hla : (ints a).length = 16 := by simp [ints, ha]
      rw [List.getElem?_append_right (by omega), hla, show (i + 1) * 16 + j - 16 = i * 16 + j by omega]
      exact ih (fun s hs => h s (by simp [hs])) (by simpa using hi) j v hv
/-- Where a state lies. -/
theorem QAt.row {w : World} {Q B g : Nat} {ss : List (List Int)} (h : QAt w Q B g ss) {i : Nat} {s : List Int} (hi : ss[i]? = some s) : w.rangeAt g (i * 16) (ints s) := by
  obtain ⟨cap, -, ho⟩ := h.lies
  intro j v hv
  have := ho.cells (g := g) rfl _ _ (flat_get h.wf hi j v hv)
  simpa [WideShapes.add_plain] using this

theorem infoK : (Tryd.prog.info? 67).map (·.size) = some 16 := by kernel_rfl
theorem Blk.setRow {w : World} {b : Nat} {c c' : Array Value} {T : TypeId} (h : Blk w b c T) : Blk (w.setRow b c') b c' T := setRow_heap w b c c' T (0, 0) h

set_option maxHeartbeats 2000000 in
set_option maxRecDepth 100000 in
theorem len_any {w : World} {Q B g : Nat} {ss : List (List Int)} (h : QAt w Q B g ss) :
    Calls Tryd.prog 25 #[.pointer (some ⟨Q, 0, none⟩)] w fun e w' => e = .returned (.int .i64 ss.length) ∧ w' = w := by
  obtain ⟨cap, hb, -⟩ := h.lies
  have c1 : w.cell? ⟨Q, 1, none⟩ = some (.slice (some ⟨g, 0, none⟩) ss.length cap) := hb.cell 1
  clear h hb
  go_enter Tryd.func25, Tryd.ntmps25
  go_wp2_with fail
  go_ret
  exact ⟨rfl, rfl⟩

set_option maxHeartbeats 2000000 in
set_option maxRecDepth 100000 in
theorem at_any {w : World} {Q B g : Nat} {ss : List (List Int)} (h : QAt w Q B g ss) {i : Nat} {s : List Int} (hi : ss[i]? = some s) (hl : ss.length < 1000000000000) :
    Calls Tryd.prog 26 #[.pointer (some ⟨Q, 0, none⟩), .int .i64 i] w fun e w' => e = .returned (stVal s) ∧ Below w.heap.size w w' := by
  have hs := (h.wf s (List.mem_of_getElem? hi)).len
  have hil : i < ss.length := (List.getElem?_eq_some_iff.1 hi).1
  have hiI : (i : Int) < ss.length := by omega
  have HR := Lib.hid (h.row hi)
  have hQ := h.qlt
  have hg := h.glt
  obtain ⟨cap, hb, -⟩ := h.lies
  have c1 : w.cell? ⟨Q, 1, none⟩ = some (.slice (some ⟨g, 0, none⟩) ss.length cap) := hb.cell 1
  have HB := Lib.hid (Blk.new w (List.toArray (Value.int .i64 0 :: Value.int .i64 0 :: Value.int .i64 0 :: Value.int .i64 0 :: Value.int .i64 0 :: Value.int .i64 0 :: Value.int .i64 0 :: Value.int .i64 0 :: Value.int .i64 0 :: Value.int .i64 0 :: Value.int .i64 0 :: Value.int .i64 0 :: Value.int .i64 0 :: Value.int .i64 0 :: Value.int .i64 0 :: Value.int .i64 0 :: [])) 67)
  have HL : Hid (Below w.heap.size w (w.alloc (.cells (List.toArray (Value.int .i64 0 :: Value.int .i64 0 :: Value.int .i64 0 :: Value.int .i64 0 :: Value.int .i64 0 :: Value.int .i64 0 :: Value.int .i64 0 :: Value.int .i64 0 :: Value.int .i64 0 :: Value.int .i64 0 :: Value.int .i64 0 :: Value.int .i64 0 :: Value.int .i64 0 :: Value.int .i64 0 :: Value.int .i64 0 :: Value.int .i64 0 :: [])) 67))) := (Below.refl _ _).alloc (Nat.le_refl _) _
  have HIS : Hid ((ints s).toArray.size = 16) := by show _ = _; simp [ints, hs]
  have H1 : Hid ((ints s).toArray.all (·.oneCell') = true) := all_oneCell_toArray (fun v hv => by simp [ints] at hv; obtain ⟨x, -, rfl⟩ := hv; rfl)
  clear h hb hi hs
  go_enter Tryd.func26, Tryd.ntmps26
  go_upto_region 1 with fail
  generalize w.alloc (.cells (List.toArray (Value.int .i64 0 :: Value.int .i64 0 :: Value.int .i64 0 :: Value.int .i64 0 :: Value.int .i64 0 :: Value.int .i64 0 :: Value.int .i64 0 :: Value.int .i64 0 :: Value.int .i64 0 :: Value.int .i64 0 :: Value.int .i64 0 :: Value.int .i64 0 :: Value.int .i64 0 :: Value.int .i64 0 :: Value.int .i64 0 :: Value.int .i64 0 :: [])) 67) = wx at HB HL ⊢
  have c2 : wx.cell? ⟨Q, 1, none⟩ = some (.slice (some ⟨g, 0, none⟩) ss.length cap) := by rw [HL.out.cell (p := ⟨Q, 1, none⟩) hQ]; exact c1
  have HR2 : Hid (wx.rangeAt g (i * 16) (ints s)) := by
    intro j v hv
    have := HR.out j v hv
    rw [HL.out.cell (p := ⟨g, _, none⟩) hg]
    exact this
  have HI2 : Hid ((Tryd.prog.info? 67).map (·.size) = some (ints s).length) := by show _ = _; rw [infoK]; have := HIS.out; simp at this; simp [this]
  have HI3 : Hid ((Tryd.prog.info? 67).map (·.size) = some (ints s).toArray.size) := by show _ = _; rw [infoK, HIS.out]
  have HI4 : Hid (((List.toArray (Value.int .i64 0 :: Value.int .i64 0 :: Value.int .i64 0 :: Value.int .i64 0 :: Value.int .i64 0 :: Value.int .i64 0 :: Value.int .i64 0 :: Value.int .i64 0 :: Value.int .i64 0 :: Value.int .i64 0 :: Value.int .i64 0 :: Value.int .i64 0 :: Value.int .i64 0 :: Value.int .i64 0 :: Value.int .i64 0 :: Value.int .i64 0 :: [])) : Array Value).size = (ints s).toArray.size) := by show _ = _; rw [HIS.out]; rfl
  clear c1 HR
  go_wp2_with (first | (refine wpList_load_mid rfl 67 _ rfl _ _ rfl (ints s) _ HR2.out Tryd.underlying67 rfl HI2.out ?_) | (refine wpList_store_row rfl 67 _ _ rfl _ (ints s).toArray rfl rfl 67 (List.toArray (Value.int .i64 0 :: Value.int .i64 0 :: Value.int .i64 0 :: Value.int .i64 0 :: Value.int .i64 0 :: Value.int .i64 0 :: Value.int .i64 0 :: Value.int .i64 0 :: Value.int .i64 0 :: Value.int .i64 0 :: Value.int .i64 0 :: Value.int .i64 0 :: Value.int .i64 0 :: Value.int .i64 0 :: Value.int .i64 0 :: Value.int .i64 0 :: [])) HB.out HI3.out HI4.out H1.out ?_))
  go_wp2_with fail
  (try simp only [Exit.inBlock, Exit.then])
  refine bodyPost_ret (results_cell_row rfl _ _ w.heap.size 67 (ints s).toArray (0, 0) _ rfl (Blk.setRow HB.out) Tryd.underlying67 rfl (by rw [infoK, HIS.out])) rfl ?_
  exact ⟨rfl, below_setRow HL.out (Nat.le_refl _) _⟩
end Go.Proofs.YtimbdjmplcgilaaDoor.SQ
namespace Go.Proofs.YtimbdjmplcgilaaDoor.SQ
open Go.RowKit Go.Maps
open Pr (ints)
set_option linter.unusedVariables false
set_option linter.unusedSimpArgs false

theorem nil_no (B : Nat) (w : World) : (binOp .eql 58 (.map (some B)) (.map none)).run Tryd.prog w = .ok (.bool false) w := by kernel_rfl
theorem nil_yes (w : World) : (binOp .eql 58 (.map none) (.map none)).run Tryd.prog w = .ok (.bool true) w := by kernel_rfl
theorem infoKK : (Tryd.prog.info? 67).map (fun i => (i.zero, i.size, i.bytes)) = some (some (.agg (List.toArray (Value.int .i64 0 :: Value.int .i64 0 :: Value.int .i64 0 :: Value.int .i64 0 :: Value.int .i64 0 :: Value.int .i64 0 :: Value.int .i64 0 :: Value.int .i64 0 :: Value.int .i64 0 :: Value.int .i64 0 :: Value.int .i64 0 :: Value.int .i64 0 :: Value.int .i64 0 :: Value.int .i64 0 :: Value.int .i64 0 :: Value.int .i64 0 :: []))), 16, 128) := by kernel_rfl
theorem grown_blk {w w' : World} {r : Option Nat} {b : Nat} {c : Array Value} {T : TypeId} (h : w.grownBy w' r) (hb : some b ≠ r) (k : Blk w b c T) : Blk w' b c T := by
  have := k.lt
  unfold Blk at *; rw [h.block b this hb]; exact k
theorem add_end {w w4 w5 : World} {Q B g g2 cap cap2 : Nat} {ss : List (List Int)} {s : List Int} {o : Obj} (hqb : Q ≠ B) (hqg : Q ≠ g) (hbg : B ≠ g) (hwf : ∀ s ∈ ss, Wf s) (hs : Wf s) (hset : SetAt w4 B (ss ++ [s]))
    (hq : Blk w4 Q #[.map (some B), .slice (some ⟨g, 0, none⟩) ss.length cap] 61) (ho : OnlyG [Q, B, g] w w4) (hsz : w.heap.size ≤ w4.heap.size) (hg : g < w.heap.size) (hB : B < w.heap.size) (hQ : Q < w.heap.size)
    (h5 : (w4.drew.alloc o).grownBy w5 (Value.ownBlock (.slice (some ⟨g, 0, none⟩) ss.length cap))) (hown : w5.ownsRow 0 67 16 (.slice (some ⟨g2, 0, none⟩) (ss.length + 1) cap2) (ss.length + 1) (ss.flatMap ints ++ ints s))
    (hat : Value.ownBlock (.slice (some ⟨g, 0, none⟩) ss.length cap) = some g2 ∨ g2 = w4.heap.size + 1) :
    QAt (w5.setCell ⟨Q, 1, none⟩ (.slice (some ⟨g2, 0, none⟩) (ss.length + 1) cap2)) Q B g2 (ss ++ [s]) ∧ OnlyG [Q, B, g] w (w5.setCell ⟨Q, 1, none⟩ (.slice (some ⟨g2, 0, none⟩) (ss.length + 1) cap2)) ∧ (g2 = g ∨ w.heap.size ≤ g2) := by
  have hg2 : g2 = g ∨ g2 = w4.heap.size + 1 := by
    rcases hat with h | h
    · exact .inl (by simpa [Value.ownBlock] using h.symm)
    · exact .inr h
  have k5 : ∀ k, k < w4.heap.size → k ≠ g → w5.heap[k]? = w4.heap[k]? := fun k hk hne => by
    rw [h5.block k (by simp; omega) (by simpa [Value.ownBlock] using hne)]
    exact RowKit.Below.heap_alloc _ _ _ hk
  have hsz5 : w4.heap.size + 1 ≤ w5.heap.size := by have := h5.size; simpa using this
  have kB : w5.heap[B]? = w4.heap[B]? := k5 B (by omega) hbg
  have kQ : w5.heap[Q]? = w4.heap[Q]? := k5 Q (by omega) hqg
  have hq2g : Q ≠ g2 := by omega
  refine ⟨⟨⟨cap2, ?_, ?_⟩, ?_, hqb, hq2g, by omega, ?_⟩, ?_, by omega⟩
  · have hq5 : Blk w5 Q #[.map (some B), .slice (some ⟨g, 0, none⟩) ss.length cap] 61 := by unfold Blk at *; rw [kQ]; exact hq
    exact Blk.eq (hq5.set 1 _) (by simp)
  · obtain ⟨h1, ho⟩ := hown
    refine ⟨by simpa using h1, ?_⟩
    rcases ho with ⟨e, -⟩ | ⟨g', cap', cur, e, h0, h2, r⟩
    · cases e
    · cases e
      refine .inr ⟨g2, cap2, cur, by simp, h0, ?_, by simpa using r⟩
      rw [RowKit.Below.heap_setCell _ _ _ _ (show g2 ≠ Q by omega)]; exact h2
  · refine hset.keep ?_
    rw [RowKit.Below.heap_setCell _ _ _ _ (show B ≠ Q by omega)]; exact kB
  · intro r hr
    rcases List.mem_append.1 hr with hr | hr
    · exact hwf r hr
    · simp at hr; exact hr ▸ hs
  · refine OnlyG.set ⟨?_, ?_, ?_, by omega, fun k h0 hk => ?_⟩ (by simp) _ _
    · exact h5.os.trans ho.os
    · exact h5.tape.trans ho.tape
    · exact h5.output.trans ho.output
    · simp at hk
      rw [k5 k (by omega) hk.2.2]
      exact ho.block k h0 (by simpa using hk)
theorem load_row {w : World} {b : Nat} {c : Array Value} (h : Blk w b c 67) (hc : c.size = 16) : (Instr.loadAt 67 (.pointer (some ⟨b, 0, none⟩))).run Tryd.prog w = .ok (.agg c) w := by
  have := run_loadAt_mid (P := Tryd.prog) w b 0 67 c.toList _ (fun j v hv => by rw [Nat.zero_add, h.cell]; simpa using hv) Tryd.underlying67 rfl (by rw [infoK]; simp [hc])
  simpa using this

set_option maxHeartbeats 2000000 in
set_option maxRecDepth 100000 in
theorem add_new {w : World} {Q B g : Nat} {ss : List (List Int)} {s : List Int} (h : QAt w Q B g ss) (hs : Wf s) (hn : s ∉ ss) (hl : ss.length < 100000000000) :
    Calls Tryd.prog 24 #[.pointer (some ⟨Q, 0, none⟩), stVal s] w fun e w' => e = .returned (.tuple #[]) ∧ ∃ g', QAt w' Q B g' (ss ++ [s]) ∧ OnlyG [Q, B, g] w w' ∧ (g' = g ∨ w.heap.size ≤ g') := by
  have hQ := h.qlt
  have hBl := h.set.lt
  have hg := h.glt
  have hl1 := hs.len
  have HB := Lib.hid (Blk.new w (ints s).toArray 67)
  have HL : Hid (Below w.heap.size w (w.alloc (.cells (ints s).toArray 67))) := (Below.refl _ _).alloc (Nat.le_refl _) _
  have HQ := Lib.hid (h.new HL.out)
  have HO : Hid (OnlyG [Q, B, g] w (w.alloc (.cells (ints s).toArray 67))) := (OnlyG.refl _ _).alloc _
  have HIS : Hid ((ints s).toArray.size = 16) := by show _ = _; simp [ints, hl1]
  have hsz : (w.alloc (.cells (ints s).toArray 67)).heap.size = w.heap.size + 1 := by simp
  have HS := Lib.hid hs
  have HN := Lib.hid hn
  obtain ⟨i0, hi, hz0, hz1, hz2⟩ := info_parts infoKK
  clear h hs hn
  unfold stVal
  go_enter Tryd.func24, Tryd.ntmps24
  go_upto_region 1 with fail
  generalize w.alloc (.cells (ints s).toArray 67) = wx at HB HL HQ HO hsz ⊢
  obtain ⟨cap, hb, -⟩ := HQ.out.lies
  have c0 : wx.cell? ⟨Q, 0, none⟩ = some (.map (some B)) := hb.cell 0
  have c1 : wx.cell? ⟨Q, 1, none⟩ = some (.slice (some ⟨g, 0, none⟩) ss.length cap) := hb.cell 1
  have nl := nil_no B
  have ld : ∀ m, (Instr.loadAt 67 (.pointer (some ⟨w.heap.size, 0, none⟩))).run Tryd.prog (wx.drewN m) = .ok (.agg (ints s).toArray) (wx.drewN m) := fun m => load_row (w := wx.drewN m) HB.out HIS.out
  have lk : ∀ m, (Instr.lookup 58 (.map (some B)) (.agg (ints s).toArray) false).run Tryd.prog (wx.drewN m) = .ok (.bool false) (wx.drewN m) := fun m => by
    have := (HQ.out.set.keep (w' := wx.drewN m) rfl).look HS.out
    rw [show decide (s ∈ ss) = false by simpa using HN.out] at this
    exact this
  clear hb
  go_upto_region 3 with fail
  refine wp_region_quiet_lit (by kernel_rfl) (by kernel_rfl) ?_
  quiet_step (fail)
  quiet_step (fail)
  quiet_step (fail)
  quiet_step (fail)
  refine quiet_load 67 _ rfl (by rfl) _ _ rfl (by rintro w' ⟨m, rfl⟩; exact ld m) ?_
  try simp only [Act.put, List.setIfInBounds_toArray, List.set_cons_zero, List.set_cons_succ]
  clear ld
  repeat (quiet_step (fail))
  refine wpQuiet_nil ?_
  rintro _ ⟨nq, rfl⟩
  have HB2 : Hid (Blk (wx.drewN nq) w.heap.size (ints s).toArray 67) := HB.out
  have HL2 : Hid (Below w.heap.size w (wx.drewN nq)) := Pr.Below.todrewN HL.out nq
  have HQ2 : Hid (QAt (wx.drewN nq) Q B g ss) := HQ.out.keep rfl rfl rfl
  have HO2 : Hid (OnlyG [Q, B, g] w (wx.drewN nq)) := HO.out.drewN nq
  have hsz2 : (wx.drewN nq).heap.size = w.heap.size + 1 := hsz
  clear HB HL HQ HO hsz c0 c1 lk
  generalize wx.drewN nq = wq at HB2 HL2 HQ2 HO2 hsz2 ⊢
  go_upto_region 4 with fail
  obtain ⟨w4, hput, hset, honly⟩ := (HQ2.out.set.keep (w' := wq.drew) rfl).put HS.out (by omega)
  unfold stVal at hput
  have HSET := Lib.hid hset
  have HON := Lib.hid honly
  have c0 : wq.cell? ⟨Q, 0, none⟩ = some (.map (some B)) := by obtain ⟨cap, hb, -⟩ := HQ2.out.lies; exact hb.cell 0
  clear hset honly
  have HB4 : Hid (Blk w4 w.heap.size (ints s).toArray 67) := HON.out.blk (by simp; omega) HB2.out
  refine wp_region_held_drew (S := fun w' => Blk w' w.heap.size (ints s).toArray 67 ∧ w'.cell? ⟨Q, 0, none⟩ = some (.map (some B))) (by kernel_rfl) ⟨HB2.out, c0⟩ (fun hHeld => ?_)
  refine wpAnyH_take (i := 0) (v := ?_) rfl (by kernel_rfl) (by kernel_rfl) (by kernel_rfl) (fun _ _ _ h => h) (Or.inl ⟨by rfl, ?_⟩) hHeld ?_
  rotate_left
  · (intro w hSw; (try dsimp only at hSw); go_simp <;> with_reducible rfl)
  try simp only [Act.put, List.setIfInBounds_toArray, List.set_cons_zero, List.set_cons_succ]
  refine wpAnyH_take (i := 1) (v := ?_) rfl (by kernel_rfl) (by kernel_rfl) (by kernel_rfl) (fun _ _ _ h => h) (Or.inl ⟨by rfl, ?_⟩) hHeld ?_
  rotate_left
  · (intro w hSw; (try dsimp only at hSw); go_simp <;> with_reducible rfl)
  try simp only [Act.put, List.setIfInBounds_toArray, List.set_cons_zero, List.set_cons_succ]
  refine wpAnyH_take (i := 2) (v := ?_) rfl (by kernel_rfl) (by kernel_rfl) (by kernel_rfl) (fun _ _ _ h => h) (Or.inl ⟨by rfl, ?_⟩) hHeld ?_
  rotate_left
  · (intro w hSw; (try dsimp only at hSw); go_simp <;> with_reducible rfl)
  try simp only [Act.put, List.setIfInBounds_toArray, List.set_cons_zero, List.set_cons_succ]
  refine wpAnyH_take (i := 3) (v := ?_) rfl (by kernel_rfl) (by kernel_rfl) (by kernel_rfl) (fun _ _ _ h => h) (Or.inl ⟨by rfl, ?_⟩) hHeld ?_
  rotate_left
  · (intro w hSw; (try dsimp only at hSw); go_simp <;> with_reducible rfl)
  try simp only [Act.put, List.setIfInBounds_toArray, List.set_cons_zero, List.set_cons_succ]
  refine wpAnyH_take (i := 4) (v := .agg (ints s).toArray) rfl (by kernel_rfl) (by kernel_rfl) (by kernel_rfl) (fun _ _ _ h => h) (yields_load (by rfl) 67 _ rfl (.pointer (some ⟨w.heap.size, 0, none⟩)) _ rfl (fun w hw => load_row hw.1 HIS.out)) hHeld ?_
  try simp only [Act.put, List.setIfInBounds_toArray, List.set_cons_zero, List.set_cons_succ]
  refine wpAnyH_ready (rs := [5]) (by kernel_rfl) (by simp) ?_
  refine AllReadyH.cons rfl (fun K hK => ?_) ?_
  rotate_left
  · exact AllReadyH.nil
  · go_simp
    refine hK.out _ _ ⟨HB4.out, by rw [World.cell?_of_block (HON.out.block Q (by simpa using HQ2.out.qb))]; exact c0⟩ (fun hHeld => ?_)
    clear hK K
    try simp only [Act.put, List.setIfInBounds_toArray, List.set_cons_zero, List.set_cons_succ]
    refine wpAnyH_done (by kernel_rfl) ?_ _
    have hqb := HQ2.out.qb
    have hqg := HQ2.out.qg
    have hbg := HQ2.out.bg
    have hwf := HQ2.out.wf
    obtain ⟨cap, hblk, hown⟩ := HQ2.out.lies
    have HQB : Hid (Blk w4 Q #[.map (some B), .slice (some ⟨g, 0, none⟩) ss.length cap] 61) := HON.out.blk (b := Q) (by simpa using hqb) hblk
    have c1 : w4.cell? ⟨Q, 1, none⟩ = some (.slice (some ⟨g, 0, none⟩) ss.length cap) := HQB.out.cell 1
    have f1 := HQB.out.free 1
    have HOW : Hid (w4.ownsRow 0 67 16 (.slice (some ⟨g, 0, none⟩) ss.length cap) ss.length (ss.flatMap ints)) := by
      obtain ⟨h1, ho⟩ := hown
      refine ⟨h1, ?_⟩
      rcases ho with ⟨e, -⟩ | ⟨g', cap', cur, e, h0, h2, r⟩
      · cases e
      · cases e
        exact .inr ⟨g, cap, cur, rfl, h0, by rw [HON.out.block g (by simpa using hbg.symm)]; exact h2, r⟩
    have HSZ4 : Hid (w4.heap.size = w.heap.size + 1) := by show _ = _; rw [HON.out.size]; exact hsz2
    have HO4 : Hid (OnlyG [Q, B, g] w w4) := ⟨HON.out.os.trans HO2.out.os, HON.out.tape.trans HO2.out.tape, HON.out.output.trans HO2.out.output, by have := HSZ4.out; omega, fun k h0 hk => (HON.out.block k (by simp at hk ⊢; exact hk.2.1)).trans (HO2.out.block k h0 hk)⟩
    have HPOS : Hid (0 < (ints s).toArray.size) := by show 0 < _; rw [HIS.out]; decide
    have HSM : Hid ((ints s).toArray.size ≤ 1000) := by show _ ≤ _; rw [HIS.out]; decide
    have hs0 : i0.size = (ints s).toArray.size := by rw [HIS.out]; exact hz1
    have hzs : (Value.agg (List.toArray (Value.int .i64 0 :: Value.int .i64 0 :: Value.int .i64 0 :: Value.int .i64 0 :: Value.int .i64 0 :: Value.int .i64 0 :: Value.int .i64 0 :: Value.int .i64 0 :: Value.int .i64 0 :: Value.int .i64 0 :: Value.int .i64 0 :: Value.int .i64 0 :: Value.int .i64 0 :: Value.int .i64 0 :: Value.int .i64 0 :: Value.int .i64 0 :: []))).cells.size = (ints s).toArray.size := by rw [HIS.out]; rfl
    have HLN : Hid ((ints s).length = 1 * 16) := by show _ = _; have := HIS.out; simp at this; omega
    have H1 : Hid (∀ u ∈ ints s, u.oneCell' = true) := by intro v hv; simp [ints] at hv; obtain ⟨x, -, rfl⟩ := hv; rfl
    have hml : ss.length + 1 ≤ maxLen := by unfold maxLen; omega
    have hby : (ss.length + 1) * 128 ≤ 140737488355328 := by omega
    clear HB2 HL2 HQ2 HO2 hsz2 hput c0 hblk hown HON hHeld
    go_upto_region 5 with fail
    refine wp_region_held_drew (S := fun w' => Blk w' w.heap.size (ints s).toArray 67) (by kernel_rfl) HB4.out (fun hHeld => ?_)
    refine wpAnyH_take (i := 0) (v := ?_) rfl (by kernel_rfl) (by kernel_rfl) (by kernel_rfl) (fun _ _ _ h => h) (Or.inl ⟨by rfl, ?_⟩) hHeld ?_
    rotate_left
    · (intro w hSw; (try dsimp only at hSw); go_simp <;> with_reducible rfl)
    try simp only [Act.put, List.setIfInBounds_toArray, List.set_cons_zero, List.set_cons_succ]
    refine wpAnyH_take (i := 1) (v := ?_) rfl (by kernel_rfl) (by kernel_rfl) (by kernel_rfl) (fun _ _ _ h => h) (Or.inl ⟨by rfl, ?_⟩) hHeld ?_
    rotate_left
    · (intro w hSw; (try dsimp only at hSw); go_simp <;> with_reducible rfl)
    try simp only [Act.put, List.setIfInBounds_toArray, List.set_cons_zero, List.set_cons_succ]
    refine wpAnyH_take (i := 2) (v := ?_) rfl (by kernel_rfl) (by kernel_rfl) (by kernel_rfl) (fun _ _ _ h => h) (Or.inl ⟨by rfl, ?_⟩) hHeld ?_
    rotate_left
    · (intro w hSw; (try dsimp only at hSw); go_simp <;> with_reducible rfl)
    try simp only [Act.put, List.setIfInBounds_toArray, List.set_cons_zero, List.set_cons_succ]
    refine wpAnyH_take (i := 3) (v := ?_) rfl (by kernel_rfl) (by kernel_rfl) (by kernel_rfl) (fun _ _ _ h => h) (Or.inl ⟨by rfl, ?_⟩) hHeld ?_
    rotate_left
    · (intro w hSw; (try dsimp only at hSw); go_simp <;> with_reducible rfl)
    try simp only [Act.put, List.setIfInBounds_toArray, List.set_cons_zero, List.set_cons_succ]
    refine wpAnyH_take (i := 5) (v := .agg (ints s).toArray) rfl (by kernel_rfl) (by kernel_rfl) (by kernel_rfl) (fun _ _ _ h => h) (yields_load (by rfl) 67 _ rfl (.pointer (some ⟨w.heap.size, 0, none⟩)) _ rfl (fun w hw => load_row hw HIS.out)) hHeld ?_
    try simp only [Act.put, List.setIfInBounds_toArray, List.set_cons_zero, List.set_cons_succ]
    refine wpAnyH_ready (rs := [4, 6]) (by kernel_rfl) (by simp) ?_
    refine AllReadyH.cons rfl (fun K hK => ?_) (AllReadyH.cons rfl (fun K hK => ?_) AllReadyH.nil)
    · skip
      go_simp
      refine hK.out _ _ hHeld (fun hHeld => ?_)
      clear hK K
      try simp only [Act.put, List.setIfInBounds_toArray, List.set_cons_zero, List.set_cons_succ]
      refine wpAnyH_ready (rs := [6]) (by kernel_rfl) (by simp) ?_
      refine AllReadyH.cons rfl (fun K hK => ?_) AllReadyH.nil
      refine step_build1 rfl 59 67 _ rfl (ints s).toArray i0 _ Tryd.underlying59 hi hz0 hs0 hzs HPOS.out HSM.out rfl ?_
      refine hK.out _ _ (hHeld.alloc _) (fun hHeld => ?_)
      clear hK K
      try simp only [Act.put, List.setIfInBounds_toArray, List.set_cons_zero, List.set_cons_succ]
      refine wpAnyH_ready (rs := [7]) (by kernel_rfl) (by simp) ?_
      refine AllReadyH.cons rfl (fun K hK => ?_) AllReadyH.nil
      refine step_append_lies _ rfl _ _ 59 rfl 0 67 i0 _ 16 128 Tryd.underlying59 hi hz0 hz1 hz2 rfl (by decide) (.slice (some ⟨g, 0, none⟩) ss.length cap) ss.length (ss.flatMap ints) rfl ((World.ownsRow.alloc (w := w4.drew) HOW.out _)) ⟨w4.drew.heap.size, 0, none⟩ 1 1 (ints s) rfl HLN.out (fun j u h => news_cell w4.drew _ _ j u h) H1.out (by decide) hml hby (Nat.zero_le _) (w4.heap.size + 1) (by simp) ?_
      intro g2 cap2 w5 hown5 hgrow5 hat5 hlt5
      have hQ5 : Blk w5 Q #[.map (some B), .slice (some ⟨g, 0, none⟩) ss.length cap] 61 := grown_blk hgrow5 (by simpa [Value.ownBlock] using hqg) ((HQB.out).alloc _)
      have hHeld5 : Blk w5 w.heap.size (ints s).toArray 67 := grown_blk hgrow5 (by simp [Value.ownBlock]; omega) hHeld
      refine hK.out _ _ hHeld5 (fun hHeld => ?_)
      clear hK K
      try simp only [Act.put, List.setIfInBounds_toArray, List.set_cons_zero, List.set_cons_succ]
      have d1 : w5.cell? ⟨Q, 1, none⟩ = some (.slice (some ⟨g, 0, none⟩) ss.length cap) := hQ5.cell 1
      have df1 := hQ5.free 1
      have HE := Lib.hid (add_end hqb hqg hbg hwf HS.out HSET.out HQB.out HO4.out (by have := HSZ4.out; omega) hg hBl hQ hgrow5 hown5 hat5)
      clear hown5 hgrow5 hQ5 hHeld5 c1 f1
      refine wpAnyH_take (i := 8) (v := ?_) rfl (by kernel_rfl) (by kernel_rfl) (by kernel_rfl) (fun _ _ _ h => h) (Or.inl ⟨by rfl, ?_⟩) hHeld ?_
      rotate_left
      · (intro w hSw; (try dsimp only at hSw); go_simp <;> with_reducible rfl)
      try simp only [Act.put, List.setIfInBounds_toArray, List.set_cons_zero, List.set_cons_succ]
      refine wpAnyH_take (i := 9) (v := ?_) rfl (by kernel_rfl) (by kernel_rfl) (by kernel_rfl) (fun _ _ _ h => h) (Or.inl ⟨by rfl, ?_⟩) hHeld ?_
      rotate_left
      · (intro w hSw; (try dsimp only at hSw); go_simp <;> with_reducible rfl)
      try simp only [Act.put, List.setIfInBounds_toArray, List.set_cons_zero, List.set_cons_succ]
      refine wpAnyH_ready (rs := [10]) (by kernel_rfl) (by simp) ?_
      refine AllReadyH.cons rfl (fun K hK => ?_) AllReadyH.nil
      go_simp
      refine hK.out _ _ (hHeld.other (by omega) _ _) (fun hHeld => ?_)
      clear hK K
      try simp only [Act.put, List.setIfInBounds_toArray, List.set_cons_zero, List.set_cons_succ]
      refine wpAnyH_done (by kernel_rfl) ?_ _
      go_wp2_with fail
      go_end0
      exact ⟨rfl, g2, HE.out.1, HE.out.2.1, HE.out.2.2⟩
    · have c1a : (w4.alloc (.cells (ints s).toArray 67)).cell? ⟨Q, 1, none⟩ = some (.slice (some ⟨g, 0, none⟩) ss.length cap) := (HQB.out.alloc _).cell 1
      refine step_build1 rfl 59 67 _ rfl (ints s).toArray i0 _ Tryd.underlying59 hi hz0 hs0 hzs HPOS.out HSM.out rfl ?_
      refine hK.out _ _ (hHeld.alloc _) (fun hHeld => ?_)
      clear hK K
      try simp only [Act.put, List.setIfInBounds_toArray, List.set_cons_zero, List.set_cons_succ]
      refine wpAnyH_ready (rs := [4]) (by kernel_rfl) (by simp) ?_
      refine AllReadyH.cons rfl (fun K hK => ?_) AllReadyH.nil
      go_simp
      refine hK.out _ _ hHeld (fun hHeld => ?_)
      clear hK K
      try simp only [Act.put, List.setIfInBounds_toArray, List.set_cons_zero, List.set_cons_succ]
      refine wpAnyH_ready (rs := [7]) (by kernel_rfl) (by simp) ?_
      refine AllReadyH.cons rfl (fun K hK => ?_) AllReadyH.nil
      refine step_append_lies _ rfl _ _ 59 rfl 0 67 i0 _ 16 128 Tryd.underlying59 hi hz0 hz1 hz2 rfl (by decide) (.slice (some ⟨g, 0, none⟩) ss.length cap) ss.length (ss.flatMap ints) rfl ((World.ownsRow.alloc (w := w4.drew) HOW.out _)) ⟨w4.drew.heap.size, 0, none⟩ 1 1 (ints s) rfl HLN.out (fun j u h => news_cell w4.drew _ _ j u h) H1.out (by decide) hml hby (Nat.zero_le _) (w4.heap.size + 1) (by simp) ?_
      intro g2 cap2 w5 hown5 hgrow5 hat5 hlt5
      have hQ5 : Blk w5 Q #[.map (some B), .slice (some ⟨g, 0, none⟩) ss.length cap] 61 := grown_blk hgrow5 (by simpa [Value.ownBlock] using hqg) ((HQB.out).alloc _)
      have hHeld5 : Blk w5 w.heap.size (ints s).toArray 67 := grown_blk hgrow5 (by simp [Value.ownBlock]; omega) hHeld
      refine hK.out _ _ hHeld5 (fun hHeld => ?_)
      clear hK K
      try simp only [Act.put, List.setIfInBounds_toArray, List.set_cons_zero, List.set_cons_succ]
      have d1 : w5.cell? ⟨Q, 1, none⟩ = some (.slice (some ⟨g, 0, none⟩) ss.length cap) := hQ5.cell 1
      have df1 := hQ5.free 1
      have HE := Lib.hid (add_end hqb hqg hbg hwf HS.out HSET.out HQB.out HO4.out (by have := HSZ4.out; omega) hg hBl hQ hgrow5 hown5 hat5)
      clear hown5 hgrow5 hQ5 hHeld5 c1 f1
      refine wpAnyH_take (i := 8) (v := ?_) rfl (by kernel_rfl) (by kernel_rfl) (by kernel_rfl) (fun _ _ _ h => h) (Or.inl ⟨by rfl, ?_⟩) hHeld ?_
      rotate_left
      · (intro w hSw; (try dsimp only at hSw); go_simp <;> with_reducible rfl)
      try simp only [Act.put, List.setIfInBounds_toArray, List.set_cons_zero, List.set_cons_succ]
      refine wpAnyH_take (i := 9) (v := ?_) rfl (by kernel_rfl) (by kernel_rfl) (by kernel_rfl) (fun _ _ _ h => h) (Or.inl ⟨by rfl, ?_⟩) hHeld ?_
      rotate_left
      · (intro w hSw; (try dsimp only at hSw); go_simp <;> with_reducible rfl)
      try simp only [Act.put, List.setIfInBounds_toArray, List.set_cons_zero, List.set_cons_succ]
      refine wpAnyH_ready (rs := [10]) (by kernel_rfl) (by simp) ?_
      refine AllReadyH.cons rfl (fun K hK => ?_) AllReadyH.nil
      go_simp
      refine hK.out _ _ (hHeld.other (by omega) _ _) (fun hHeld => ?_)
      clear hK K
      try simp only [Act.put, List.setIfInBounds_toArray, List.set_cons_zero, List.set_cons_succ]
      refine wpAnyH_done (by kernel_rfl) ?_ _
      go_wp2_with fail
      go_end0
      exact ⟨rfl, g2, HE.out.1, HE.out.2.1, HE.out.2.2⟩
end Go.Proofs.YtimbdjmplcgilaaDoor.SQ
namespace Go.Proofs.YtimbdjmplcgilaaDoor.SQ
open Go.RowKit Go.Maps
open Pr (ints)
set_option linter.unusedVariables false
set_option linter.unusedSimpArgs false

set_option maxHeartbeats 2000000 in
set_option maxRecDepth 100000 in
theorem add_old {w : World} {Q B g : Nat} {ss : List (List Int)} {s : List Int} (h : QAt w Q B g ss) (hs : Wf s) (hn : s ∈ ss) :
    Calls Tryd.prog 24 #[.pointer (some ⟨Q, 0, none⟩), stVal s] w fun e w' => e = .returned (.tuple #[]) ∧ Below w.heap.size w w' := by
  have hl1 := hs.len
  have HB := Lib.hid (Blk.new w (ints s).toArray 67)
  have HL : Hid (Below w.heap.size w (w.alloc (.cells (ints s).toArray 67))) := (Below.refl _ _).alloc (Nat.le_refl _) _
  have HQ := Lib.hid (h.new HL.out)
  have HIS : Hid ((ints s).toArray.size = 16) := by show _ = _; simp [ints, hl1]
  have HS := Lib.hid hs
  have HN := Lib.hid hn
  clear h hs hn
  unfold stVal
  go_enter Tryd.func24, Tryd.ntmps24
  go_upto_region 1 with fail
  generalize w.alloc (.cells (ints s).toArray 67) = wx at HB HL HQ ⊢
  obtain ⟨cap, hb, -⟩ := HQ.out.lies
  have c0 : wx.cell? ⟨Q, 0, none⟩ = some (.map (some B)) := hb.cell 0
  have nl := nil_no B
  have ld : ∀ m, (Instr.loadAt 67 (.pointer (some ⟨w.heap.size, 0, none⟩))).run Tryd.prog (wx.drewN m) = .ok (.agg (ints s).toArray) (wx.drewN m) := fun m => load_row (w := wx.drewN m) HB.out HIS.out
  have lk : ∀ m, (Instr.lookup 58 (.map (some B)) (.agg (ints s).toArray) false).run Tryd.prog (wx.drewN m) = .ok (.bool true) (wx.drewN m) := fun m => by
    have := (HQ.out.set.keep (w' := wx.drewN m) rfl).look HS.out
    rw [show decide (s ∈ ss) = true by simpa using HN.out] at this
    exact this
  clear hb
  go_upto_region 3 with fail
  refine wp_region_quiet_lit (by kernel_rfl) (by kernel_rfl) ?_
  quiet_step (fail)
  quiet_step (fail)
  quiet_step (fail)
  quiet_step (fail)
  refine quiet_load 67 _ rfl (by rfl) _ _ rfl (by rintro w' ⟨m, rfl⟩; exact ld m) ?_
  try simp only [Act.put, List.setIfInBounds_toArray, List.set_cons_zero, List.set_cons_succ]
  clear ld
  repeat (quiet_step (fail))
  refine wpQuiet_nil ?_
  rintro _ ⟨nq, rfl⟩
  have HL2 : Hid (Below w.heap.size w (wx.drewN nq)) := Pr.Below.todrewN HL.out nq
  clear HB HL HQ c0 lk
  go_wp2_with fail
  go_end0
  exact ⟨rfl, HL2.out⟩
/-- The first thing: map and row are made. -/
theorem first_end {w wm w4 w5 : World} {Q g2 cap2 : Nat} {s : List Int} {o : Obj} (hs : Wf s) (hsz : w.heap.size + 1 ≤ wm.heap.size) (hQ : Q < w.heap.size) (hset : SetAt w4 wm.heap.size [s])
    (hq : Blk w4 Q #[.map (some wm.heap.size), .slice none 0 0] 61) (ho : OnlyG [Q] w w4) (hsz4 : wm.heap.size + 1 = w4.heap.size)
    (h5 : (w4.drew.alloc o).grownBy w5 (Value.ownBlock (.slice none 0 0))) (hown : w5.ownsRow 0 67 16 (.slice (some ⟨g2, 0, none⟩) (0 + 1) cap2) (0 + 1) ([] ++ ints s))
    (hat : Value.ownBlock (.slice none 0 0) = some g2 ∨ g2 = w4.heap.size + 1) :
    QAt (w5.setCell ⟨Q, 1, none⟩ (.slice (some ⟨g2, 0, none⟩) (0 + 1) cap2)) Q wm.heap.size g2 [s] ∧ OnlyG [Q] w (w5.setCell ⟨Q, 1, none⟩ (.slice (some ⟨g2, 0, none⟩) (0 + 1) cap2)) ∧ w.heap.size ≤ wm.heap.size ∧ w.heap.size ≤ g2 := by
  have hg2 : g2 = w4.heap.size + 1 := by
    rcases hat with h | h
    · simp [Value.ownBlock] at h
    · exact h
  have k5 : ∀ k, k < w4.heap.size → w5.heap[k]? = w4.heap[k]? := fun k hk => by
    rw [h5.block k (by simp; omega) (by simp [Value.ownBlock])]
    exact RowKit.Below.heap_alloc _ _ _ hk
  have hsz5 : w4.heap.size + 1 ≤ w5.heap.size := by have := h5.size; simpa using this
  have kB : w5.heap[wm.heap.size]? = w4.heap[wm.heap.size]? := k5 _ (by omega)
  have kQ : w5.heap[Q]? = w4.heap[Q]? := k5 Q (by omega)
  refine ⟨⟨⟨cap2, ?_, ?_⟩, ?_, by omega, by omega, by omega, ?_⟩, ?_, by omega, by omega⟩
  · have hq5 : Blk w5 Q #[.map (some wm.heap.size), .slice none 0 0] 61 := by unfold Blk at *; rw [kQ]; exact hq
    exact Blk.eq (hq5.set 1 _) (by simp)
  · obtain ⟨h1, ho⟩ := hown
    refine ⟨by simpa using h1, ?_⟩
    rcases ho with ⟨e, -⟩ | ⟨g', cap', cur, e, h0, h2, r⟩
    · cases e
    · cases e
      refine .inr ⟨g2, cap2, cur, by simp, h0, ?_, by simpa using r⟩
      rw [RowKit.Below.heap_setCell _ _ _ _ (show g2 ≠ Q by omega)]; exact h2
  · refine hset.keep ?_
    rw [RowKit.Below.heap_setCell _ _ _ _ (show wm.heap.size ≠ Q by omega)]; exact kB
  · intro r hr
    simp at hr; exact hr ▸ hs
  · refine OnlyG.set ⟨?_, ?_, ?_, by omega, fun k h0 hk => ?_⟩ (by simp) _ _
    · exact h5.os.trans ho.os
    · exact h5.tape.trans ho.tape
    · exact h5.output.trans ho.output
    · simp at hk
      rw [k5 k (by omega)]
      exact ho.block k h0 (by simpa using hk)

set_option maxHeartbeats 2000000 in
set_option maxRecDepth 100000 in
theorem add_first {w : World} {Q : Nat} {s : List Int} (hb : Blk w Q #[.map none, .slice none 0 0] 61) (hs : Wf s) :
    Calls Tryd.prog 24 #[.pointer (some ⟨Q, 0, none⟩), stVal s] w fun e w' => e = .returned (.tuple #[]) ∧ ∃ B g, QAt w' Q B g [s] ∧ OnlyG [Q] w w' ∧ w.heap.size ≤ B ∧ w.heap.size ≤ g := by
  have hQ := hb.lt
  have hl1 := hs.len
  have HB := Lib.hid (Blk.new w (ints s).toArray 67)
  have HQB := Lib.hid (hb.alloc (.cells (ints s).toArray 67))
  have HO : Hid (OnlyG [Q] w (w.alloc (.cells (ints s).toArray 67))) := (OnlyG.refl _ _).alloc _
  have HIS : Hid ((ints s).toArray.size = 16) := by show _ = _; simp [ints, hl1]
  have HSZ : Hid ((w.alloc (.cells (ints s).toArray 67)).heap.size = w.heap.size + 1) := by show _ = _; simp
  have HS := Lib.hid hs
  obtain ⟨i0, hi, hz0, hz1, hz2⟩ := info_parts infoKK
  clear hs hb
  unfold stVal
  go_enter Tryd.func24, Tryd.ntmps24
  go_upto_region 1 with fail
  generalize w.alloc (.cells (ints s).toArray 67) = wx at HB HQB HO HSZ ⊢
  have c0 : wx.cell? ⟨Q, 0, none⟩ = some (.map none) := HQB.out.cell 0
  have f0m := (HQB.out.alloc (.map #[] 0)).free 0
  have c0m : (wx.alloc (.map #[] 0)).cell? ⟨Q, 0, none⟩ = some (.map none) := (HQB.out.alloc (.map #[] 0)).cell 0
  have nl := nil_yes
  have hmm := @run_makeMap Tryd.prog
  go_upto_region 3 with fail
  have HLT : Hid (Q < wx.heap.size) := by show _ < _; rw [HSZ.out]; omega
  have HB2 : Hid (Blk ((wx.alloc (.map #[] 0)).setCell ⟨Q, 0, none⟩ (.map (some wx.heap.size))) w.heap.size (ints s).toArray 67) := (HB.out.alloc _).other (by omega) _ _
  have HQ2 : Hid (Blk ((wx.alloc (.map #[] 0)).setCell ⟨Q, 0, none⟩ (.map (some wx.heap.size))) Q #[.map (some wx.heap.size), .slice none 0 0] 61) := Blk.eq ((HQB.out.alloc _).set 0 _) (by simp)
  have HO2 : Hid (OnlyG [Q] w ((wx.alloc (.map #[] 0)).setCell ⟨Q, 0, none⟩ (.map (some wx.heap.size)))) := (HO.out.alloc _).set (by simp) _ _
  have HST : Hid (SetAt ((wx.alloc (.map #[] 0)).setCell ⟨Q, 0, none⟩ (.map (some wx.heap.size))) wx.heap.size []) := (set_made wx).keep (RowKit.Below.heap_setCell _ _ _ _ (by have := HLT.out; show _ ≠ Q; omega))
  have HSZ2 : Hid (((wx.alloc (.map #[] 0)).setCell ⟨Q, 0, none⟩ (.map (some wx.heap.size))).heap.size = wx.heap.size + 1) := by show _ = _; simp
  have HWX : Hid (w.heap.size + 1 ≤ wx.heap.size) := by have := HSZ.out; show _ ≤ _; omega
  clear HB HQB HO c0 c0m f0m nl hmm
  generalize ((wx.alloc (.map #[] 0)).setCell ⟨Q, 0, none⟩ (.map (some wx.heap.size))) = wq at HB2 HQ2 HO2 HST HSZ2 ⊢
  have c0 : wq.cell? ⟨Q, 0, none⟩ = some (.map (some wx.heap.size)) := HQ2.out.cell 0
  have ld : ∀ m, (Instr.loadAt 67 (.pointer (some ⟨w.heap.size, 0, none⟩))).run Tryd.prog (wq.drewN m) = .ok (.agg (ints s).toArray) (wq.drewN m) := fun m => load_row (w := wq.drewN m) HB2.out HIS.out
  have lk : ∀ m, (Instr.lookup 58 (.map (some wx.heap.size)) (.agg (ints s).toArray) false).run Tryd.prog (wq.drewN m) = .ok (.bool false) (wq.drewN m) := fun m => by
    have := (HST.out.keep (w' := wq.drewN m) rfl).look HS.out
    rw [show decide (s ∈ ([] : List (List Int))) = false by simp] at this
    exact this
  refine wp_region_quiet_lit (by kernel_rfl) (by kernel_rfl) ?_
  quiet_step (fail)
  quiet_step (fail)
  quiet_step (fail)
  quiet_step (fail)
  refine quiet_load 67 _ rfl (by rfl) _ _ rfl (by rintro w' ⟨m, rfl⟩; exact ld m) ?_
  try simp only [Act.put, List.setIfInBounds_toArray, List.set_cons_zero, List.set_cons_succ]
  clear ld
  repeat (quiet_step (fail))
  refine wpQuiet_nil ?_
  rintro _ ⟨nq, rfl⟩
  have HB3 : Hid (Blk (wq.drewN nq) w.heap.size (ints s).toArray 67) := HB2.out
  have HQ3 : Hid (Blk (wq.drewN nq) Q #[.map (some wx.heap.size), .slice none 0 0] 61) := HQ2.out
  have HO3 : Hid (OnlyG [Q] w (wq.drewN nq)) := HO2.out.drewN nq
  have HST3 : Hid (SetAt (wq.drewN nq) wx.heap.size []) := HST.out.keep rfl
  have HSZ3 : Hid ((wq.drewN nq).heap.size = wx.heap.size + 1) := HSZ2.out
  clear HB2 HQ2 HO2 HST HSZ2 c0 lk
  generalize wq.drewN nq = wr at HB3 HQ3 HO3 HST3 HSZ3 ⊢
  go_upto_region 4 with fail
  obtain ⟨w4, hput, hset, honly⟩ := (HST3.out.keep (w' := wr.drew) rfl).put HS.out (by simp)
  unfold stVal at hput
  have HSET := Lib.hid hset
  have HON := Lib.hid honly
  have c0 : wr.cell? ⟨Q, 0, none⟩ = some (.map (some wx.heap.size)) := HQ3.out.cell 0
  clear hset honly
  have HB4 : Hid (Blk w4 w.heap.size (ints s).toArray 67) := HON.out.blk (by have := HWX.out; simp; omega) HB3.out
  have HQ4 : Hid (Blk w4 Q #[.map (some wx.heap.size), .slice none 0 0] 61) := HON.out.blk (b := Q) (by have := HLT.out; simp; omega) HQ3.out
  refine wp_region_held_drew (S := fun w' => Blk w' w.heap.size (ints s).toArray 67 ∧ w'.cell? ⟨Q, 0, none⟩ = some (.map (some wx.heap.size))) (by kernel_rfl) ⟨HB3.out, c0⟩ (fun hHeld => ?_)
  refine wpAnyH_take (i := 0) (v := ?_) rfl (by kernel_rfl) (by kernel_rfl) (by kernel_rfl) (fun _ _ _ h => h) (Or.inl ⟨by rfl, ?_⟩) hHeld ?_
  rotate_left
  · (intro w hSw; (try dsimp only at hSw); go_simp <;> with_reducible rfl)
  try simp only [Act.put, List.setIfInBounds_toArray, List.set_cons_zero, List.set_cons_succ]
  refine wpAnyH_take (i := 1) (v := ?_) rfl (by kernel_rfl) (by kernel_rfl) (by kernel_rfl) (fun _ _ _ h => h) (Or.inl ⟨by rfl, ?_⟩) hHeld ?_
  rotate_left
  · (intro w hSw; (try dsimp only at hSw); go_simp <;> with_reducible rfl)
  try simp only [Act.put, List.setIfInBounds_toArray, List.set_cons_zero, List.set_cons_succ]
  refine wpAnyH_take (i := 2) (v := ?_) rfl (by kernel_rfl) (by kernel_rfl) (by kernel_rfl) (fun _ _ _ h => h) (Or.inl ⟨by rfl, ?_⟩) hHeld ?_
  rotate_left
  · (intro w hSw; (try dsimp only at hSw); go_simp <;> with_reducible rfl)
  try simp only [Act.put, List.setIfInBounds_toArray, List.set_cons_zero, List.set_cons_succ]
  refine wpAnyH_take (i := 3) (v := ?_) rfl (by kernel_rfl) (by kernel_rfl) (by kernel_rfl) (fun _ _ _ h => h) (Or.inl ⟨by rfl, ?_⟩) hHeld ?_
  rotate_left
  · (intro w hSw; (try dsimp only at hSw); go_simp <;> with_reducible rfl)
  try simp only [Act.put, List.setIfInBounds_toArray, List.set_cons_zero, List.set_cons_succ]
  refine wpAnyH_take (i := 4) (v := .agg (ints s).toArray) rfl (by kernel_rfl) (by kernel_rfl) (by kernel_rfl) (fun _ _ _ h => h) (yields_load (by rfl) 67 _ rfl (.pointer (some ⟨w.heap.size, 0, none⟩)) _ rfl (fun w hw => load_row hw.1 HIS.out)) hHeld ?_
  try simp only [Act.put, List.setIfInBounds_toArray, List.set_cons_zero, List.set_cons_succ]
  refine wpAnyH_ready (rs := [5]) (by kernel_rfl) (by simp) ?_
  refine AllReadyH.cons rfl (fun K hK => ?_) ?_
  rotate_left
  · exact AllReadyH.nil
  · go_simp
    refine hK.out _ _ ⟨HB4.out, HQ4.out.cell 0⟩ (fun hHeld => ?_)
    clear hK K
    try simp only [Act.put, List.setIfInBounds_toArray, List.set_cons_zero, List.set_cons_succ]
    refine wpAnyH_done (by kernel_rfl) ?_ _
    have c1 : w4.cell? ⟨Q, 1, none⟩ = some (.slice none 0 0) := HQ4.out.cell 1
    have f1 := HQ4.out.free 1
    have HSZ4 : Hid (wx.heap.size + 1 = w4.heap.size) := by show _ = _; rw [HON.out.size]; exact HSZ3.out.symm
    have HO4 : Hid (OnlyG [Q] w w4) := ⟨HON.out.os.trans HO3.out.os, HON.out.tape.trans HO3.out.tape, HON.out.output.trans HO3.out.output, by have := HSZ4.out; have := HWX.out; omega, fun k h0 hk => (HON.out.block k (by have := HWX.out; simp; omega)).trans (HO3.out.block k h0 hk)⟩
    have HPOS : Hid (0 < (ints s).toArray.size) := by show 0 < _; rw [HIS.out]; decide
    have HSM : Hid ((ints s).toArray.size ≤ 1000) := by show _ ≤ _; rw [HIS.out]; decide
    have hs0 : i0.size = (ints s).toArray.size := by rw [HIS.out]; exact hz1
    have hzs : (Value.agg (List.toArray (Value.int .i64 0 :: Value.int .i64 0 :: Value.int .i64 0 :: Value.int .i64 0 :: Value.int .i64 0 :: Value.int .i64 0 :: Value.int .i64 0 :: Value.int .i64 0 :: Value.int .i64 0 :: Value.int .i64 0 :: Value.int .i64 0 :: Value.int .i64 0 :: Value.int .i64 0 :: Value.int .i64 0 :: Value.int .i64 0 :: Value.int .i64 0 :: []))).cells.size = (ints s).toArray.size := by rw [HIS.out]; rfl
    have HLN : Hid ((ints s).length = 1 * 16) := by show _ = _; have := HIS.out; simp at this; omega
    have H1 : Hid (∀ u ∈ ints s, u.oneCell' = true) := by intro v hv; simp [ints] at hv; obtain ⟨x, -, rfl⟩ := hv; rfl
    have hml : 0 + 1 ≤ maxLen := by unfold maxLen; omega
    have HO0 : Hid (w4.ownsRow 0 67 16 (.slice none 0 0) 0 []) := World.ownsRow_nil w4 0 _ _
    clear HB3 HQ3 HO3 HST3 hput c0 HON hHeld
    go_upto_region 5 with fail
    refine wp_region_held_drew (S := fun w' => Blk w' w.heap.size (ints s).toArray 67) (by kernel_rfl) HB4.out (fun hHeld => ?_)
    refine wpAnyH_take (i := 0) (v := ?_) rfl (by kernel_rfl) (by kernel_rfl) (by kernel_rfl) (fun _ _ _ h => h) (Or.inl ⟨by rfl, ?_⟩) hHeld ?_
    rotate_left
    · (intro w hSw; (try dsimp only at hSw); go_simp <;> with_reducible rfl)
    try simp only [Act.put, List.setIfInBounds_toArray, List.set_cons_zero, List.set_cons_succ]
    refine wpAnyH_take (i := 1) (v := ?_) rfl (by kernel_rfl) (by kernel_rfl) (by kernel_rfl) (fun _ _ _ h => h) (Or.inl ⟨by rfl, ?_⟩) hHeld ?_
    rotate_left
    · (intro w hSw; (try dsimp only at hSw); go_simp <;> with_reducible rfl)
    try simp only [Act.put, List.setIfInBounds_toArray, List.set_cons_zero, List.set_cons_succ]
    refine wpAnyH_take (i := 2) (v := ?_) rfl (by kernel_rfl) (by kernel_rfl) (by kernel_rfl) (fun _ _ _ h => h) (Or.inl ⟨by rfl, ?_⟩) hHeld ?_
    rotate_left
    · (intro w hSw; (try dsimp only at hSw); go_simp <;> with_reducible rfl)
    try simp only [Act.put, List.setIfInBounds_toArray, List.set_cons_zero, List.set_cons_succ]
    refine wpAnyH_take (i := 3) (v := ?_) rfl (by kernel_rfl) (by kernel_rfl) (by kernel_rfl) (fun _ _ _ h => h) (Or.inl ⟨by rfl, ?_⟩) hHeld ?_
    rotate_left
    · (intro w hSw; (try dsimp only at hSw); go_simp <;> with_reducible rfl)
    try simp only [Act.put, List.setIfInBounds_toArray, List.set_cons_zero, List.set_cons_succ]
    refine wpAnyH_take (i := 5) (v := .agg (ints s).toArray) rfl (by kernel_rfl) (by kernel_rfl) (by kernel_rfl) (fun _ _ _ h => h) (yields_load (by rfl) 67 _ rfl (.pointer (some ⟨w.heap.size, 0, none⟩)) _ rfl (fun w hw => load_row hw HIS.out)) hHeld ?_
    try simp only [Act.put, List.setIfInBounds_toArray, List.set_cons_zero, List.set_cons_succ]
    refine wpAnyH_ready (rs := [4, 6]) (by kernel_rfl) (by simp) ?_
    refine AllReadyH.cons rfl (fun K hK => ?_) (AllReadyH.cons rfl (fun K hK => ?_) AllReadyH.nil)
    · skip
      go_simp
      refine hK.out _ _ hHeld (fun hHeld => ?_)
      clear hK K
      try simp only [Act.put, List.setIfInBounds_toArray, List.set_cons_zero, List.set_cons_succ]
      refine wpAnyH_ready (rs := [6]) (by kernel_rfl) (by simp) ?_
      refine AllReadyH.cons rfl (fun K hK => ?_) AllReadyH.nil
      refine step_build1 rfl 59 67 _ rfl (ints s).toArray i0 _ Tryd.underlying59 hi hz0 hs0 hzs HPOS.out HSM.out rfl ?_
      refine hK.out _ _ (hHeld.alloc _) (fun hHeld => ?_)
      clear hK K
      try simp only [Act.put, List.setIfInBounds_toArray, List.set_cons_zero, List.set_cons_succ]
      refine wpAnyH_ready (rs := [7]) (by kernel_rfl) (by simp) ?_
      refine AllReadyH.cons rfl (fun K hK => ?_) AllReadyH.nil
      refine step_append_lies _ rfl _ _ 59 rfl 0 67 i0 _ 16 128 Tryd.underlying59 hi hz0 hz1 hz2 rfl (by decide) (.slice none 0 0) 0 [] rfl ((World.ownsRow.alloc (w := w4.drew) HO0.out _)) ⟨w4.drew.heap.size, 0, none⟩ 1 1 (ints s) rfl HLN.out (fun j u h => news_cell w4.drew _ _ j u h) H1.out (by decide) hml (by decide) (Nat.zero_le _) (w4.heap.size + 1) (by simp) ?_
      intro g2 cap2 w5 hown5 hgrow5 hat5 hlt5
      have hQ5 : Blk w5 Q #[.map (some wx.heap.size), .slice none 0 0] 61 := grown_blk hgrow5 (by simp [Value.ownBlock]) ((HQ4.out).alloc _)
      have hHeld5 : Blk w5 w.heap.size (ints s).toArray 67 := grown_blk hgrow5 (by simp [Value.ownBlock]) hHeld
      refine hK.out _ _ hHeld5 (fun hHeld => ?_)
      clear hK K
      try simp only [Act.put, List.setIfInBounds_toArray, List.set_cons_zero, List.set_cons_succ]
      have d1 : w5.cell? ⟨Q, 1, none⟩ = some (.slice none 0 0) := hQ5.cell 1
      have df1 := hQ5.free 1
      have HE := Lib.hid (first_end (wm := wx) HS.out HWX.out hQ HSET.out HQ4.out HO4.out HSZ4.out hgrow5 hown5 hat5)
      clear hown5 hgrow5 hQ5 hHeld5 c1 f1
      refine wpAnyH_take (i := 8) (v := ?_) rfl (by kernel_rfl) (by kernel_rfl) (by kernel_rfl) (fun _ _ _ h => h) (Or.inl ⟨by rfl, ?_⟩) hHeld ?_
      rotate_left
      · (intro w hSw; (try dsimp only at hSw); go_simp <;> with_reducible rfl)
      try simp only [Act.put, List.setIfInBounds_toArray, List.set_cons_zero, List.set_cons_succ]
      refine wpAnyH_take (i := 9) (v := ?_) rfl (by kernel_rfl) (by kernel_rfl) (by kernel_rfl) (fun _ _ _ h => h) (Or.inl ⟨by rfl, ?_⟩) hHeld ?_
      rotate_left
      · (intro w hSw; (try dsimp only at hSw); go_simp <;> with_reducible rfl)
      try simp only [Act.put, List.setIfInBounds_toArray, List.set_cons_zero, List.set_cons_succ]
      refine wpAnyH_ready (rs := [10]) (by kernel_rfl) (by simp) ?_
      refine AllReadyH.cons rfl (fun K hK => ?_) AllReadyH.nil
      go_simp
      refine hK.out _ _ (hHeld.other (by omega) _ _) (fun hHeld => ?_)
      clear hK K
      try simp only [Act.put, List.setIfInBounds_toArray, List.set_cons_zero, List.set_cons_succ]
      refine wpAnyH_done (by kernel_rfl) ?_ _
      go_wp2_with fail
      go_end0
      exact ⟨rfl, _, g2, HE.out.1, HE.out.2.1, HE.out.2.2.1, HE.out.2.2.2⟩
    · have c1a : (w4.alloc (.cells (ints s).toArray 67)).cell? ⟨Q, 1, none⟩ = some (.slice none 0 0) := (HQ4.out.alloc _).cell 1
      refine step_build1 rfl 59 67 _ rfl (ints s).toArray i0 _ Tryd.underlying59 hi hz0 hs0 hzs HPOS.out HSM.out rfl ?_
      refine hK.out _ _ (hHeld.alloc _) (fun hHeld => ?_)
      clear hK K
      try simp only [Act.put, List.setIfInBounds_toArray, List.set_cons_zero, List.set_cons_succ]
      refine wpAnyH_ready (rs := [4]) (by kernel_rfl) (by simp) ?_
      refine AllReadyH.cons rfl (fun K hK => ?_) AllReadyH.nil
      go_simp
      refine hK.out _ _ hHeld (fun hHeld => ?_)
      clear hK K
      try simp only [Act.put, List.setIfInBounds_toArray, List.set_cons_zero, List.set_cons_succ]
      refine wpAnyH_ready (rs := [7]) (by kernel_rfl) (by simp) ?_
      refine AllReadyH.cons rfl (fun K hK => ?_) AllReadyH.nil
      refine step_append_lies _ rfl _ _ 59 rfl 0 67 i0 _ 16 128 Tryd.underlying59 hi hz0 hz1 hz2 rfl (by decide) (.slice none 0 0) 0 [] rfl ((World.ownsRow.alloc (w := w4.drew) HO0.out _)) ⟨w4.drew.heap.size, 0, none⟩ 1 1 (ints s) rfl HLN.out (fun j u h => news_cell w4.drew _ _ j u h) H1.out (by decide) hml (by decide) (Nat.zero_le _) (w4.heap.size + 1) (by simp) ?_
      intro g2 cap2 w5 hown5 hgrow5 hat5 hlt5
      have hQ5 : Blk w5 Q #[.map (some wx.heap.size), .slice none 0 0] 61 := grown_blk hgrow5 (by simp [Value.ownBlock]) ((HQ4.out).alloc _)
      have hHeld5 : Blk w5 w.heap.size (ints s).toArray 67 := grown_blk hgrow5 (by simp [Value.ownBlock]) hHeld
      refine hK.out _ _ hHeld5 (fun hHeld => ?_)
      clear hK K
      try simp only [Act.put, List.setIfInBounds_toArray, List.set_cons_zero, List.set_cons_succ]
      have d1 : w5.cell? ⟨Q, 1, none⟩ = some (.slice none 0 0) := hQ5.cell 1
      have df1 := hQ5.free 1
      have HE := Lib.hid (first_end (wm := wx) HS.out HWX.out hQ HSET.out HQ4.out HO4.out HSZ4.out hgrow5 hown5 hat5)
      clear hown5 hgrow5 hQ5 hHeld5 c1 f1
      refine wpAnyH_take (i := 8) (v := ?_) rfl (by kernel_rfl) (by kernel_rfl) (by kernel_rfl) (fun _ _ _ h => h) (Or.inl ⟨by rfl, ?_⟩) hHeld ?_
      rotate_left
      · (intro w hSw; (try dsimp only at hSw); go_simp <;> with_reducible rfl)
      try simp only [Act.put, List.setIfInBounds_toArray, List.set_cons_zero, List.set_cons_succ]
      refine wpAnyH_take (i := 9) (v := ?_) rfl (by kernel_rfl) (by kernel_rfl) (by kernel_rfl) (fun _ _ _ h => h) (Or.inl ⟨by rfl, ?_⟩) hHeld ?_
      rotate_left
      · (intro w hSw; (try dsimp only at hSw); go_simp <;> with_reducible rfl)
      try simp only [Act.put, List.setIfInBounds_toArray, List.set_cons_zero, List.set_cons_succ]
      refine wpAnyH_ready (rs := [10]) (by kernel_rfl) (by simp) ?_
      refine AllReadyH.cons rfl (fun K hK => ?_) AllReadyH.nil
      go_simp
      refine hK.out _ _ (hHeld.other (by omega) _ _) (fun hHeld => ?_)
      clear hK K
      try simp only [Act.put, List.setIfInBounds_toArray, List.set_cons_zero, List.set_cons_succ]
      refine wpAnyH_done (by kernel_rfl) ?_ _
      go_wp2_with fail
      go_end0
      exact ⟨rfl, _, g2, HE.out.1, HE.out.2.1, HE.out.2.2.1, HE.out.2.2.2⟩
/-- Add: a thing is in the queue once. -/
theorem add_any {w : World} {Q B g : Nat} {ss : List (List Int)} {s : List Int} (h : QAt w Q B g ss) (hs : Wf s) (hl : ss.length < 100000000000) :
    Calls Tryd.prog 24 #[.pointer (some ⟨Q, 0, none⟩), stVal s] w fun e w' => e = .returned (.tuple #[]) ∧ ∃ g', QAt w' Q B g' (Bfs.add ss s) ∧ OnlyG [Q, B, g] w w' ∧ (g' = g ∨ w.heap.size ≤ g') := by
  by_cases hm : s ∈ ss
  · refine (add_old h hs hm).mono ?_
    rintro e w' ⟨rfl, hb⟩
    refine ⟨rfl, g, ?_, ⟨hb.os, hb.tape, hb.output, hb.size, fun k h0 _ => hb.block k h0⟩, .inl rfl⟩
    unfold Bfs.add; rw [if_pos hm]; exact h.new hb
  · refine (add_new h hs hm hl).mono ?_
    rintro e w' ⟨rfl, g', hq, ho, hg⟩
    refine ⟨rfl, g', ?_, ho, hg⟩
    unfold Bfs.add; rw [if_neg hm]; exact hq
end Go.Proofs.YtimbdjmplcgilaaDoor.SQ
