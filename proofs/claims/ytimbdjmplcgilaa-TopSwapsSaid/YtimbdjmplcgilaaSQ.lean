import Derived.Test.YtimbdjmplcgilaaQKey
import Derived.Test.YtimbdjmplcgilaaBfs
namespace Go.Proofs.Ytimbdjmplcgilaa.SQ
open Go.RowKit Go.Maps Go.ChangeMaps Go.MapKept
open Pr (ints)
set_option linter.unusedVariables false

/-- A state as a value. -/
def stVal (s : List Int) : Value := .agg (ints s).toArray
structure Wf (s : List Int) : Prop where
  len : s.length = 16
  num : Small s
theorem laid : laidOutB Try.prog = true := by kernel_rfl
set_option maxRecDepth 100000 in
theorem law : Keyed Try.prog 58 := Keyed.of_law (deep_law_laid laid (m := 6) (by omega) (of_decide_eq_true (by kernel_rfl)) (by kernel_rfl) (by kernel_rfl))
set_option maxRecDepth 100000 in
theorem key_some {s : List Int} (h : Wf s) : ∃ l, keyOf Try.prog 58 (stVal s) = some l :=
  keyOf_int_only (by kernel_rfl) (by kernel_rfl) (by kernel_rfl) (by
    have : Try.prog.cellsOf 58 = 16 := by kernel_rfl
    rw [this]; simp [ints, h.len]) (by
    intro c hc
    simp [ints] at hc
    obtain ⟨x, hx, rfl⟩ := hc
    exact ⟨x, rfl, h.num x hx⟩)
set_option maxRecDepth 100000 in
theorem key_inj {s r : List Int} {l : Lit} (h : keyOf Try.prog 58 (stVal s) = some l) (k : keyOf Try.prog 58 (stVal r) = some l) : s = r := by
  have := law.inj h k
  simp only [stVal, Value.agg.injEq] at this
  exact Pr.ints_inj (by simpa using congrArg Array.toList this)
/-- A map that holds the states of a list. -/
def SetAt (w : World) (B : Nat) (ss : List (List Int)) : Prop :=
  ∃ (n : Nat) (D : DataW Unit), n ≤ ss.length ∧ w.ownsMap Try.prog 58 (plainElem Try.prog 4) B n D ∧ ∀ s l, keyOf Try.prog 58 (stVal s) = some l → D.atKey l (.lit (.bool false)) = .lit (.bool (decide (s ∈ ss)))
theorem SetAt.keep {w w' : World} {B : Nat} {ss : List (List Int)} (h : SetAt w B ss) (k : w'.heap[B]? = w.heap[B]?) : SetAt w' B ss := by
  obtain ⟨n, D, hn, ⟨es, clock, hb, r⟩, hat⟩ := h
  exact ⟨n, D, hn, ⟨es, clock, k.trans hb, r⟩, hat⟩
theorem SetAt.lt {w : World} {B : Nat} {ss : List (List Int)} (h : SetAt w B ss) : B < w.heap.size := by
  obtain ⟨n, D, hn, ho, -⟩ := h; exact ho.lt
theorem set_made (w : World) : SetAt (w.alloc (.map #[] 0)) w.heap.size [] :=
  ⟨0, .map [], Nat.le_refl _, World.ownsMap_made w _ _ _, fun s l _ => by simp [DataW.atKey]⟩
theorem zeroB (w : World) : (zeroValue 4).run Try.prog w = .ok (.bool false) w := by kernel_rfl
set_option maxRecDepth 100000 in
theorem SetAt.look {w : World} {B : Nat} {ss : List (List Int)} (h : SetAt w B ss) {s : List Int} (hs : Wf s) :
    (Instr.lookup 49 (.map (some B)) (stVal s) false).run Try.prog w = .ok (.bool (decide (s ∈ ss))) w := by
  obtain ⟨n, D, hn, ho, hat⟩ := h
  obtain ⟨l, hkl⟩ := key_some hs
  obtain ⟨v, ps, hrun, hv⟩ := ho.lookup law Try.underlying49 (zeroB w) (plainElem_bool Try.underlying4 false) hkl
  rw [hat s l hkl] at hv
  obtain ⟨b, rfl, hb⟩ := plainElem_bool_inv Try.underlying4 hv
  simp at hb
  rw [hrun, hb.1]
set_option maxRecDepth 100000 in
theorem SetAt.put {w : World} {B : Nat} {ss : List (List Int)} (h : SetAt w B ss) {s : List Int} (hs : Wf s) (hl : ss.length < 1000000000000) :
    ∃ w', (Instr.mapUpdate 49 (.map (some B)) (stVal s) (.bool true)).run Try.prog w = .ok () w' ∧ SetAt w' B (ss ++ [s]) ∧ Only [B] w w' := by
  obtain ⟨n, D, hn, ho, hat⟩ := h
  have hnm : n < maxLen := by unfold maxLen; omega
  obtain ⟨l, hkl⟩ := key_some hs
  obtain ⟨w', hrun, ho', ht⟩ := ho.store law Try.underlying49 hnm (val := .bool true) hkl (plainElem_bool Try.underlying4 true)
  have hik : WideAt.IsKeyLit l := law.key hkl
  have him := ho.isMap
  refine ⟨w', hrun, ⟨n + 1, _, by simp; omega, ho', fun r m hr => ?_⟩, ?_⟩
  · by_cases e : r = s
    · subst e
      have e2 : l = m := by rw [hkl] at hr; exact Option.some.inj hr
      subst e2
      rw [atKey_put_same him hik]; simp
    · have hk : m ≠ l := fun x => e (key_inj hr (x ▸ hkl))
      rw [atKey_put_other hk, hat r m hr]; simp [e]
  · obtain ⟨es, clock, es', clock', hb, rfl⟩ := ht
    exact ⟨rfl, rfl, rfl, by simp [setBlock], fun k hk => heap_setBlock_other hb _ (by simpa using hk)⟩
end Go.Proofs.Ytimbdjmplcgilaa.SQ
namespace Go.Proofs.Ytimbdjmplcgilaa.SQ
open Go.RowKit Go.Maps
open Pr (ints)
set_option linter.unusedVariables false

/-- A queue that holds the states of a list: its own block Q, its map B, its row g. -/
structure QAt (w : World) (Q B g : Nat) (ss : List (List Int)) : Prop where
  lies : ∃ cap, Blk w Q #[.map (some B), .slice (some ⟨g, 0, none⟩) ss.length cap] 52 ∧ w.ownsRow 0 58 16 (.slice (some ⟨g, 0, none⟩) ss.length cap) ss.length (ss.flatMap ints)
  set : SetAt w B ss
  qb : Q ≠ B
  qg : Q ≠ g
  bg : B ≠ g
  wf : ∀ s ∈ ss, Wf s
theorem QAt.glt {w : World} {Q B g : Nat} {ss : List (List Int)} (h : QAt w Q B g ss) : g < w.heap.size := by
  obtain ⟨cap, -, ho⟩ := h.lies
  exact (ho.lt g rfl).2
theorem QAt.keep {w w' : World} {Q B g : Nat} {ss : List (List Int)} (h : QAt w Q B g ss) (kQ : w'.heap[Q]? = w.heap[Q]?) (kB : w'.heap[B]? = w.heap[B]?) (kg : w'.heap[g]? = w.heap[g]?) : QAt w' Q B g ss := by
  refine ⟨?_, h.set.keep kB, h.qb, h.qg, h.bg, h.wf⟩
  obtain ⟨cap, hb, hl, ho⟩ := h.lies
  refine ⟨cap, by unfold Blk at *; rw [kQ]; exact hb, hl, ?_⟩
  rcases ho with ⟨e, -⟩ | ⟨g', cap', cur, e, h0, h1, r⟩
  · cases e
  · cases e
    exact .inr ⟨g, cap, cur, rfl, h0, by rw [kg]; exact h1, r⟩
theorem QAt.qlt {w : World} {Q B g : Nat} {ss : List (List Int)} (h : QAt w Q B g ss) : Q < w.heap.size := by
  obtain ⟨cap, hb, -⟩ := h.lies
  exact hb.lt
theorem QAt.below {w w' : World} {b : Nat} {Q B g : Nat} {ss : List (List Int)} (h : QAt w Q B g ss) (k : Below b w w') (hQ : Q < b) (hB : B < b) (hg : g < b) : QAt w' Q B g ss :=
  h.keep (k.block _ hQ) (k.block _ hB) (k.block _ hg)
theorem QAt.new {w w' : World} {Q B g : Nat} {ss : List (List Int)} (h : QAt w Q B g ss) (k : Below w.heap.size w w') : QAt w' Q B g ss :=
  h.below k h.qlt h.set.lt h.glt
theorem flat_len {ss : List (List Int)} (h : ∀ s ∈ ss, Wf s) : (ss.flatMap ints).length = ss.length * 16 := by
  induction ss with
  | nil => rfl
  | cons a r ih =>
    rw [List.flatMap_cons, List.length_append, ih (fun s hs => h s (by simp [hs]))]
    have := (h a (by simp)).len
    simp [ints, this]; omega
theorem flat_get {ss : List (List Int)} (h : ∀ s ∈ ss, Wf s) : ∀ {i : Nat} {s : List Int}, ss[i]? = some s → ∀ j v, (ints s)[j]? = some v → (ss.flatMap ints)[i * 16 + j]? = some v := by
  induction ss with
  | nil => intro i s hi; simp at hi
  | cons a r ih =>
    intro i s hi j v hv
    have ha := (h a (by simp)).len
    rw [List.flatMap_cons]
    cases i with
    | zero =>
      simp at hi
      subst hi
      have hj := (List.getElem?_eq_some_iff.1 hv).1
      rw [List.getElem?_append_left (by omega)]; simpa using hv
    | succ i =>
      have hla : (ints a).length = 16 := by simp [ints, ha]
      rw [List.getElem?_append_right (by omega), hla, show (i + 1) * 16 + j - 16 = i * 16 + j by omega]
      exact ih (fun s hs => h s (by simp [hs])) (by simpa using hi) j v hv
/-- Where a state lies. -/
theorem QAt.row {w : World} {Q B g : Nat} {ss : List (List Int)} (h : QAt w Q B g ss) {i : Nat} {s : List Int} (hi : ss[i]? = some s) : w.rangeAt g (i * 16) (ints s) := by
  obtain ⟨cap, -, ho⟩ := h.lies
  intro j v hv
  have := ho.cells (g := g) rfl _ _ (flat_get h.wf hi j v hv)
  simpa [WideShapes.add_plain] using this

theorem infoK : (Try.prog.info? 58).map (·.size) = some 16 := by kernel_rfl
theorem Blk.setRow {w : World} {b : Nat} {c c' : Array Value} {T : TypeId} (h : Blk w b c T) : Blk (w.setRow b c') b c' T := setRow_heap w b c c' T (0, 0) h

set_option maxHeartbeats 2000000 in
set_option maxRecDepth 100000 in
theorem len_any {w : World} {Q B g : Nat} {ss : List (List Int)} (h : QAt w Q B g ss) :
    Calls Try.prog 26 #[.pointer (some ⟨Q, 0, none⟩)] w fun e w' => e = .returned (.int .i64 ss.length) ∧ w' = w := by
  obtain ⟨cap, hb, -⟩ := h.lies
  have c1 : w.cell? ⟨Q, 1, none⟩ = some (.slice (some ⟨g, 0, none⟩) ss.length cap) := hb.cell 1
  clear h hb
  go_enter Try.func26, Try.ntmps26
  go_wp2_with fail
  go_ret
  exact ⟨rfl, rfl⟩

set_option maxHeartbeats 2000000 in
set_option maxRecDepth 100000 in
theorem at_any {w : World} {Q B g : Nat} {ss : List (List Int)} (h : QAt w Q B g ss) {i : Nat} {s : List Int} (hi : ss[i]? = some s) (hl : ss.length < 1000000000000) :
    Calls Try.prog 27 #[.pointer (some ⟨Q, 0, none⟩), .int .i64 i] w fun e w' => e = .returned (stVal s) ∧ Below w.heap.size w w' := by
  have hs := (h.wf s (List.mem_of_getElem? hi)).len
  have hil : i < ss.length := (List.getElem?_eq_some_iff.1 hi).1
  have hiI : (i : Int) < ss.length := by omega
  have HR := Lib.hid (h.row hi)
  have hQ := h.qlt
  have hg := h.glt
  obtain ⟨cap, hb, -⟩ := h.lies
  have c1 : w.cell? ⟨Q, 1, none⟩ = some (.slice (some ⟨g, 0, none⟩) ss.length cap) := hb.cell 1
  have HB := Lib.hid (Blk.new w (List.toArray (Value.int .i64 0 :: Value.int .i64 0 :: Value.int .i64 0 :: Value.int .i64 0 :: Value.int .i64 0 :: Value.int .i64 0 :: Value.int .i64 0 :: Value.int .i64 0 :: Value.int .i64 0 :: Value.int .i64 0 :: Value.int .i64 0 :: Value.int .i64 0 :: Value.int .i64 0 :: Value.int .i64 0 :: Value.int .i64 0 :: Value.int .i64 0 :: [])) 58)
  have HL : Hid (Below w.heap.size w (w.alloc (.cells (List.toArray (Value.int .i64 0 :: Value.int .i64 0 :: Value.int .i64 0 :: Value.int .i64 0 :: Value.int .i64 0 :: Value.int .i64 0 :: Value.int .i64 0 :: Value.int .i64 0 :: Value.int .i64 0 :: Value.int .i64 0 :: Value.int .i64 0 :: Value.int .i64 0 :: Value.int .i64 0 :: Value.int .i64 0 :: Value.int .i64 0 :: Value.int .i64 0 :: [])) 58))) := (Below.refl _ _).alloc (Nat.le_refl _) _
  have HIS : Hid ((ints s).toArray.size = 16) := by show _ = _; simp [ints, hs]
  have H1 : Hid ((ints s).toArray.all (·.oneCell') = true) := all_oneCell_toArray (fun v hv => by simp [ints] at hv; obtain ⟨x, -, rfl⟩ := hv; rfl)
  clear h hb hi hs
  go_enter Try.func27, Try.ntmps27
  go_upto_region 1 with fail
  generalize w.alloc (.cells (List.toArray (Value.int .i64 0 :: Value.int .i64 0 :: Value.int .i64 0 :: Value.int .i64 0 :: Value.int .i64 0 :: Value.int .i64 0 :: Value.int .i64 0 :: Value.int .i64 0 :: Value.int .i64 0 :: Value.int .i64 0 :: Value.int .i64 0 :: Value.int .i64 0 :: Value.int .i64 0 :: Value.int .i64 0 :: Value.int .i64 0 :: Value.int .i64 0 :: [])) 58) = wx at HB HL ⊢
  have c2 : wx.cell? ⟨Q, 1, none⟩ = some (.slice (some ⟨g, 0, none⟩) ss.length cap) := by rw [HL.out.cell (p := ⟨Q, 1, none⟩) hQ]; exact c1
  have HR2 : Hid (wx.rangeAt g (i * 16) (ints s)) := by
    intro j v hv
    have := HR.out j v hv
    rw [HL.out.cell (p := ⟨g, _, none⟩) hg]
    exact this
  have HI2 : Hid ((Try.prog.info? 58).map (·.size) = some (ints s).length) := by show _ = _; rw [infoK]; have := HIS.out; simp at this; simp [this]
  have HI3 : Hid ((Try.prog.info? 58).map (·.size) = some (ints s).toArray.size) := by show _ = _; rw [infoK, HIS.out]
  have HI4 : Hid (((List.toArray (Value.int .i64 0 :: Value.int .i64 0 :: Value.int .i64 0 :: Value.int .i64 0 :: Value.int .i64 0 :: Value.int .i64 0 :: Value.int .i64 0 :: Value.int .i64 0 :: Value.int .i64 0 :: Value.int .i64 0 :: Value.int .i64 0 :: Value.int .i64 0 :: Value.int .i64 0 :: Value.int .i64 0 :: Value.int .i64 0 :: Value.int .i64 0 :: [])) : Array Value).size = (ints s).toArray.size) := by show _ = _; rw [HIS.out]; rfl
  clear c1 HR
  go_wp2_with (first | (refine wpList_load_mid rfl 58 _ rfl _ _ rfl (ints s) _ HR2.out Try.underlying58 rfl HI2.out ?_) | (refine wpList_store_row rfl 58 _ _ rfl _ (ints s).toArray rfl rfl 58 (List.toArray (Value.int .i64 0 :: Value.int .i64 0 :: Value.int .i64 0 :: Value.int .i64 0 :: Value.int .i64 0 :: Value.int .i64 0 :: Value.int .i64 0 :: Value.int .i64 0 :: Value.int .i64 0 :: Value.int .i64 0 :: Value.int .i64 0 :: Value.int .i64 0 :: Value.int .i64 0 :: Value.int .i64 0 :: Value.int .i64 0 :: Value.int .i64 0 :: [])) HB.out HI3.out HI4.out H1.out ?_))
  go_wp2_with fail
  (try simp only [Exit.inBlock, Exit.then])
  refine bodyPost_ret (results_cell_row rfl _ _ w.heap.size 58 (ints s).toArray (0, 0) _ rfl (Blk.setRow HB.out) Try.underlying58 rfl (by rw [infoK, HIS.out])) rfl ?_
  exact ⟨rfl, below_setRow HL.out (Nat.le_refl _) _⟩
end Go.Proofs.Ytimbdjmplcgilaa.SQ
