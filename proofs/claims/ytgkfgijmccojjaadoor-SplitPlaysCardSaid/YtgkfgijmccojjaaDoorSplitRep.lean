import Derived.Test.YtgkfgijmccojjaaDoorCopy
namespace Go.Proofs.YtgkfgijmccojjaaDoor.Split
open Go.RowKit
set_option linter.unusedVariables false

theorem infoHand : (Tryd.prog.info? 106).map (fun i => (i.zero, i.size, i.bytes)) = some (some (.agg #[.int .i64 0, .int .i64 0, .int .i64 0]), 3, 24) := by kernel_rfl
/-- A new hand. -/
def el : List Value := [.int .i64 1, .int .i64 0, .int .i64 0]
def Repeated (n : Nat) (w : World) (e : Ending) (w' : World) : Prop :=
  ∃ g cur, e = .returned (.slice (some ⟨g, 0, none⟩) n n) ∧ w.heap.size ≤ g ∧ Blk w' g cur 106 ∧ Filled el n cur ∧ Below w.heap.size w w'
def RepRel (n : Nat) (w : World) (g : Nat) (v : Value) (wr : World) : Prop :=
  ∃ (m : Nat) (cur : Array Value), 1 ≤ m ∧ m ≤ n ∧ (n = 4 → m ≠ 3) ∧ v = .int .i64 m ∧ Blk wr g cur 106 ∧ cur.size = n * 3 ∧ Filled el m cur ∧ Below w.heap.size w wr

theorem mulFacts (n : Int) (h : n = 1 ∨ n = 2 ∨ n = 3 ∨ n = 4) : bits BinOp.and IntKind.u64 1 4294967295 = 1 ∧ bits BinOp.and IntKind.u64 n 4294967295 = n ∧ bits BinOp.and IntKind.u64 0 4294967295 = 0 := by
  rcases h with rfl | rfl | rfl | rfl <;> decide

set_option maxHeartbeats 2000000 in
set_option maxRecDepth 100000 in
theorem rep1 (w : World) (b : Nat) (hb : Blk w b el.toArray 106) :
    Calls Tryd.prog 82 #[.slice (some ⟨b, 0, none⟩) 1 1, .int .i64 1] w (Repeated 1 w) := by
  obtain ⟨i0, hi, hz0, hz1, hz2⟩ := info_parts infoHand
  obtain ⟨q1, q2, q3⟩ := mulFacts 1 (by decide)
  have hmk : ∀ w : World, (Instr.makeSlice 103 (.int .i64 1) (.int .i64 1)).run Tryd.prog w = .ok (.slice (some ⟨w.heap.size, 0, none⟩) 1 1) (w.alloc (.cells (madeCells #[.int .i64 0, .int .i64 0, .int .i64 0] (1 * 3)) 106)) := by
    intro w
    have h := run_make (P := Tryd.prog) w 103 106 i0 (.agg #[.int .i64 0, .int .i64 0, .int .i64 0]) Tryd.underlying103 hi hz0 .i64 .i64 1 1 (by omega) (by omega) (by rw [hz2]; omega) (by omega)
    rw [h, hz1]; rfl
  have hb0 : b < w.heap.size := hb.lt
  have hel : el.length = 3 := rfl
  have Hel := Lib.hid hel
  have hsrc : ∀ (w' : World), (∀ k, k < w.heap.size → w'.heap[k]? = w.heap[k]?) → ∀ j v, ([.int .i64 1, .int .i64 0, .int .i64 0] : List Value)[j]? = some v → w'.cell? ((⟨b, 0, none⟩ : Addr).add j) = some v := by
    intro w' hw j v hv
    have e1 : Addr.add ⟨b, 0, none⟩ j = ⟨b, j, none⟩ := by
      unfold Addr.add; split
      · subst_vars; rfl
      · simp
    rw [e1, World.cell?_of_block (w := w) (hw b hb0), hb.cell]
    simpa [el] using hv
  have Hsrc := Lib.hid hsrc
  have hcur0 : (madeCells #[.int .i64 0, .int .i64 0, .int .i64 0] (1 * 3)).size = 1 * 3 := size_madeCells _ _
  have Hcur0 := Lib.hid hcur0
  clear hel hsrc hcur0 hb hz0 hz2
  go_enter Tryd.func82, Tryd.ntmps82
  go_wp2_with fail
  go_wp2_with (first | go_in | (with_reducible refine wpList_copy_wide rfl _ _ 103 106 rfl i0 Tryd.underlying103 hi w.heap.size 0 1 1 ⟨b, 0, none⟩ 1 1 el rfl rfl ?z (madeCells #[.int .i64 0, .int .i64 0, .int .i64 0] (1 * 3)) ?g ?f [.int .i64 1, .int .i64 0, .int .i64 0] ?n ?cs ?src ?fit ?one ?_))
  case z => exact hz1
  case g => exact Blk.new _ _ _
  case f => exact fun i hi => absurd hi (by simp)
  case n => rfl
  case cs =>
    intro j hj
    have hj' : j < el.length := by simpa using hj
    rw [Nat.mod_eq_of_lt hj']; rfl
  case src => exact Hsrc.out _ (fun k hk => Below.heap_alloc _ _ _ hk)
  case fit => rw [Hcur0.out]; decide
  case one => simp [Value.oneCell']
  intro w2 cur hB hsz hF hbel
  have hF1 : Filled el 1 cur := hF
  have hsz1 : cur.size = 1 * 3 := hsz.trans Hcur0.out
  have hbel1 : Below w.heap.size w w2 := ((Below.refl _ _).alloc (Nat.le_refl _) _).trans (hbel _ (Nat.le_refl _))
  clear hbel hF hsz hmk q1 q2 q3
  go_wp2_with fail
  go_loopw [8] (fun v wr => RepRel 1 w w.heap.size v wr) (fun v _ => 1 - (intOf v).toNat)
  case atStart => exact ⟨1, cur, by omega, by omega, by omega, rfl, hB, hsz1, hF1, hbel1⟩
  case round =>
    obtain ⟨m, cr, hm1, hm2, hm3, rfl, hB, hsz, hF, hbel⟩ := hrel
    clear hsz1 hF1 hbel1
    obtain rfl : m = 1 := by omega
    clear hm1 hm2 hm3
    go_wp2_with fail
    go_ret
    exact ⟨w.heap.size, cr, rfl, Nat.le_refl _, hB, hF, hbel⟩

set_option maxHeartbeats 2000000 in
set_option maxRecDepth 100000 in
theorem rep2 (w : World) (b : Nat) (hb : Blk w b el.toArray 106) :
    Calls Tryd.prog 82 #[.slice (some ⟨b, 0, none⟩) 1 1, .int .i64 2] w (Repeated 2 w) := by
  obtain ⟨i0, hi, hz0, hz1, hz2⟩ := info_parts infoHand
  obtain ⟨q1, q2, q3⟩ := mulFacts 2 (by decide)
  have hmk : ∀ w : World, (Instr.makeSlice 103 (.int .i64 2) (.int .i64 2)).run Tryd.prog w = .ok (.slice (some ⟨w.heap.size, 0, none⟩) 2 2) (w.alloc (.cells (madeCells #[.int .i64 0, .int .i64 0, .int .i64 0] (2 * 3)) 106)) := by
    intro w
    have h := run_make (P := Tryd.prog) w 103 106 i0 (.agg #[.int .i64 0, .int .i64 0, .int .i64 0]) Tryd.underlying103 hi hz0 .i64 .i64 2 2 (by omega) (by omega) (by rw [hz2]; omega) (by omega)
    rw [h, hz1]; rfl
  have hb0 : b < w.heap.size := hb.lt
  have hel : el.length = 3 := rfl
  have Hel := Lib.hid hel
  have hsrc : ∀ (w' : World), (∀ k, k < w.heap.size → w'.heap[k]? = w.heap[k]?) → ∀ j v, ([.int .i64 1, .int .i64 0, .int .i64 0] : List Value)[j]? = some v → w'.cell? ((⟨b, 0, none⟩ : Addr).add j) = some v := by
    intro w' hw j v hv
    have e1 : Addr.add ⟨b, 0, none⟩ j = ⟨b, j, none⟩ := by
      unfold Addr.add; split
      · subst_vars; rfl
      · simp
    rw [e1, World.cell?_of_block (w := w) (hw b hb0), hb.cell]
    simpa [el] using hv
  have Hsrc := Lib.hid hsrc
  have hcur0 : (madeCells #[.int .i64 0, .int .i64 0, .int .i64 0] (2 * 3)).size = 2 * 3 := size_madeCells _ _
  have Hcur0 := Lib.hid hcur0
  clear hel hsrc hcur0 hb hz0 hz2
  go_enter Tryd.func82, Tryd.ntmps82
  go_wp2_with fail
  go_wp2_with (first | go_in | (with_reducible refine wpList_copy_wide rfl _ _ 103 106 rfl i0 Tryd.underlying103 hi w.heap.size 0 2 2 ⟨b, 0, none⟩ 1 1 el rfl rfl ?z (madeCells #[.int .i64 0, .int .i64 0, .int .i64 0] (2 * 3)) ?g ?f [.int .i64 1, .int .i64 0, .int .i64 0] ?n ?cs ?src ?fit ?one ?_))
  case z => exact hz1
  case g => exact Blk.new _ _ _
  case f => exact fun i hi => absurd hi (by simp)
  case n => rfl
  case cs =>
    intro j hj
    have hj' : j < el.length := by simpa using hj
    rw [Nat.mod_eq_of_lt hj']; rfl
  case src => exact Hsrc.out _ (fun k hk => Below.heap_alloc _ _ _ hk)
  case fit => rw [Hcur0.out]; decide
  case one => simp [Value.oneCell']
  intro w2 cur hB hsz hF hbel
  have hF1 : Filled el 1 cur := hF
  have hsz1 : cur.size = 2 * 3 := hsz.trans Hcur0.out
  have hbel1 : Below w.heap.size w w2 := ((Below.refl _ _).alloc (Nat.le_refl _) _).trans (hbel _ (Nat.le_refl _))
  clear hbel hF hsz hmk q1 q2 q3
  go_wp2_with fail
  go_loopw [8] (fun v wr => RepRel 2 w w.heap.size v wr) (fun v _ => 2 - (intOf v).toNat)
  case atStart => exact ⟨1, cur, by omega, by omega, by omega, rfl, hB, hsz1, hF1, hbel1⟩
  case round =>
    obtain ⟨m, cr, hm1, hm2, hm3, rfl, hB, hsz, hF, hbel⟩ := hrel
    clear hsz1 hF1 hbel1
    by_cases hm : m = 1
    · subst hm
      clear hm1 hm2 hm3
      rw [show ((1 : Nat) : Int) = 1 from rfl]
      have hcs : ∀ j, j < 1 * el.length → ([.int .i64 1, .int .i64 0, .int .i64 0] : List Value)[j]? = el[j % el.length]? := by
        intro j hj
        have hj' : j < 3 := hj
        obtain rfl | rfl | rfl : j = 0 ∨ j = 1 ∨ j = 2 := by omega
        all_goals rfl
      have hsrc : ∀ (wx : World), wx.heap = wr.heap → ∀ j v, ([.int .i64 1, .int .i64 0, .int .i64 0] : List Value)[j]? = some v → wx.cell? ((⟨w.heap.size, 0, none⟩ : Addr).add j) = some v := by
        intro wx hx j v hv
        have hj : j < 1 * el.length := by
          have := (List.getElem?_eq_some_iff.1 hv).1
          exact this
        have e1 : Addr.add ⟨w.heap.size, 0, none⟩ j = ⟨w.heap.size, j, none⟩ := by
          unfold Addr.add; split
          · subst_vars; rfl
          · simp
        rw [e1, World.cell?_of_block (w := wr) (by rw [hx]), hB.cell, hF j (by omega), ← hcs j hj]
        exact hv
      have Hcs := Lib.hid hcs
      have Hs2 := Lib.hid hsrc
      have Hsz := Lib.hid hsz
      clear hcs hsrc hsz
      go_wp2_with fail
      go_region_law (refine step_copy_wide rfl (.tmp 41) (.tmp 44) 103 106 rfl i0 Tryd.underlying103 hi w.heap.size 1 1 1 ⟨w.heap.size, 0, none⟩ 1 2 el (by simp [Act.eval, Act.put, el]) (by simp [Act.eval, Act.put]) hz1 cr hB hF [.int .i64 1, .int .i64 0, .int .i64 0] rfl Hcs.out (Hs2.out _ rfl) (by rw [Hsz.out]; decide) (by simp [Value.oneCell']) ?_; intro w3 cur3 hB3 hsz3 hF3 hbel3)
      all_goals
        go_wp2_with fail
        refine ⟨?_, ?_⟩
        · (repeat apply Exists.intro)
          exact ⟨⟨2, cur3, by omega, by omega, by omega, rfl, hB3, hsz3.trans Hsz.out, hF3, hbel.drew.trans (hbel3 _ (Nat.le_refl _))⟩, rfl⟩
        · show (2 - 2 : Nat) < 2 - 1
          decide
    obtain rfl : m = 2 := by omega
    clear hm1 hm2 hm3
    go_wp2_with fail
    go_ret
    exact ⟨w.heap.size, cr, rfl, Nat.le_refl _, hB, hF, hbel⟩

set_option maxHeartbeats 2000000 in
set_option maxRecDepth 100000 in
theorem rep3 (w : World) (b : Nat) (hb : Blk w b el.toArray 106) :
    Calls Tryd.prog 82 #[.slice (some ⟨b, 0, none⟩) 1 1, .int .i64 3] w (Repeated 3 w) := by
  obtain ⟨i0, hi, hz0, hz1, hz2⟩ := info_parts infoHand
  obtain ⟨q1, q2, q3⟩ := mulFacts 3 (by decide)
  have hmk : ∀ w : World, (Instr.makeSlice 103 (.int .i64 3) (.int .i64 3)).run Tryd.prog w = .ok (.slice (some ⟨w.heap.size, 0, none⟩) 3 3) (w.alloc (.cells (madeCells #[.int .i64 0, .int .i64 0, .int .i64 0] (3 * 3)) 106)) := by
    intro w
    have h := run_make (P := Tryd.prog) w 103 106 i0 (.agg #[.int .i64 0, .int .i64 0, .int .i64 0]) Tryd.underlying103 hi hz0 .i64 .i64 3 3 (by omega) (by omega) (by rw [hz2]; omega) (by omega)
    rw [h, hz1]; rfl
  have hb0 : b < w.heap.size := hb.lt
  have hel : el.length = 3 := rfl
  have Hel := Lib.hid hel
  have hsrc : ∀ (w' : World), (∀ k, k < w.heap.size → w'.heap[k]? = w.heap[k]?) → ∀ j v, ([.int .i64 1, .int .i64 0, .int .i64 0] : List Value)[j]? = some v → w'.cell? ((⟨b, 0, none⟩ : Addr).add j) = some v := by
    intro w' hw j v hv
    have e1 : Addr.add ⟨b, 0, none⟩ j = ⟨b, j, none⟩ := by
      unfold Addr.add; split
      · subst_vars; rfl
      · simp
    rw [e1, World.cell?_of_block (w := w) (hw b hb0), hb.cell]
    simpa [el] using hv
  have Hsrc := Lib.hid hsrc
  have hcur0 : (madeCells #[.int .i64 0, .int .i64 0, .int .i64 0] (3 * 3)).size = 3 * 3 := size_madeCells _ _
  have Hcur0 := Lib.hid hcur0
  clear hel hsrc hcur0 hb hz0 hz2
  go_enter Tryd.func82, Tryd.ntmps82
  go_wp2_with fail
  go_wp2_with (first | go_in | (with_reducible refine wpList_copy_wide rfl _ _ 103 106 rfl i0 Tryd.underlying103 hi w.heap.size 0 3 3 ⟨b, 0, none⟩ 1 1 el rfl rfl ?z (madeCells #[.int .i64 0, .int .i64 0, .int .i64 0] (3 * 3)) ?g ?f [.int .i64 1, .int .i64 0, .int .i64 0] ?n ?cs ?src ?fit ?one ?_))
  case z => exact hz1
  case g => exact Blk.new _ _ _
  case f => exact fun i hi => absurd hi (by simp)
  case n => rfl
  case cs =>
    intro j hj
    have hj' : j < el.length := by simpa using hj
    rw [Nat.mod_eq_of_lt hj']; rfl
  case src => exact Hsrc.out _ (fun k hk => Below.heap_alloc _ _ _ hk)
  case fit => rw [Hcur0.out]; decide
  case one => simp [Value.oneCell']
  intro w2 cur hB hsz hF hbel
  have hF1 : Filled el 1 cur := hF
  have hsz1 : cur.size = 3 * 3 := hsz.trans Hcur0.out
  have hbel1 : Below w.heap.size w w2 := ((Below.refl _ _).alloc (Nat.le_refl _) _).trans (hbel _ (Nat.le_refl _))
  clear hbel hF hsz hmk q1 q2 q3
  go_wp2_with fail
  go_loopw [8] (fun v wr => RepRel 3 w w.heap.size v wr) (fun v _ => 3 - (intOf v).toNat)
  case atStart => exact ⟨1, cur, by omega, by omega, by omega, rfl, hB, hsz1, hF1, hbel1⟩
  case round =>
    obtain ⟨m, cr, hm1, hm2, hm3, rfl, hB, hsz, hF, hbel⟩ := hrel
    clear hsz1 hF1 hbel1
    by_cases hm : m = 1
    · subst hm
      clear hm1 hm2 hm3
      rw [show ((1 : Nat) : Int) = 1 from rfl]
      have hcs : ∀ j, j < 1 * el.length → ([.int .i64 1, .int .i64 0, .int .i64 0] : List Value)[j]? = el[j % el.length]? := by
        intro j hj
        have hj' : j < 3 := hj
        obtain rfl | rfl | rfl : j = 0 ∨ j = 1 ∨ j = 2 := by omega
        all_goals rfl
      have hsrc : ∀ (wx : World), wx.heap = wr.heap → ∀ j v, ([.int .i64 1, .int .i64 0, .int .i64 0] : List Value)[j]? = some v → wx.cell? ((⟨w.heap.size, 0, none⟩ : Addr).add j) = some v := by
        intro wx hx j v hv
        have hj : j < 1 * el.length := by
          have := (List.getElem?_eq_some_iff.1 hv).1
          exact this
        have e1 : Addr.add ⟨w.heap.size, 0, none⟩ j = ⟨w.heap.size, j, none⟩ := by
          unfold Addr.add; split
          · subst_vars; rfl
          · simp
        rw [e1, World.cell?_of_block (w := wr) (by rw [hx]), hB.cell, hF j (by omega), ← hcs j hj]
        exact hv
      have Hcs := Lib.hid hcs
      have Hs2 := Lib.hid hsrc
      have Hsz := Lib.hid hsz
      clear hcs hsrc hsz
      go_wp2_with fail
      go_region_law (refine step_copy_wide rfl (.tmp 41) (.tmp 44) 103 106 rfl i0 Tryd.underlying103 hi w.heap.size 1 2 2 ⟨w.heap.size, 0, none⟩ 1 3 el (by simp [Act.eval, Act.put, el]) (by simp [Act.eval, Act.put]) hz1 cr hB hF [.int .i64 1, .int .i64 0, .int .i64 0] rfl Hcs.out (Hs2.out _ rfl) (by rw [Hsz.out]; decide) (by simp [Value.oneCell']) ?_; intro w3 cur3 hB3 hsz3 hF3 hbel3)
      all_goals
        go_wp2_with fail
        refine ⟨?_, ?_⟩
        · (repeat apply Exists.intro)
          exact ⟨⟨2, cur3, by omega, by omega, by omega, rfl, hB3, hsz3.trans Hsz.out, hF3, hbel.drew.trans (hbel3 _ (Nat.le_refl _))⟩, rfl⟩
        · show (3 - 2 : Nat) < 3 - 1
          decide
    by_cases hm : m = 2
    · subst hm
      clear hm1 hm2 hm3
      rw [show ((2 : Nat) : Int) = 2 from rfl]
      have hcs : ∀ j, j < 1 * el.length → ([.int .i64 1, .int .i64 0, .int .i64 0] : List Value)[j]? = el[j % el.length]? := by
        intro j hj
        have hj' : j < 3 := hj
        obtain rfl | rfl | rfl : j = 0 ∨ j = 1 ∨ j = 2 := by omega
        all_goals rfl
      have hsrc : ∀ (wx : World), wx.heap = wr.heap → ∀ j v, ([.int .i64 1, .int .i64 0, .int .i64 0] : List Value)[j]? = some v → wx.cell? ((⟨w.heap.size, 0, none⟩ : Addr).add j) = some v := by
        intro wx hx j v hv
        have hj : j < 1 * el.length := by
          have := (List.getElem?_eq_some_iff.1 hv).1
          exact this
        have e1 : Addr.add ⟨w.heap.size, 0, none⟩ j = ⟨w.heap.size, j, none⟩ := by
          unfold Addr.add; split
          · subst_vars; rfl
          · simp
        rw [e1, World.cell?_of_block (w := wr) (by rw [hx]), hB.cell, hF j (by omega), ← hcs j hj]
        exact hv
      have Hcs := Lib.hid hcs
      have Hs2 := Lib.hid hsrc
      have Hsz := Lib.hid hsz
      clear hcs hsrc hsz
      go_wp2_with fail
      go_region_law (refine step_copy_wide rfl (.tmp 41) (.tmp 44) 103 106 rfl i0 Tryd.underlying103 hi w.heap.size 2 1 1 ⟨w.heap.size, 0, none⟩ 2 3 el (by simp [Act.eval, Act.put, el]) (by simp [Act.eval, Act.put]) hz1 cr hB hF [.int .i64 1, .int .i64 0, .int .i64 0] rfl Hcs.out (Hs2.out _ rfl) (by rw [Hsz.out]; decide) (by simp [Value.oneCell']) ?_; intro w3 cur3 hB3 hsz3 hF3 hbel3)
      all_goals
        go_wp2_with fail
        refine ⟨?_, ?_⟩
        · (repeat apply Exists.intro)
          exact ⟨⟨3, cur3, by omega, by omega, by omega, rfl, hB3, hsz3.trans Hsz.out, hF3, hbel.drew.trans (hbel3 _ (Nat.le_refl _))⟩, rfl⟩
        · show (3 - 3 : Nat) < 3 - 2
          decide
    obtain rfl : m = 3 := by omega
    clear hm1 hm2 hm3
    go_wp2_with fail
    go_ret
    exact ⟨w.heap.size, cr, rfl, Nat.le_refl _, hB, hF, hbel⟩

set_option maxHeartbeats 2000000 in
set_option maxRecDepth 100000 in
theorem rep4 (w : World) (b : Nat) (hb : Blk w b el.toArray 106) :
    Calls Tryd.prog 82 #[.slice (some ⟨b, 0, none⟩) 1 1, .int .i64 4] w (Repeated 4 w) := by
  obtain ⟨i0, hi, hz0, hz1, hz2⟩ := info_parts infoHand
  obtain ⟨q1, q2, q3⟩ := mulFacts 4 (by decide)
  have hmk : ∀ w : World, (Instr.makeSlice 103 (.int .i64 4) (.int .i64 4)).run Tryd.prog w = .ok (.slice (some ⟨w.heap.size, 0, none⟩) 4 4) (w.alloc (.cells (madeCells #[.int .i64 0, .int .i64 0, .int .i64 0] (4 * 3)) 106)) := by
    intro w
    have h := run_make (P := Tryd.prog) w 103 106 i0 (.agg #[.int .i64 0, .int .i64 0, .int .i64 0]) Tryd.underlying103 hi hz0 .i64 .i64 4 4 (by omega) (by omega) (by rw [hz2]; omega) (by omega)
    rw [h, hz1]; rfl
  have hb0 : b < w.heap.size := hb.lt
  have hel : el.length = 3 := rfl
  have Hel := Lib.hid hel
  have hsrc : ∀ (w' : World), (∀ k, k < w.heap.size → w'.heap[k]? = w.heap[k]?) → ∀ j v, ([.int .i64 1, .int .i64 0, .int .i64 0] : List Value)[j]? = some v → w'.cell? ((⟨b, 0, none⟩ : Addr).add j) = some v := by
    intro w' hw j v hv
    have e1 : Addr.add ⟨b, 0, none⟩ j = ⟨b, j, none⟩ := by
      unfold Addr.add; split
      · subst_vars; rfl
      · simp
    rw [e1, World.cell?_of_block (w := w) (hw b hb0), hb.cell]
    simpa [el] using hv
  have Hsrc := Lib.hid hsrc
  have hcur0 : (madeCells #[.int .i64 0, .int .i64 0, .int .i64 0] (4 * 3)).size = 4 * 3 := size_madeCells _ _
  have Hcur0 := Lib.hid hcur0
  clear hel hsrc hcur0 hb hz0 hz2
  go_enter Tryd.func82, Tryd.ntmps82
  go_wp2_with fail
  go_wp2_with (first | go_in | (with_reducible refine wpList_copy_wide rfl _ _ 103 106 rfl i0 Tryd.underlying103 hi w.heap.size 0 4 4 ⟨b, 0, none⟩ 1 1 el rfl rfl ?z (madeCells #[.int .i64 0, .int .i64 0, .int .i64 0] (4 * 3)) ?g ?f [.int .i64 1, .int .i64 0, .int .i64 0] ?n ?cs ?src ?fit ?one ?_))
  case z => exact hz1
  case g => exact Blk.new _ _ _
  case f => exact fun i hi => absurd hi (by simp)
  case n => rfl
  case cs =>
    intro j hj
    have hj' : j < el.length := by simpa using hj
    rw [Nat.mod_eq_of_lt hj']; rfl
  case src => exact Hsrc.out _ (fun k hk => Below.heap_alloc _ _ _ hk)
  case fit => rw [Hcur0.out]; decide
  case one => simp [Value.oneCell']
  intro w2 cur hB hsz hF hbel
  have hF1 : Filled el 1 cur := hF
  have hsz1 : cur.size = 4 * 3 := hsz.trans Hcur0.out
  have hbel1 : Below w.heap.size w w2 := ((Below.refl _ _).alloc (Nat.le_refl _) _).trans (hbel _ (Nat.le_refl _))
  clear hbel hF hsz hmk q1 q2 q3
  go_wp2_with fail
  go_loopw [8] (fun v wr => RepRel 4 w w.heap.size v wr) (fun v _ => 4 - (intOf v).toNat)
  case atStart => exact ⟨1, cur, by omega, by omega, by omega, rfl, hB, hsz1, hF1, hbel1⟩
  case round =>
    obtain ⟨m, cr, hm1, hm2, hm3, rfl, hB, hsz, hF, hbel⟩ := hrel
    clear hsz1 hF1 hbel1
    by_cases hm : m = 1
    · subst hm
      clear hm1 hm2 hm3
      rw [show ((1 : Nat) : Int) = 1 from rfl]
      have hcs : ∀ j, j < 1 * el.length → ([.int .i64 1, .int .i64 0, .int .i64 0] : List Value)[j]? = el[j % el.length]? := by
        intro j hj
        have hj' : j < 3 := hj
        obtain rfl | rfl | rfl : j = 0 ∨ j = 1 ∨ j = 2 := by omega
        all_goals rfl
      have hsrc : ∀ (wx : World), wx.heap = wr.heap → ∀ j v, ([.int .i64 1, .int .i64 0, .int .i64 0] : List Value)[j]? = some v → wx.cell? ((⟨w.heap.size, 0, none⟩ : Addr).add j) = some v := by
        intro wx hx j v hv
        have hj : j < 1 * el.length := by
          have := (List.getElem?_eq_some_iff.1 hv).1
          exact this
        have e1 : Addr.add ⟨w.heap.size, 0, none⟩ j = ⟨w.heap.size, j, none⟩ := by
          unfold Addr.add; split
          · subst_vars; rfl
          · simp
        rw [e1, World.cell?_of_block (w := wr) (by rw [hx]), hB.cell, hF j (by omega), ← hcs j hj]
        exact hv
      have Hcs := Lib.hid hcs
      have Hs2 := Lib.hid hsrc
      have Hsz := Lib.hid hsz
      clear hcs hsrc hsz
      go_wp2_with fail
      go_region_law (refine step_copy_wide rfl (.tmp 41) (.tmp 44) 103 106 rfl i0 Tryd.underlying103 hi w.heap.size 1 3 3 ⟨w.heap.size, 0, none⟩ 1 4 el (by simp [Act.eval, Act.put, el]) (by simp [Act.eval, Act.put]) hz1 cr hB hF [.int .i64 1, .int .i64 0, .int .i64 0] rfl Hcs.out (Hs2.out _ rfl) (by rw [Hsz.out]; decide) (by simp [Value.oneCell']) ?_; intro w3 cur3 hB3 hsz3 hF3 hbel3)
      all_goals
        go_wp2_with fail
        refine ⟨?_, ?_⟩
        · (repeat apply Exists.intro)
          exact ⟨⟨2, cur3, by omega, by omega, by omega, rfl, hB3, hsz3.trans Hsz.out, hF3, hbel.drew.trans (hbel3 _ (Nat.le_refl _))⟩, rfl⟩
        · show (4 - 2 : Nat) < 4 - 1
          decide
    by_cases hm : m = 2
    · subst hm
      clear hm1 hm2 hm3
      rw [show ((2 : Nat) : Int) = 2 from rfl]
      have hcs : ∀ j, j < 2 * el.length → ([.int .i64 1, .int .i64 0, .int .i64 0, .int .i64 1, .int .i64 0, .int .i64 0] : List Value)[j]? = el[j % el.length]? := by
        intro j hj
        have hj' : j < 6 := hj
        obtain rfl | rfl | rfl | rfl | rfl | rfl : j = 0 ∨ j = 1 ∨ j = 2 ∨ j = 3 ∨ j = 4 ∨ j = 5 := by omega
        all_goals rfl
      have hsrc : ∀ (wx : World), wx.heap = wr.heap → ∀ j v, ([.int .i64 1, .int .i64 0, .int .i64 0, .int .i64 1, .int .i64 0, .int .i64 0] : List Value)[j]? = some v → wx.cell? ((⟨w.heap.size, 0, none⟩ : Addr).add j) = some v := by
        intro wx hx j v hv
        have hj : j < 2 * el.length := by
          have := (List.getElem?_eq_some_iff.1 hv).1
          exact this
        have e1 : Addr.add ⟨w.heap.size, 0, none⟩ j = ⟨w.heap.size, j, none⟩ := by
          unfold Addr.add; split
          · subst_vars; rfl
          · simp
        rw [e1, World.cell?_of_block (w := wr) (by rw [hx]), hB.cell, hF j (by omega), ← hcs j hj]
        exact hv
      have Hcs := Lib.hid hcs
      have Hs2 := Lib.hid hsrc
      have Hsz := Lib.hid hsz
      clear hcs hsrc hsz
      go_wp2_with fail
      go_region_law (refine step_copy_wide rfl (.tmp 41) (.tmp 44) 103 106 rfl i0 Tryd.underlying103 hi w.heap.size 2 2 2 ⟨w.heap.size, 0, none⟩ 2 4 el (by simp [Act.eval, Act.put, el]) (by simp [Act.eval, Act.put]) hz1 cr hB hF [.int .i64 1, .int .i64 0, .int .i64 0, .int .i64 1, .int .i64 0, .int .i64 0] rfl Hcs.out (Hs2.out _ rfl) (by rw [Hsz.out]; decide) (by simp [Value.oneCell']) ?_; intro w3 cur3 hB3 hsz3 hF3 hbel3)
      all_goals
        go_wp2_with fail
        refine ⟨?_, ?_⟩
        · (repeat apply Exists.intro)
          exact ⟨⟨4, cur3, by omega, by omega, by omega, rfl, hB3, hsz3.trans Hsz.out, hF3, hbel.drew.trans (hbel3 _ (Nat.le_refl _))⟩, rfl⟩
        · show (4 - 4 : Nat) < 4 - 2
          decide
    obtain rfl : m = 4 := by omega
    clear hm1 hm2 hm3
    go_wp2_with fail
    go_ret
    exact ⟨w.heap.size, cr, rfl, Nat.le_refl _, hB, hF, hbel⟩

theorem repeat_any (n : Nat) (h1 : 1 ≤ n) (h4 : n ≤ 4) (w : World) (b : Nat) (hb : Blk w b el.toArray 106) :
    Calls Tryd.prog 82 #[.slice (some ⟨b, 0, none⟩) 1 1, .int .i64 n] w (Repeated n w) := by
  obtain rfl | rfl | rfl | rfl : n = 1 ∨ n = 2 ∨ n = 3 ∨ n = 4 := by omega
  · exact rep1 w b hb
  · exact rep2 w b hb
  · exact rep3 w b hb
  · exact rep4 w b hb
end Go.Proofs.YtgkfgijmccojjaaDoor.Split
