import Derived.Test.YtgkfgijmccojjaaDoorMach
namespace Go.Proofs.YtgkfgijmccojjaaDoor.MBarrier
open Go.RowKit
set_option linter.unusedVariables false

set_option maxHeartbeats 4000000 in
set_option maxRecDepth 100000 in
theorem l1 {w : World} {A : Nat → Prop} {n p : Nat} {v : Value} {m : MS} (h : MRep w A n (2) 2 v m) (hA : ∀ k, w.heap.size ≤ k → A k) (hp : p < n) (hn : n ≤ 4) (hl : m.at_ p = 1) (hb : -1 ≤ m.ow p 1 ∧ m.ow p 1 ≤ 100000) (hb2 : 0 ≤ m.ow p 0 ∧ m.ow p 0 ≤ 1) (hb3 : 0 ≤ m.wd 0 ∧ m.wd 0 ≤ 4)  :
    Calls Tryd.prog 29 #[v, .int .i64 p] w (Next A n (2) 2 (goes1 (word1 (own1 m p 0 (1 - m.ow p 0)) (0) (m.wd 0 - 1)) p (m.wd 0 - 1 == 0) (4)) w) := by
  obtain ⟨b, rfl, h⟩ := h
  have HC := Lib.hid ((boxed w n (2) b).cx h hA (by omega) (by omega))
  have hpn : (p : Int) < n := by omega
  have hn0 : (1 : Int) ≤ n := by omega
  have Hl := Lib.hid hl
  have hb0 := hb.1
  have hb1 := hb.2
  have hb4 := hb2.1
  have hb5 := hb2.2
  have hb6 := hb3.1
  have hb7 := hb3.2
  clear hb hb2 hb3
  clear h hA hl
  unfold MB.val
  go_enter Tryd.func29, Tryd.ntmps29
  go_upto_region 1 with fail
  generalize (w.alloc (.cells #[.int .i64 n, .slice (some ⟨b.bW, 0, none⟩) (2) b.cW, .slice (some ⟨b.bA, 0, none⟩) n b.cA, .slice (some ⟨b.bO, 0, none⟩) n b.cO] 27)).alloc
    (.cells #[.int .i64 0, .slice none 0 0, .slice none 0 0, .slice none 0 0] 27) = wx at HC ⊢
  have cL := HC.out.line p hp
  rw [Hl.out] at cL
  have d0 := HC.out.c0
  have d1 := HC.out.c1
  have d2 := HC.out.c2
  have d3 := HC.out.c3
  have r0 := HC.out.row p hp
  have r1 := HC.out.num p 0 hp (by omega)
  have r2 := HC.out.num p 1 hp (by omega)
  go_wp2_with fail
  have n0 := World.new_ne wx _ d0
  have n4 := World.new_ne wx _ r0
  have n6 := World.new_ne wx _ r2
  have iw : IntKind.i64.wrap (m.ow p 1 + 1) = m.ow p 1 + 1 := IntWalk.i64_in _ (by omega)
  have HS : Hid (w.heap.size + 2 ≤ wx.heap.size) := by have := HC.out.held.lt; exact this
  have Hin : Hid (MBlk (wx.alloc (.cells #[.int .i64 0, .slice none 0 0, .slice none 0 0, .slice none 0 0] 27)).drew (fun k => (A k ∧ k ≠ w.heap.size ∧ k ≠ w.heap.size + 1) ∧ k ≠ wx.heap.size) n 2 2 b m) :=
    (((HC.out.mach.inside (by omega) (by omega)).weak (fun k hk => ⟨hk.1, Nat.ne_of_lt hk.2⟩)).below ((Below.refl _ _).alloc (Nat.le_refl _) _)).drew
  have Hnew : Hid (∀ k, (wx.alloc (.cells #[.int .i64 0, .slice none 0 0, .slice none 0 0, .slice none 0 0] 27)).drew.heap.size ≤ k → (A k ∧ k ≠ w.heap.size ∧ k ≠ w.heap.size + 1) ∧ k ≠ wx.heap.size) :=
    fun k hk => by
      have hk' : wx.heap.size + 1 ≤ k := by simpa using hk
      exact ⟨HC.out.new k (by omega), by omega⟩
  replace HC := Lib.hid HC.out.drew
  go_region_held3 (fun w' => w'.cell? ⟨w.heap.size, 0, none⟩ = some (.int .i64 n) ∧ w'.cell? ⟨w.heap.size, 1, none⟩ = some (.slice (some ⟨b.bW, 0, none⟩) 2 b.cW) ∧ w'.cell? ⟨w.heap.size, 2, none⟩ = some (.slice (some ⟨b.bA, 0, none⟩) n b.cA) ∧ w'.cell? ⟨w.heap.size, 3, none⟩ = some (.slice (some ⟨b.bO, 0, none⟩) n b.cO) ∧ w'.cell? ⟨b.bO, p, none⟩ = some (.slice (some ⟨b.ob p, 0, none⟩) 2 (b.oc p)) ∧ w'.cell? ⟨b.ob p, 1, none⟩ = some (.int .i64 (m.ow p 1))) (first | (with_reducible exact ⟨d0, d1, d2, d3, r0, r2⟩) | go_keep) (first
    | (go_at_call 79; refine (own_any rfl (i := 1) rfl ⟨b, rfl, HC.out.mach⟩ HC.out.new (by omega) (by omega) (by omega) hp (by omega)).mono ?_; rintro e w1 ⟨_, rfl, ⟨b1, rfl, hm1⟩, hbel⟩; replace HC := Lib.hid (HC.out.below hbel); have d0 := HC.out.c0; have d1 := HC.out.c1; have d2 := HC.out.c2; have d3 := HC.out.c3; have r0 := HC.out.row p hp; have r2 := HC.out.num p 1 hp (by omega); have n0 := World.new_ne w1 _ d0; have n4 := World.new_ne w1 _ r0; have n6 := World.new_ne w1 _ r2; unfold MB.val; clear hbel)
    | (go_at_call 79; refine (own_any (A := fun k => (A k ∧ k ≠ w.heap.size ∧ k ≠ w.heap.size + 1) ∧ k ≠ wx.heap.size) rfl (i := 1) rfl ⟨b, rfl, Hin.out⟩ Hnew.out (by omega) (by omega) (by omega) hp (by omega)).mono ?_; rintro e w1 ⟨_, rfl, ⟨b1, rfl, hm1⟩, hbel⟩; have Hin1 := Lib.hid (Hin.out.below hbel); replace HC := Lib.hid ((HC.out.alloc _).below hbel); have d0 := HC.out.c0; have d1 := HC.out.c1; have d2 := HC.out.c2; have d3 := HC.out.c3; have r0 := HC.out.row p hp; have r2 := HC.out.num p 1 hp (by omega); have n0 := World.new_ne w1 _ d0; have n4 := World.new_ne w1 _ r0; have n6 := World.new_ne w1 _ r2; have kT : Blk w1 wx.heap.size #[.int .i64 0, .slice none 0 0, .slice none 0 0, .slice none 0 0] 27 := Blk.below (w := (wx.alloc (.cells #[.int .i64 0, .slice none 0 0, .slice none 0 0, .slice none 0 0] 27)).drew) (Blk.new wx _ _).drew hbel (by simp); have t0 := kT.cell 0; have t1 := kT.cell 1; have t2 := kT.cell 2; have t3 := kT.cell 3; have u0 := kT.free 0; have u1 := kT.free 1; have u2 := kT.free 2; have u3 := kT.free 3; simp only [List.getElem?_toArray, List.getElem?_cons_zero, List.getElem?_cons_succ] at t0 t1 t2 t3; have HT := Lib.hid kT; clear kT; unfold MB.val; clear hbel))
  · have HC1 := Lib.hid (HC.out.alloc (.cells #[.int .i64 n, .slice (some ⟨b1.bW, 0, none⟩) 2 b1.cW, .slice (some ⟨b1.bA, 0, none⟩) n b1.cA, .slice (some ⟨b1.bO, 0, none⟩) n b1.cO] 27))
    have HB := Lib.hid (hm1.below ((Below.refl _ _).alloc (Nat.le_refl _) (.cells #[.int .i64 n, .slice (some ⟨b1.bW, 0, none⟩) 2 b1.cW, .slice (some ⟨b1.bA, 0, none⟩) n b1.cA, .slice (some ⟨b1.bO, 0, none⟩) n b1.cO] 27)))
    have HT := Lib.hid (Blk.new w1 #[.int .i64 n, .slice (some ⟨b1.bW, 0, none⟩) 2 b1.cW, .slice (some ⟨b1.bA, 0, none⟩) n b1.cA, .slice (some ⟨b1.bO, 0, none⟩) n b1.cO] 27)
    clear HC hm1 iw n0 n4 n6
    generalize w1.alloc (.cells #[.int .i64 n, .slice (some ⟨b1.bW, 0, none⟩) 2 b1.cW, .slice (some ⟨b1.bA, 0, none⟩) n b1.cA, .slice (some ⟨b1.bO, 0, none⟩) n b1.cO] 27) = wz at HC1 HB HT ⊢
    generalize w1.heap.size = T at HT ⊢
    have HC := HC1
    clear HC1 Hin Hnew HS
    have t0 := HT.out.cell 0
    have t1 := HT.out.cell 1
    have t2 := HT.out.cell 2
    have t3 := HT.out.cell 3
    simp only [List.getElem?_toArray, List.getElem?_cons_zero, List.getElem?_cons_succ] at t0 t1 t2 t3
    have cL := HC.out.line p hp
    rw [Hl.out] at cL
    have d0 := HC.out.c0
    have d1 := HC.out.c1
    have d2 := HC.out.c2
    have d3 := HC.out.c3
    have w0 := HC.out.word 0 (by omega)
    have w1' := HC.out.word 1 (by omega)
    go_wp2_with fail
    refine (own_any rfl (i := 0) rfl ⟨b, rfl, HC.out.mach⟩ HC.out.new (by omega) (by omega) (by omega) hp (by omega)).mono ?_
    rintro e w1 ⟨v1, rfl, h1, hbel⟩
    replace HC := Lib.hid (HC.out.below hbel)
    clear hbel
    go_wp2_with fail
    refine (word_any (i := 0) (rfl) h1 HC.out.new (by omega) (by omega) (by omega)).mono ?_
    rintro e w2 ⟨v2, rfl, h2, hbel⟩
    replace HC := Lib.hid (HC.out.below hbel)
    clear hbel
    go_wp2_with fail
    refine (goes_any _ (p := p) rfl h2 HC.out.new (by omega) (by omega) hp (show 0 ≤ m.at_ p ∧ m.at_ p ≤ 100 by rw [Hl.out]; omega)).mono ?_
    rintro e w3 ⟨_, rfl, ⟨b', rfl, hm'⟩, hbel⟩
    replace HC := Lib.hid (HC.out.below hbel)
    have q0 := HC.out.o0
    have q1 := HC.out.o1
    have q2 := HC.out.o2
    have q3 := HC.out.o3
    have f2 := HC.out.f 0
    have f3 := HC.out.f 1
    have f4 := HC.out.f 2
    have f5 := HC.out.f 3
    unfold MB.val
    clear hbel
    go_wp2_with fail
    exact HC.out.ret hm' rfl rfl rfl
  · have HC1 := Lib.hid (HC.out.put4 Hin1.out HS.out (.int .i64 n) (.slice (some ⟨b1.bW, 0, none⟩) 2 b1.cW) (.slice (some ⟨b1.bA, 0, none⟩) n b1.cA) (.slice (some ⟨b1.bO, 0, none⟩) n b1.cO))
    have HB := Lib.hid (hm1.put4 (.int .i64 n) (.slice (some ⟨b1.bW, 0, none⟩) 2 b1.cW) (.slice (some ⟨b1.bA, 0, none⟩) n b1.cA) (.slice (some ⟨b1.bO, 0, none⟩) n b1.cO))
    replace HT := Lib.hid (out4 HT.out (.int .i64 n) (.slice (some ⟨b1.bW, 0, none⟩) 2 b1.cW) (.slice (some ⟨b1.bA, 0, none⟩) n b1.cA) (.slice (some ⟨b1.bO, 0, none⟩) n b1.cO))
    clear HC hm1 iw n0 n4 n6 Hin1 t0 t1 t2 t3 u0 u1 u2 u3
    generalize ((((w1.setCell ⟨wx.heap.size, 0, none⟩ (.int .i64 n)).setCell ⟨wx.heap.size, 1, none⟩ (.slice (some ⟨b1.bW, 0, none⟩) 2 b1.cW)).setCell ⟨wx.heap.size, 2, none⟩ (.slice (some ⟨b1.bA, 0, none⟩) n b1.cA)).setCell ⟨wx.heap.size, 3, none⟩ (.slice (some ⟨b1.bO, 0, none⟩) n b1.cO)) = wz at HC1 HB HT ⊢
    generalize wx.heap.size = T at HT ⊢
    have HC := HC1
    clear HC1 Hin Hnew HS
    have t0 := HT.out.cell 0
    have t1 := HT.out.cell 1
    have t2 := HT.out.cell 2
    have t3 := HT.out.cell 3
    simp only [List.getElem?_toArray, List.getElem?_cons_zero, List.getElem?_cons_succ] at t0 t1 t2 t3
    have cL := HC.out.line p hp
    rw [Hl.out] at cL
    have d0 := HC.out.c0
    have d1 := HC.out.c1
    have d2 := HC.out.c2
    have d3 := HC.out.c3
    have w0 := HC.out.word 0 (by omega)
    have w1' := HC.out.word 1 (by omega)
    go_wp2_with fail
    refine (own_any rfl (i := 0) rfl ⟨b, rfl, HC.out.mach⟩ HC.out.new (by omega) (by omega) (by omega) hp (by omega)).mono ?_
    rintro e w1 ⟨v1, rfl, h1, hbel⟩
    replace HC := Lib.hid (HC.out.below hbel)
    clear hbel
    go_wp2_with fail
    refine (word_any (i := 0) (rfl) h1 HC.out.new (by omega) (by omega) (by omega)).mono ?_
    rintro e w2 ⟨v2, rfl, h2, hbel⟩
    replace HC := Lib.hid (HC.out.below hbel)
    clear hbel
    go_wp2_with fail
    refine (goes_any _ (p := p) rfl h2 HC.out.new (by omega) (by omega) hp (show 0 ≤ m.at_ p ∧ m.at_ p ≤ 100 by rw [Hl.out]; omega)).mono ?_
    rintro e w3 ⟨_, rfl, ⟨b', rfl, hm'⟩, hbel⟩
    replace HC := Lib.hid (HC.out.below hbel)
    have q0 := HC.out.o0
    have q1 := HC.out.o1
    have q2 := HC.out.o2
    have q3 := HC.out.o3
    have f2 := HC.out.f 0
    have f3 := HC.out.f 1
    have f4 := HC.out.f 2
    have f5 := HC.out.f 3
    unfold MB.val
    clear hbel
    go_wp2_with fail
    exact HC.out.ret hm' rfl rfl rfl

set_option maxHeartbeats 4000000 in
set_option maxRecDepth 100000 in
theorem l2 {w : World} {A : Nat → Prop} {n p : Nat} {v : Value} {m : MS} (h : MRep w A n (2) 2 v m) (hA : ∀ k, w.heap.size ≤ k → A k) (hp : p < n) (hn : n ≤ 4) (hl : m.at_ p = 2) (hb : -1 ≤ m.ow p 1 ∧ m.ow p 1 ≤ 100000) (hb2 : 0 ≤ m.ow p 0 ∧ m.ow p 0 ≤ 1) (hb3 : 0 ≤ m.wd 0 ∧ m.wd 0 ≤ 4)  :
    Calls Tryd.prog 29 #[v, .int .i64 p] w (Next A n (2) 2 (to1 (word1 m (0) ((n : Int))) p (3)) w) := by
  obtain ⟨b, rfl, h⟩ := h
  have HC := Lib.hid ((boxed w n (2) b).cx h hA (by omega) (by omega))
  have hpn : (p : Int) < n := by omega
  have hn0 : (1 : Int) ≤ n := by omega
  have Hl := Lib.hid hl
  have hb0 := hb.1
  have hb1 := hb.2
  have hb4 := hb2.1
  have hb5 := hb2.2
  have hb6 := hb3.1
  have hb7 := hb3.2
  clear hb hb2 hb3
  clear h hA hl
  unfold MB.val
  go_enter Tryd.func29, Tryd.ntmps29
  go_upto_region 1 with fail
  generalize (w.alloc (.cells #[.int .i64 n, .slice (some ⟨b.bW, 0, none⟩) (2) b.cW, .slice (some ⟨b.bA, 0, none⟩) n b.cA, .slice (some ⟨b.bO, 0, none⟩) n b.cO] 27)).alloc
    (.cells #[.int .i64 0, .slice none 0 0, .slice none 0 0, .slice none 0 0] 27) = wx at HC ⊢
  have cL := HC.out.line p hp
  rw [Hl.out] at cL
  have d0 := HC.out.c0
  have d1 := HC.out.c1
  have d2 := HC.out.c2
  have d3 := HC.out.c3
  have r0 := HC.out.row p hp
  have r1 := HC.out.num p 0 hp (by omega)
  have r2 := HC.out.num p 1 hp (by omega)
  go_wp2_with fail
  have n0 := World.new_ne wx _ d0
  have n4 := World.new_ne wx _ r0
  have n6 := World.new_ne wx _ r2
  have iw : IntKind.i64.wrap (m.ow p 1 + 1) = m.ow p 1 + 1 := IntWalk.i64_in _ (by omega)
  have HS : Hid (w.heap.size + 2 ≤ wx.heap.size) := by have := HC.out.held.lt; exact this
  have Hin : Hid (MBlk (wx.alloc (.cells #[.int .i64 0, .slice none 0 0, .slice none 0 0, .slice none 0 0] 27)).drew (fun k => (A k ∧ k ≠ w.heap.size ∧ k ≠ w.heap.size + 1) ∧ k ≠ wx.heap.size) n 2 2 b m) :=
    (((HC.out.mach.inside (by omega) (by omega)).weak (fun k hk => ⟨hk.1, Nat.ne_of_lt hk.2⟩)).below ((Below.refl _ _).alloc (Nat.le_refl _) _)).drew
  have Hnew : Hid (∀ k, (wx.alloc (.cells #[.int .i64 0, .slice none 0 0, .slice none 0 0, .slice none 0 0] 27)).drew.heap.size ≤ k → (A k ∧ k ≠ w.heap.size ∧ k ≠ w.heap.size + 1) ∧ k ≠ wx.heap.size) :=
    fun k hk => by
      have hk' : wx.heap.size + 1 ≤ k := by simpa using hk
      exact ⟨HC.out.new k (by omega), by omega⟩
  replace HC := Lib.hid HC.out.drew
  go_region_held3 (fun w' => w'.cell? ⟨w.heap.size, 0, none⟩ = some (.int .i64 n) ∧ w'.cell? ⟨w.heap.size, 1, none⟩ = some (.slice (some ⟨b.bW, 0, none⟩) 2 b.cW) ∧ w'.cell? ⟨w.heap.size, 2, none⟩ = some (.slice (some ⟨b.bA, 0, none⟩) n b.cA) ∧ w'.cell? ⟨w.heap.size, 3, none⟩ = some (.slice (some ⟨b.bO, 0, none⟩) n b.cO) ∧ w'.cell? ⟨b.bO, p, none⟩ = some (.slice (some ⟨b.ob p, 0, none⟩) 2 (b.oc p)) ∧ w'.cell? ⟨b.ob p, 1, none⟩ = some (.int .i64 (m.ow p 1))) (first | (with_reducible exact ⟨d0, d1, d2, d3, r0, r2⟩) | go_keep) (first
    | (go_at_call 79; refine (own_any rfl (i := 1) rfl ⟨b, rfl, HC.out.mach⟩ HC.out.new (by omega) (by omega) (by omega) hp (by omega)).mono ?_; rintro e w1 ⟨_, rfl, ⟨b1, rfl, hm1⟩, hbel⟩; replace HC := Lib.hid (HC.out.below hbel); have d0 := HC.out.c0; have d1 := HC.out.c1; have d2 := HC.out.c2; have d3 := HC.out.c3; have r0 := HC.out.row p hp; have r2 := HC.out.num p 1 hp (by omega); have n0 := World.new_ne w1 _ d0; have n4 := World.new_ne w1 _ r0; have n6 := World.new_ne w1 _ r2; unfold MB.val; clear hbel)
    | (go_at_call 79; refine (own_any (A := fun k => (A k ∧ k ≠ w.heap.size ∧ k ≠ w.heap.size + 1) ∧ k ≠ wx.heap.size) rfl (i := 1) rfl ⟨b, rfl, Hin.out⟩ Hnew.out (by omega) (by omega) (by omega) hp (by omega)).mono ?_; rintro e w1 ⟨_, rfl, ⟨b1, rfl, hm1⟩, hbel⟩; have Hin1 := Lib.hid (Hin.out.below hbel); replace HC := Lib.hid ((HC.out.alloc _).below hbel); have d0 := HC.out.c0; have d1 := HC.out.c1; have d2 := HC.out.c2; have d3 := HC.out.c3; have r0 := HC.out.row p hp; have r2 := HC.out.num p 1 hp (by omega); have n0 := World.new_ne w1 _ d0; have n4 := World.new_ne w1 _ r0; have n6 := World.new_ne w1 _ r2; have kT : Blk w1 wx.heap.size #[.int .i64 0, .slice none 0 0, .slice none 0 0, .slice none 0 0] 27 := Blk.below (w := (wx.alloc (.cells #[.int .i64 0, .slice none 0 0, .slice none 0 0, .slice none 0 0] 27)).drew) (Blk.new wx _ _).drew hbel (by simp); have t0 := kT.cell 0; have t1 := kT.cell 1; have t2 := kT.cell 2; have t3 := kT.cell 3; have u0 := kT.free 0; have u1 := kT.free 1; have u2 := kT.free 2; have u3 := kT.free 3; simp only [List.getElem?_toArray, List.getElem?_cons_zero, List.getElem?_cons_succ] at t0 t1 t2 t3; have HT := Lib.hid kT; clear kT; unfold MB.val; clear hbel))
  · have HC1 := Lib.hid (HC.out.alloc (.cells #[.int .i64 n, .slice (some ⟨b1.bW, 0, none⟩) 2 b1.cW, .slice (some ⟨b1.bA, 0, none⟩) n b1.cA, .slice (some ⟨b1.bO, 0, none⟩) n b1.cO] 27))
    have HB := Lib.hid (hm1.below ((Below.refl _ _).alloc (Nat.le_refl _) (.cells #[.int .i64 n, .slice (some ⟨b1.bW, 0, none⟩) 2 b1.cW, .slice (some ⟨b1.bA, 0, none⟩) n b1.cA, .slice (some ⟨b1.bO, 0, none⟩) n b1.cO] 27)))
    have HT := Lib.hid (Blk.new w1 #[.int .i64 n, .slice (some ⟨b1.bW, 0, none⟩) 2 b1.cW, .slice (some ⟨b1.bA, 0, none⟩) n b1.cA, .slice (some ⟨b1.bO, 0, none⟩) n b1.cO] 27)
    clear HC hm1 iw n0 n4 n6
    generalize w1.alloc (.cells #[.int .i64 n, .slice (some ⟨b1.bW, 0, none⟩) 2 b1.cW, .slice (some ⟨b1.bA, 0, none⟩) n b1.cA, .slice (some ⟨b1.bO, 0, none⟩) n b1.cO] 27) = wz at HC1 HB HT ⊢
    generalize w1.heap.size = T at HT ⊢
    have HC := HC1
    clear HC1 Hin Hnew HS
    have t0 := HT.out.cell 0
    have t1 := HT.out.cell 1
    have t2 := HT.out.cell 2
    have t3 := HT.out.cell 3
    simp only [List.getElem?_toArray, List.getElem?_cons_zero, List.getElem?_cons_succ] at t0 t1 t2 t3
    have cL := HC.out.line p hp
    rw [Hl.out] at cL
    have d0 := HC.out.c0
    have d1 := HC.out.c1
    have d2 := HC.out.c2
    have d3 := HC.out.c3
    have w0 := HC.out.word 0 (by omega)
    have w1' := HC.out.word 1 (by omega)
    go_wp2_with fail
    refine (word_any (i := 0) (rfl) ⟨b, rfl, HC.out.mach⟩ HC.out.new (by omega) (by omega) (by omega)).mono ?_
    rintro e w1 ⟨v1, rfl, h1, hbel⟩
    replace HC := Lib.hid (HC.out.below hbel)
    clear hbel
    go_wp2_with fail
    refine (to_any (p := p) rfl h1 HC.out.new (by omega) (by omega) hp).mono ?_
    rintro e w2 ⟨_, rfl, ⟨b', rfl, hm'⟩, hbel⟩
    replace HC := Lib.hid (HC.out.below hbel)
    have q0 := HC.out.o0
    have q1 := HC.out.o1
    have q2 := HC.out.o2
    have q3 := HC.out.o3
    have f2 := HC.out.f 0
    have f3 := HC.out.f 1
    have f4 := HC.out.f 2
    have f5 := HC.out.f 3
    unfold MB.val
    clear hbel
    go_wp2_with fail
    exact HC.out.ret hm' rfl rfl rfl
  · have HC1 := Lib.hid (HC.out.put4 Hin1.out HS.out (.int .i64 n) (.slice (some ⟨b1.bW, 0, none⟩) 2 b1.cW) (.slice (some ⟨b1.bA, 0, none⟩) n b1.cA) (.slice (some ⟨b1.bO, 0, none⟩) n b1.cO))
    have HB := Lib.hid (hm1.put4 (.int .i64 n) (.slice (some ⟨b1.bW, 0, none⟩) 2 b1.cW) (.slice (some ⟨b1.bA, 0, none⟩) n b1.cA) (.slice (some ⟨b1.bO, 0, none⟩) n b1.cO))
    replace HT := Lib.hid (out4 HT.out (.int .i64 n) (.slice (some ⟨b1.bW, 0, none⟩) 2 b1.cW) (.slice (some ⟨b1.bA, 0, none⟩) n b1.cA) (.slice (some ⟨b1.bO, 0, none⟩) n b1.cO))
    clear HC hm1 iw n0 n4 n6 Hin1 t0 t1 t2 t3 u0 u1 u2 u3
    generalize ((((w1.setCell ⟨wx.heap.size, 0, none⟩ (.int .i64 n)).setCell ⟨wx.heap.size, 1, none⟩ (.slice (some ⟨b1.bW, 0, none⟩) 2 b1.cW)).setCell ⟨wx.heap.size, 2, none⟩ (.slice (some ⟨b1.bA, 0, none⟩) n b1.cA)).setCell ⟨wx.heap.size, 3, none⟩ (.slice (some ⟨b1.bO, 0, none⟩) n b1.cO)) = wz at HC1 HB HT ⊢
    generalize wx.heap.size = T at HT ⊢
    have HC := HC1
    clear HC1 Hin Hnew HS
    have t0 := HT.out.cell 0
    have t1 := HT.out.cell 1
    have t2 := HT.out.cell 2
    have t3 := HT.out.cell 3
    simp only [List.getElem?_toArray, List.getElem?_cons_zero, List.getElem?_cons_succ] at t0 t1 t2 t3
    have cL := HC.out.line p hp
    rw [Hl.out] at cL
    have d0 := HC.out.c0
    have d1 := HC.out.c1
    have d2 := HC.out.c2
    have d3 := HC.out.c3
    have w0 := HC.out.word 0 (by omega)
    have w1' := HC.out.word 1 (by omega)
    go_wp2_with fail
    refine (word_any (i := 0) (rfl) ⟨b, rfl, HC.out.mach⟩ HC.out.new (by omega) (by omega) (by omega)).mono ?_
    rintro e w1 ⟨v1, rfl, h1, hbel⟩
    replace HC := Lib.hid (HC.out.below hbel)
    clear hbel
    go_wp2_with fail
    refine (to_any (p := p) rfl h1 HC.out.new (by omega) (by omega) hp).mono ?_
    rintro e w2 ⟨_, rfl, ⟨b', rfl, hm'⟩, hbel⟩
    replace HC := Lib.hid (HC.out.below hbel)
    have q0 := HC.out.o0
    have q1 := HC.out.o1
    have q2 := HC.out.o2
    have q3 := HC.out.o3
    have f2 := HC.out.f 0
    have f3 := HC.out.f 1
    have f4 := HC.out.f 2
    have f5 := HC.out.f 3
    unfold MB.val
    clear hbel
    go_wp2_with fail
    exact HC.out.ret hm' rfl rfl rfl

set_option maxHeartbeats 4000000 in
set_option maxRecDepth 100000 in
theorem l3 {w : World} {A : Nat → Prop} {n p : Nat} {v : Value} {m : MS} (h : MRep w A n (2) 2 v m) (hA : ∀ k, w.heap.size ≤ k → A k) (hp : p < n) (hn : n ≤ 4) (hl : m.at_ p = 3) (hb : -1 ≤ m.ow p 1 ∧ m.ow p 1 ≤ 100000) (hb2 : 0 ≤ m.ow p 0 ∧ m.ow p 0 ≤ 1) (hb3 : 0 ≤ m.wd 0 ∧ m.wd 0 ≤ 4)  :
    Calls Tryd.prog 29 #[v, .int .i64 p] w (Next A n (2) 2 (to1 (word1 (own1 m p 1 (m.ow p 1 + 1)) (1) (m.ow p 0)) p (1)) w) := by
  obtain ⟨b, rfl, h⟩ := h
  have HC := Lib.hid ((boxed w n (2) b).cx h hA (by omega) (by omega))
  have hpn : (p : Int) < n := by omega
  have hn0 : (1 : Int) ≤ n := by omega
  have Hl := Lib.hid hl
  have hb0 := hb.1
  have hb1 := hb.2
  have hb4 := hb2.1
  have hb5 := hb2.2
  have hb6 := hb3.1
  have hb7 := hb3.2
  clear hb hb2 hb3
  clear h hA hl
  unfold MB.val
  go_enter Tryd.func29, Tryd.ntmps29
  go_upto_region 1 with fail
  generalize (w.alloc (.cells #[.int .i64 n, .slice (some ⟨b.bW, 0, none⟩) (2) b.cW, .slice (some ⟨b.bA, 0, none⟩) n b.cA, .slice (some ⟨b.bO, 0, none⟩) n b.cO] 27)).alloc
    (.cells #[.int .i64 0, .slice none 0 0, .slice none 0 0, .slice none 0 0] 27) = wx at HC ⊢
  have cL := HC.out.line p hp
  rw [Hl.out] at cL
  have d0 := HC.out.c0
  have d1 := HC.out.c1
  have d2 := HC.out.c2
  have d3 := HC.out.c3
  have r0 := HC.out.row p hp
  have r1 := HC.out.num p 0 hp (by omega)
  have r2 := HC.out.num p 1 hp (by omega)
  go_wp2_with fail
  have n0 := World.new_ne wx _ d0
  have n4 := World.new_ne wx _ r0
  have n6 := World.new_ne wx _ r2
  have iw : IntKind.i64.wrap (m.ow p 1 + 1) = m.ow p 1 + 1 := IntWalk.i64_in _ (by omega)
  have HS : Hid (w.heap.size + 2 ≤ wx.heap.size) := by have := HC.out.held.lt; exact this
  have Hin : Hid (MBlk (wx.alloc (.cells #[.int .i64 0, .slice none 0 0, .slice none 0 0, .slice none 0 0] 27)).drew (fun k => (A k ∧ k ≠ w.heap.size ∧ k ≠ w.heap.size + 1) ∧ k ≠ wx.heap.size) n 2 2 b m) :=
    (((HC.out.mach.inside (by omega) (by omega)).weak (fun k hk => ⟨hk.1, Nat.ne_of_lt hk.2⟩)).below ((Below.refl _ _).alloc (Nat.le_refl _) _)).drew
  have Hnew : Hid (∀ k, (wx.alloc (.cells #[.int .i64 0, .slice none 0 0, .slice none 0 0, .slice none 0 0] 27)).drew.heap.size ≤ k → (A k ∧ k ≠ w.heap.size ∧ k ≠ w.heap.size + 1) ∧ k ≠ wx.heap.size) :=
    fun k hk => by
      have hk' : wx.heap.size + 1 ≤ k := by simpa using hk
      exact ⟨HC.out.new k (by omega), by omega⟩
  replace HC := Lib.hid HC.out.drew
  go_region_held3 (fun w' => w'.cell? ⟨w.heap.size, 0, none⟩ = some (.int .i64 n) ∧ w'.cell? ⟨w.heap.size, 1, none⟩ = some (.slice (some ⟨b.bW, 0, none⟩) 2 b.cW) ∧ w'.cell? ⟨w.heap.size, 2, none⟩ = some (.slice (some ⟨b.bA, 0, none⟩) n b.cA) ∧ w'.cell? ⟨w.heap.size, 3, none⟩ = some (.slice (some ⟨b.bO, 0, none⟩) n b.cO) ∧ w'.cell? ⟨b.bO, p, none⟩ = some (.slice (some ⟨b.ob p, 0, none⟩) 2 (b.oc p)) ∧ w'.cell? ⟨b.ob p, 1, none⟩ = some (.int .i64 (m.ow p 1))) (first | (with_reducible exact ⟨d0, d1, d2, d3, r0, r2⟩) | go_keep) (first
    | (go_at_call 79; refine (own_any rfl (i := 1) rfl ⟨b, rfl, HC.out.mach⟩ HC.out.new (by omega) (by omega) (by omega) hp (by omega)).mono ?_; rintro e w1 ⟨_, rfl, ⟨b1, rfl, hm1⟩, hbel⟩; replace HC := Lib.hid (HC.out.below hbel); have d0 := HC.out.c0; have d1 := HC.out.c1; have d2 := HC.out.c2; have d3 := HC.out.c3; have r0 := HC.out.row p hp; have r2 := HC.out.num p 1 hp (by omega); have n0 := World.new_ne w1 _ d0; have n4 := World.new_ne w1 _ r0; have n6 := World.new_ne w1 _ r2; unfold MB.val; clear hbel)
    | (go_at_call 79; refine (own_any (A := fun k => (A k ∧ k ≠ w.heap.size ∧ k ≠ w.heap.size + 1) ∧ k ≠ wx.heap.size) rfl (i := 1) rfl ⟨b, rfl, Hin.out⟩ Hnew.out (by omega) (by omega) (by omega) hp (by omega)).mono ?_; rintro e w1 ⟨_, rfl, ⟨b1, rfl, hm1⟩, hbel⟩; have Hin1 := Lib.hid (Hin.out.below hbel); replace HC := Lib.hid ((HC.out.alloc _).below hbel); have d0 := HC.out.c0; have d1 := HC.out.c1; have d2 := HC.out.c2; have d3 := HC.out.c3; have r0 := HC.out.row p hp; have r2 := HC.out.num p 1 hp (by omega); have n0 := World.new_ne w1 _ d0; have n4 := World.new_ne w1 _ r0; have n6 := World.new_ne w1 _ r2; have kT : Blk w1 wx.heap.size #[.int .i64 0, .slice none 0 0, .slice none 0 0, .slice none 0 0] 27 := Blk.below (w := (wx.alloc (.cells #[.int .i64 0, .slice none 0 0, .slice none 0 0, .slice none 0 0] 27)).drew) (Blk.new wx _ _).drew hbel (by simp); have t0 := kT.cell 0; have t1 := kT.cell 1; have t2 := kT.cell 2; have t3 := kT.cell 3; have u0 := kT.free 0; have u1 := kT.free 1; have u2 := kT.free 2; have u3 := kT.free 3; simp only [List.getElem?_toArray, List.getElem?_cons_zero, List.getElem?_cons_succ] at t0 t1 t2 t3; have HT := Lib.hid kT; clear kT; unfold MB.val; clear hbel))
  · have HC1 := Lib.hid (HC.out.alloc (.cells #[.int .i64 n, .slice (some ⟨b1.bW, 0, none⟩) 2 b1.cW, .slice (some ⟨b1.bA, 0, none⟩) n b1.cA, .slice (some ⟨b1.bO, 0, none⟩) n b1.cO] 27))
    have HB := Lib.hid (hm1.below ((Below.refl _ _).alloc (Nat.le_refl _) (.cells #[.int .i64 n, .slice (some ⟨b1.bW, 0, none⟩) 2 b1.cW, .slice (some ⟨b1.bA, 0, none⟩) n b1.cA, .slice (some ⟨b1.bO, 0, none⟩) n b1.cO] 27)))
    have HT := Lib.hid (Blk.new w1 #[.int .i64 n, .slice (some ⟨b1.bW, 0, none⟩) 2 b1.cW, .slice (some ⟨b1.bA, 0, none⟩) n b1.cA, .slice (some ⟨b1.bO, 0, none⟩) n b1.cO] 27)
    clear HC hm1 iw n0 n4 n6
    generalize w1.alloc (.cells #[.int .i64 n, .slice (some ⟨b1.bW, 0, none⟩) 2 b1.cW, .slice (some ⟨b1.bA, 0, none⟩) n b1.cA, .slice (some ⟨b1.bO, 0, none⟩) n b1.cO] 27) = wz at HC1 HB HT ⊢
    generalize w1.heap.size = T at HT ⊢
    have HC := HC1
    clear HC1 Hin Hnew HS
    have t0 := HT.out.cell 0
    have t1 := HT.out.cell 1
    have t2 := HT.out.cell 2
    have t3 := HT.out.cell 3
    simp only [List.getElem?_toArray, List.getElem?_cons_zero, List.getElem?_cons_succ] at t0 t1 t2 t3
    have cL := HC.out.line p hp
    rw [Hl.out] at cL
    have d0 := HC.out.c0
    have d1 := HC.out.c1
    have d2 := HC.out.c2
    have d3 := HC.out.c3
    have w0 := HC.out.word 0 (by omega)
    have w1' := HC.out.word 1 (by omega)
    go_wp2_with fail
    refine (word_any (i := 1) (rfl) ⟨b1, rfl, HB.out⟩ HC.out.new (by omega) (by omega) (by omega)).mono ?_
    rintro e w1 ⟨v1, rfl, h1, hbel⟩
    replace HC := Lib.hid (HC.out.below hbel)
    clear hbel
    go_wp2_with fail
    refine (to_any (p := p) rfl h1 HC.out.new (by omega) (by omega) hp).mono ?_
    rintro e w2 ⟨_, rfl, ⟨b', rfl, hm'⟩, hbel⟩
    replace HC := Lib.hid (HC.out.below hbel)
    have q0 := HC.out.o0
    have q1 := HC.out.o1
    have q2 := HC.out.o2
    have q3 := HC.out.o3
    have f2 := HC.out.f 0
    have f3 := HC.out.f 1
    have f4 := HC.out.f 2
    have f5 := HC.out.f 3
    unfold MB.val
    clear hbel
    go_wp2_with fail
    exact HC.out.ret hm' rfl rfl rfl
  · have HC1 := Lib.hid (HC.out.put4 Hin1.out HS.out (.int .i64 n) (.slice (some ⟨b1.bW, 0, none⟩) 2 b1.cW) (.slice (some ⟨b1.bA, 0, none⟩) n b1.cA) (.slice (some ⟨b1.bO, 0, none⟩) n b1.cO))
    have HB := Lib.hid (hm1.put4 (.int .i64 n) (.slice (some ⟨b1.bW, 0, none⟩) 2 b1.cW) (.slice (some ⟨b1.bA, 0, none⟩) n b1.cA) (.slice (some ⟨b1.bO, 0, none⟩) n b1.cO))
    replace HT := Lib.hid (out4 HT.out (.int .i64 n) (.slice (some ⟨b1.bW, 0, none⟩) 2 b1.cW) (.slice (some ⟨b1.bA, 0, none⟩) n b1.cA) (.slice (some ⟨b1.bO, 0, none⟩) n b1.cO))
    clear HC hm1 iw n0 n4 n6 Hin1 t0 t1 t2 t3 u0 u1 u2 u3
    generalize ((((w1.setCell ⟨wx.heap.size, 0, none⟩ (.int .i64 n)).setCell ⟨wx.heap.size, 1, none⟩ (.slice (some ⟨b1.bW, 0, none⟩) 2 b1.cW)).setCell ⟨wx.heap.size, 2, none⟩ (.slice (some ⟨b1.bA, 0, none⟩) n b1.cA)).setCell ⟨wx.heap.size, 3, none⟩ (.slice (some ⟨b1.bO, 0, none⟩) n b1.cO)) = wz at HC1 HB HT ⊢
    generalize wx.heap.size = T at HT ⊢
    have HC := HC1
    clear HC1 Hin Hnew HS
    have t0 := HT.out.cell 0
    have t1 := HT.out.cell 1
    have t2 := HT.out.cell 2
    have t3 := HT.out.cell 3
    simp only [List.getElem?_toArray, List.getElem?_cons_zero, List.getElem?_cons_succ] at t0 t1 t2 t3
    have cL := HC.out.line p hp
    rw [Hl.out] at cL
    have d0 := HC.out.c0
    have d1 := HC.out.c1
    have d2 := HC.out.c2
    have d3 := HC.out.c3
    have w0 := HC.out.word 0 (by omega)
    have w1' := HC.out.word 1 (by omega)
    go_wp2_with fail
    refine (word_any (i := 1) (rfl) ⟨b1, rfl, HB.out⟩ HC.out.new (by omega) (by omega) (by omega)).mono ?_
    rintro e w1 ⟨v1, rfl, h1, hbel⟩
    replace HC := Lib.hid (HC.out.below hbel)
    clear hbel
    go_wp2_with fail
    refine (to_any (p := p) rfl h1 HC.out.new (by omega) (by omega) hp).mono ?_
    rintro e w2 ⟨_, rfl, ⟨b', rfl, hm'⟩, hbel⟩
    replace HC := Lib.hid (HC.out.below hbel)
    have q0 := HC.out.o0
    have q1 := HC.out.o1
    have q2 := HC.out.o2
    have q3 := HC.out.o3
    have f2 := HC.out.f 0
    have f3 := HC.out.f 1
    have f4 := HC.out.f 2
    have f5 := HC.out.f 3
    unfold MB.val
    clear hbel
    go_wp2_with fail
    exact HC.out.ret hm' rfl rfl rfl

set_option maxHeartbeats 4000000 in
set_option maxRecDepth 100000 in
theorem l4a {w : World} {A : Nat → Prop} {n p : Nat} {v : Value} {m : MS} (h : MRep w A n (2) 2 v m) (hA : ∀ k, w.heap.size ≤ k → A k) (hp : p < n) (hn : n ≤ 4) (hl : m.at_ p = 4) (hb : -1 ≤ m.ow p 1 ∧ m.ow p 1 ≤ 100000) (hb2 : 0 ≤ m.ow p 0 ∧ m.ow p 0 ≤ 1) (hb3 : 0 ≤ m.wd 0 ∧ m.wd 0 ≤ 4) (hx : m.wd 1 = m.ow p 0) :
    Calls Tryd.prog 29 #[v, .int .i64 p] w (Next A n (2) 2 (to1 (own1 m p 1 (m.ow p 1 + 1)) p (1)) w) := by
  obtain ⟨b, rfl, h⟩ := h
  have HC := Lib.hid ((boxed w n (2) b).cx h hA (by omega) (by omega))
  have hpn : (p : Int) < n := by omega
  have hn0 : (1 : Int) ≤ n := by omega
  have Hl := Lib.hid hl
  have hb0 := hb.1
  have hb1 := hb.2
  have hb4 := hb2.1
  have hb5 := hb2.2
  have hb6 := hb3.1
  have hb7 := hb3.2
  clear hb hb2 hb3
  have hx0 : (m.wd 1 == m.ow p 0) = true := by simpa using hx
  clear hx
  clear h hA hl
  unfold MB.val
  go_enter Tryd.func29, Tryd.ntmps29
  go_upto_region 1 with fail
  generalize (w.alloc (.cells #[.int .i64 n, .slice (some ⟨b.bW, 0, none⟩) (2) b.cW, .slice (some ⟨b.bA, 0, none⟩) n b.cA, .slice (some ⟨b.bO, 0, none⟩) n b.cO] 27)).alloc
    (.cells #[.int .i64 0, .slice none 0 0, .slice none 0 0, .slice none 0 0] 27) = wx at HC ⊢
  have cL := HC.out.line p hp
  rw [Hl.out] at cL
  have d0 := HC.out.c0
  have d1 := HC.out.c1
  have d2 := HC.out.c2
  have d3 := HC.out.c3
  have r0 := HC.out.row p hp
  have r1 := HC.out.num p 0 hp (by omega)
  have r2 := HC.out.num p 1 hp (by omega)
  go_wp2_with fail
  have n0 := World.new_ne wx _ d0
  have n4 := World.new_ne wx _ r0
  have n6 := World.new_ne wx _ r2
  have iw : IntKind.i64.wrap (m.ow p 1 + 1) = m.ow p 1 + 1 := IntWalk.i64_in _ (by omega)
  have HS : Hid (w.heap.size + 2 ≤ wx.heap.size) := by have := HC.out.held.lt; exact this
  have Hin : Hid (MBlk (wx.alloc (.cells #[.int .i64 0, .slice none 0 0, .slice none 0 0, .slice none 0 0] 27)).drew (fun k => (A k ∧ k ≠ w.heap.size ∧ k ≠ w.heap.size + 1) ∧ k ≠ wx.heap.size) n 2 2 b m) :=
    (((HC.out.mach.inside (by omega) (by omega)).weak (fun k hk => ⟨hk.1, Nat.ne_of_lt hk.2⟩)).below ((Below.refl _ _).alloc (Nat.le_refl _) _)).drew
  have Hnew : Hid (∀ k, (wx.alloc (.cells #[.int .i64 0, .slice none 0 0, .slice none 0 0, .slice none 0 0] 27)).drew.heap.size ≤ k → (A k ∧ k ≠ w.heap.size ∧ k ≠ w.heap.size + 1) ∧ k ≠ wx.heap.size) :=
    fun k hk => by
      have hk' : wx.heap.size + 1 ≤ k := by simpa using hk
      exact ⟨HC.out.new k (by omega), by omega⟩
  replace HC := Lib.hid HC.out.drew
  go_region_held3 (fun w' => w'.cell? ⟨w.heap.size, 0, none⟩ = some (.int .i64 n) ∧ w'.cell? ⟨w.heap.size, 1, none⟩ = some (.slice (some ⟨b.bW, 0, none⟩) 2 b.cW) ∧ w'.cell? ⟨w.heap.size, 2, none⟩ = some (.slice (some ⟨b.bA, 0, none⟩) n b.cA) ∧ w'.cell? ⟨w.heap.size, 3, none⟩ = some (.slice (some ⟨b.bO, 0, none⟩) n b.cO) ∧ w'.cell? ⟨b.bO, p, none⟩ = some (.slice (some ⟨b.ob p, 0, none⟩) 2 (b.oc p)) ∧ w'.cell? ⟨b.ob p, 1, none⟩ = some (.int .i64 (m.ow p 1))) (first | (with_reducible exact ⟨d0, d1, d2, d3, r0, r2⟩) | go_keep) (first
    | (go_at_call 79; refine (own_any rfl (i := 1) rfl ⟨b, rfl, HC.out.mach⟩ HC.out.new (by omega) (by omega) (by omega) hp (by omega)).mono ?_; rintro e w1 ⟨_, rfl, ⟨b1, rfl, hm1⟩, hbel⟩; replace HC := Lib.hid (HC.out.below hbel); have d0 := HC.out.c0; have d1 := HC.out.c1; have d2 := HC.out.c2; have d3 := HC.out.c3; have r0 := HC.out.row p hp; have r2 := HC.out.num p 1 hp (by omega); have n0 := World.new_ne w1 _ d0; have n4 := World.new_ne w1 _ r0; have n6 := World.new_ne w1 _ r2; unfold MB.val; clear hbel)
    | (go_at_call 79; refine (own_any (A := fun k => (A k ∧ k ≠ w.heap.size ∧ k ≠ w.heap.size + 1) ∧ k ≠ wx.heap.size) rfl (i := 1) rfl ⟨b, rfl, Hin.out⟩ Hnew.out (by omega) (by omega) (by omega) hp (by omega)).mono ?_; rintro e w1 ⟨_, rfl, ⟨b1, rfl, hm1⟩, hbel⟩; have Hin1 := Lib.hid (Hin.out.below hbel); replace HC := Lib.hid ((HC.out.alloc _).below hbel); have d0 := HC.out.c0; have d1 := HC.out.c1; have d2 := HC.out.c2; have d3 := HC.out.c3; have r0 := HC.out.row p hp; have r2 := HC.out.num p 1 hp (by omega); have n0 := World.new_ne w1 _ d0; have n4 := World.new_ne w1 _ r0; have n6 := World.new_ne w1 _ r2; have kT : Blk w1 wx.heap.size #[.int .i64 0, .slice none 0 0, .slice none 0 0, .slice none 0 0] 27 := Blk.below (w := (wx.alloc (.cells #[.int .i64 0, .slice none 0 0, .slice none 0 0, .slice none 0 0] 27)).drew) (Blk.new wx _ _).drew hbel (by simp); have t0 := kT.cell 0; have t1 := kT.cell 1; have t2 := kT.cell 2; have t3 := kT.cell 3; have u0 := kT.free 0; have u1 := kT.free 1; have u2 := kT.free 2; have u3 := kT.free 3; simp only [List.getElem?_toArray, List.getElem?_cons_zero, List.getElem?_cons_succ] at t0 t1 t2 t3; have HT := Lib.hid kT; clear kT; unfold MB.val; clear hbel))
  · have HC1 := Lib.hid (HC.out.alloc (.cells #[.int .i64 n, .slice (some ⟨b1.bW, 0, none⟩) 2 b1.cW, .slice (some ⟨b1.bA, 0, none⟩) n b1.cA, .slice (some ⟨b1.bO, 0, none⟩) n b1.cO] 27))
    have HB := Lib.hid (hm1.below ((Below.refl _ _).alloc (Nat.le_refl _) (.cells #[.int .i64 n, .slice (some ⟨b1.bW, 0, none⟩) 2 b1.cW, .slice (some ⟨b1.bA, 0, none⟩) n b1.cA, .slice (some ⟨b1.bO, 0, none⟩) n b1.cO] 27)))
    have HT := Lib.hid (Blk.new w1 #[.int .i64 n, .slice (some ⟨b1.bW, 0, none⟩) 2 b1.cW, .slice (some ⟨b1.bA, 0, none⟩) n b1.cA, .slice (some ⟨b1.bO, 0, none⟩) n b1.cO] 27)
    clear HC hm1 iw n0 n4 n6
    generalize w1.alloc (.cells #[.int .i64 n, .slice (some ⟨b1.bW, 0, none⟩) 2 b1.cW, .slice (some ⟨b1.bA, 0, none⟩) n b1.cA, .slice (some ⟨b1.bO, 0, none⟩) n b1.cO] 27) = wz at HC1 HB HT ⊢
    generalize w1.heap.size = T at HT ⊢
    have HC := HC1
    clear HC1 Hin Hnew HS
    have t0 := HT.out.cell 0
    have t1 := HT.out.cell 1
    have t2 := HT.out.cell 2
    have t3 := HT.out.cell 3
    simp only [List.getElem?_toArray, List.getElem?_cons_zero, List.getElem?_cons_succ] at t0 t1 t2 t3
    have cL := HC.out.line p hp
    rw [Hl.out] at cL
    have d0 := HC.out.c0
    have d1 := HC.out.c1
    have d2 := HC.out.c2
    have d3 := HC.out.c3
    have w0 := HC.out.word 0 (by omega)
    have w1' := HC.out.word 1 (by omega)
    go_wp2_with fail
    refine (to_any (p := p) rfl ⟨b1, rfl, HB.out⟩ HC.out.new (by omega) (by omega) hp).mono ?_
    rintro e w1 ⟨_, rfl, ⟨b', rfl, hm'⟩, hbel⟩
    replace HC := Lib.hid (HC.out.below hbel)
    have q0 := HC.out.o0
    have q1 := HC.out.o1
    have q2 := HC.out.o2
    have q3 := HC.out.o3
    have f2 := HC.out.f 0
    have f3 := HC.out.f 1
    have f4 := HC.out.f 2
    have f5 := HC.out.f 3
    unfold MB.val
    clear hbel
    go_wp2_with fail
    exact HC.out.ret hm' rfl rfl rfl
  · have HC1 := Lib.hid (HC.out.put4 Hin1.out HS.out (.int .i64 n) (.slice (some ⟨b1.bW, 0, none⟩) 2 b1.cW) (.slice (some ⟨b1.bA, 0, none⟩) n b1.cA) (.slice (some ⟨b1.bO, 0, none⟩) n b1.cO))
    have HB := Lib.hid (hm1.put4 (.int .i64 n) (.slice (some ⟨b1.bW, 0, none⟩) 2 b1.cW) (.slice (some ⟨b1.bA, 0, none⟩) n b1.cA) (.slice (some ⟨b1.bO, 0, none⟩) n b1.cO))
    replace HT := Lib.hid (out4 HT.out (.int .i64 n) (.slice (some ⟨b1.bW, 0, none⟩) 2 b1.cW) (.slice (some ⟨b1.bA, 0, none⟩) n b1.cA) (.slice (some ⟨b1.bO, 0, none⟩) n b1.cO))
    clear HC hm1 iw n0 n4 n6 Hin1 t0 t1 t2 t3 u0 u1 u2 u3
    generalize ((((w1.setCell ⟨wx.heap.size, 0, none⟩ (.int .i64 n)).setCell ⟨wx.heap.size, 1, none⟩ (.slice (some ⟨b1.bW, 0, none⟩) 2 b1.cW)).setCell ⟨wx.heap.size, 2, none⟩ (.slice (some ⟨b1.bA, 0, none⟩) n b1.cA)).setCell ⟨wx.heap.size, 3, none⟩ (.slice (some ⟨b1.bO, 0, none⟩) n b1.cO)) = wz at HC1 HB HT ⊢
    generalize wx.heap.size = T at HT ⊢
    have HC := HC1
    clear HC1 Hin Hnew HS
    have t0 := HT.out.cell 0
    have t1 := HT.out.cell 1
    have t2 := HT.out.cell 2
    have t3 := HT.out.cell 3
    simp only [List.getElem?_toArray, List.getElem?_cons_zero, List.getElem?_cons_succ] at t0 t1 t2 t3
    have cL := HC.out.line p hp
    rw [Hl.out] at cL
    have d0 := HC.out.c0
    have d1 := HC.out.c1
    have d2 := HC.out.c2
    have d3 := HC.out.c3
    have w0 := HC.out.word 0 (by omega)
    have w1' := HC.out.word 1 (by omega)
    go_wp2_with fail
    refine (to_any (p := p) rfl ⟨b1, rfl, HB.out⟩ HC.out.new (by omega) (by omega) hp).mono ?_
    rintro e w1 ⟨_, rfl, ⟨b', rfl, hm'⟩, hbel⟩
    replace HC := Lib.hid (HC.out.below hbel)
    have q0 := HC.out.o0
    have q1 := HC.out.o1
    have q2 := HC.out.o2
    have q3 := HC.out.o3
    have f2 := HC.out.f 0
    have f3 := HC.out.f 1
    have f4 := HC.out.f 2
    have f5 := HC.out.f 3
    unfold MB.val
    clear hbel
    go_wp2_with fail
    exact HC.out.ret hm' rfl rfl rfl

set_option maxHeartbeats 4000000 in
set_option maxRecDepth 100000 in
theorem l4b {w : World} {A : Nat → Prop} {n p : Nat} {v : Value} {m : MS} (h : MRep w A n (2) 2 v m) (hA : ∀ k, w.heap.size ≤ k → A k) (hp : p < n) (hn : n ≤ 4) (hl : m.at_ p = 4) (hb : -1 ≤ m.ow p 1 ∧ m.ow p 1 ≤ 100000) (hb2 : 0 ≤ m.ow p 0 ∧ m.ow p 0 ≤ 1) (hb3 : 0 ≤ m.wd 0 ∧ m.wd 0 ≤ 4) (hx : ¬ m.wd 1 = m.ow p 0) :
    Calls Tryd.prog 29 #[v, .int .i64 p] w (Next A n (2) 2 m w) := by
  obtain ⟨b, rfl, h⟩ := h
  have HC := Lib.hid ((boxed w n (2) b).cx h hA (by omega) (by omega))
  have hpn : (p : Int) < n := by omega
  have hn0 : (1 : Int) ≤ n := by omega
  have Hl := Lib.hid hl
  have hb0 := hb.1
  have hb1 := hb.2
  have hb4 := hb2.1
  have hb5 := hb2.2
  have hb6 := hb3.1
  have hb7 := hb3.2
  clear hb hb2 hb3
  have hx0 : (m.wd 1 == m.ow p 0) = false := by simpa using hx
  clear hx
  clear h hA hl
  unfold MB.val
  go_enter Tryd.func29, Tryd.ntmps29
  go_upto_region 1 with fail
  generalize (w.alloc (.cells #[.int .i64 n, .slice (some ⟨b.bW, 0, none⟩) (2) b.cW, .slice (some ⟨b.bA, 0, none⟩) n b.cA, .slice (some ⟨b.bO, 0, none⟩) n b.cO] 27)).alloc
    (.cells #[.int .i64 0, .slice none 0 0, .slice none 0 0, .slice none 0 0] 27) = wx at HC ⊢
  have cL := HC.out.line p hp
  rw [Hl.out] at cL
  have d0 := HC.out.c0
  have d1 := HC.out.c1
  have d2 := HC.out.c2
  have d3 := HC.out.c3
  have r0 := HC.out.row p hp
  have r1 := HC.out.num p 0 hp (by omega)
  have r2 := HC.out.num p 1 hp (by omega)
  go_wp2_with fail
  have n0 := World.new_ne wx _ d0
  have n4 := World.new_ne wx _ r0
  have n6 := World.new_ne wx _ r2
  have iw : IntKind.i64.wrap (m.ow p 1 + 1) = m.ow p 1 + 1 := IntWalk.i64_in _ (by omega)
  have HS : Hid (w.heap.size + 2 ≤ wx.heap.size) := by have := HC.out.held.lt; exact this
  have Hin : Hid (MBlk (wx.alloc (.cells #[.int .i64 0, .slice none 0 0, .slice none 0 0, .slice none 0 0] 27)).drew (fun k => (A k ∧ k ≠ w.heap.size ∧ k ≠ w.heap.size + 1) ∧ k ≠ wx.heap.size) n 2 2 b m) :=
    (((HC.out.mach.inside (by omega) (by omega)).weak (fun k hk => ⟨hk.1, Nat.ne_of_lt hk.2⟩)).below ((Below.refl _ _).alloc (Nat.le_refl _) _)).drew
  have Hnew : Hid (∀ k, (wx.alloc (.cells #[.int .i64 0, .slice none 0 0, .slice none 0 0, .slice none 0 0] 27)).drew.heap.size ≤ k → (A k ∧ k ≠ w.heap.size ∧ k ≠ w.heap.size + 1) ∧ k ≠ wx.heap.size) :=
    fun k hk => by
      have hk' : wx.heap.size + 1 ≤ k := by simpa using hk
      exact ⟨HC.out.new k (by omega), by omega⟩
  replace HC := Lib.hid HC.out.drew
  go_region_held3 (fun w' => w'.cell? ⟨w.heap.size, 0, none⟩ = some (.int .i64 n) ∧ w'.cell? ⟨w.heap.size, 1, none⟩ = some (.slice (some ⟨b.bW, 0, none⟩) 2 b.cW) ∧ w'.cell? ⟨w.heap.size, 2, none⟩ = some (.slice (some ⟨b.bA, 0, none⟩) n b.cA) ∧ w'.cell? ⟨w.heap.size, 3, none⟩ = some (.slice (some ⟨b.bO, 0, none⟩) n b.cO) ∧ w'.cell? ⟨b.bO, p, none⟩ = some (.slice (some ⟨b.ob p, 0, none⟩) 2 (b.oc p)) ∧ w'.cell? ⟨b.ob p, 1, none⟩ = some (.int .i64 (m.ow p 1))) (first | (with_reducible exact ⟨d0, d1, d2, d3, r0, r2⟩) | go_keep) (first
    | (go_at_call 79; refine (own_any rfl (i := 1) rfl ⟨b, rfl, HC.out.mach⟩ HC.out.new (by omega) (by omega) (by omega) hp (by omega)).mono ?_; rintro e w1 ⟨_, rfl, ⟨b1, rfl, hm1⟩, hbel⟩; replace HC := Lib.hid (HC.out.below hbel); have d0 := HC.out.c0; have d1 := HC.out.c1; have d2 := HC.out.c2; have d3 := HC.out.c3; have r0 := HC.out.row p hp; have r2 := HC.out.num p 1 hp (by omega); have n0 := World.new_ne w1 _ d0; have n4 := World.new_ne w1 _ r0; have n6 := World.new_ne w1 _ r2; unfold MB.val; clear hbel)
    | (go_at_call 79; refine (own_any (A := fun k => (A k ∧ k ≠ w.heap.size ∧ k ≠ w.heap.size + 1) ∧ k ≠ wx.heap.size) rfl (i := 1) rfl ⟨b, rfl, Hin.out⟩ Hnew.out (by omega) (by omega) (by omega) hp (by omega)).mono ?_; rintro e w1 ⟨_, rfl, ⟨b1, rfl, hm1⟩, hbel⟩; have Hin1 := Lib.hid (Hin.out.below hbel); replace HC := Lib.hid ((HC.out.alloc _).below hbel); have d0 := HC.out.c0; have d1 := HC.out.c1; have d2 := HC.out.c2; have d3 := HC.out.c3; have r0 := HC.out.row p hp; have r2 := HC.out.num p 1 hp (by omega); have n0 := World.new_ne w1 _ d0; have n4 := World.new_ne w1 _ r0; have n6 := World.new_ne w1 _ r2; have kT : Blk w1 wx.heap.size #[.int .i64 0, .slice none 0 0, .slice none 0 0, .slice none 0 0] 27 := Blk.below (w := (wx.alloc (.cells #[.int .i64 0, .slice none 0 0, .slice none 0 0, .slice none 0 0] 27)).drew) (Blk.new wx _ _).drew hbel (by simp); have t0 := kT.cell 0; have t1 := kT.cell 1; have t2 := kT.cell 2; have t3 := kT.cell 3; have u0 := kT.free 0; have u1 := kT.free 1; have u2 := kT.free 2; have u3 := kT.free 3; simp only [List.getElem?_toArray, List.getElem?_cons_zero, List.getElem?_cons_succ] at t0 t1 t2 t3; have HT := Lib.hid kT; clear kT; unfold MB.val; clear hbel))
  · have HC1 := Lib.hid (HC.out.alloc (.cells #[.int .i64 n, .slice (some ⟨b1.bW, 0, none⟩) 2 b1.cW, .slice (some ⟨b1.bA, 0, none⟩) n b1.cA, .slice (some ⟨b1.bO, 0, none⟩) n b1.cO] 27))
    have HB := Lib.hid (hm1.below ((Below.refl _ _).alloc (Nat.le_refl _) (.cells #[.int .i64 n, .slice (some ⟨b1.bW, 0, none⟩) 2 b1.cW, .slice (some ⟨b1.bA, 0, none⟩) n b1.cA, .slice (some ⟨b1.bO, 0, none⟩) n b1.cO] 27)))
    have HT := Lib.hid (Blk.new w1 #[.int .i64 n, .slice (some ⟨b1.bW, 0, none⟩) 2 b1.cW, .slice (some ⟨b1.bA, 0, none⟩) n b1.cA, .slice (some ⟨b1.bO, 0, none⟩) n b1.cO] 27)
    clear HC hm1 iw n0 n4 n6
    generalize w1.alloc (.cells #[.int .i64 n, .slice (some ⟨b1.bW, 0, none⟩) 2 b1.cW, .slice (some ⟨b1.bA, 0, none⟩) n b1.cA, .slice (some ⟨b1.bO, 0, none⟩) n b1.cO] 27) = wz at HC1 HB HT ⊢
    generalize w1.heap.size = T at HT ⊢
    have HC := HC1
    clear HC1 Hin Hnew HS
    have t0 := HT.out.cell 0
    have t1 := HT.out.cell 1
    have t2 := HT.out.cell 2
    have t3 := HT.out.cell 3
    simp only [List.getElem?_toArray, List.getElem?_cons_zero, List.getElem?_cons_succ] at t0 t1 t2 t3
    have cL := HC.out.line p hp
    rw [Hl.out] at cL
    have d0 := HC.out.c0
    have d1 := HC.out.c1
    have d2 := HC.out.c2
    have d3 := HC.out.c3
    have w0 := HC.out.word 0 (by omega)
    have w1' := HC.out.word 1 (by omega)
    have q0 := HC.out.o0
    have q1 := HC.out.o1
    have q2 := HC.out.o2
    have q3 := HC.out.o3
    have f2 := HC.out.f 0
    have f3 := HC.out.f 1
    have f4 := HC.out.f 2
    have f5 := HC.out.f 3
    go_wp2_with fail
    exact HC.out.ret HC.out.mach rfl rfl rfl
  · have HC1 := Lib.hid (HC.out.put4 Hin1.out HS.out (.int .i64 n) (.slice (some ⟨b1.bW, 0, none⟩) 2 b1.cW) (.slice (some ⟨b1.bA, 0, none⟩) n b1.cA) (.slice (some ⟨b1.bO, 0, none⟩) n b1.cO))
    have HB := Lib.hid (hm1.put4 (.int .i64 n) (.slice (some ⟨b1.bW, 0, none⟩) 2 b1.cW) (.slice (some ⟨b1.bA, 0, none⟩) n b1.cA) (.slice (some ⟨b1.bO, 0, none⟩) n b1.cO))
    replace HT := Lib.hid (out4 HT.out (.int .i64 n) (.slice (some ⟨b1.bW, 0, none⟩) 2 b1.cW) (.slice (some ⟨b1.bA, 0, none⟩) n b1.cA) (.slice (some ⟨b1.bO, 0, none⟩) n b1.cO))
    clear HC hm1 iw n0 n4 n6 Hin1 t0 t1 t2 t3 u0 u1 u2 u3
    generalize ((((w1.setCell ⟨wx.heap.size, 0, none⟩ (.int .i64 n)).setCell ⟨wx.heap.size, 1, none⟩ (.slice (some ⟨b1.bW, 0, none⟩) 2 b1.cW)).setCell ⟨wx.heap.size, 2, none⟩ (.slice (some ⟨b1.bA, 0, none⟩) n b1.cA)).setCell ⟨wx.heap.size, 3, none⟩ (.slice (some ⟨b1.bO, 0, none⟩) n b1.cO)) = wz at HC1 HB HT ⊢
    generalize wx.heap.size = T at HT ⊢
    have HC := HC1
    clear HC1 Hin Hnew HS
    have t0 := HT.out.cell 0
    have t1 := HT.out.cell 1
    have t2 := HT.out.cell 2
    have t3 := HT.out.cell 3
    simp only [List.getElem?_toArray, List.getElem?_cons_zero, List.getElem?_cons_succ] at t0 t1 t2 t3
    have cL := HC.out.line p hp
    rw [Hl.out] at cL
    have d0 := HC.out.c0
    have d1 := HC.out.c1
    have d2 := HC.out.c2
    have d3 := HC.out.c3
    have w0 := HC.out.word 0 (by omega)
    have w1' := HC.out.word 1 (by omega)
    have q0 := HC.out.o0
    have q1 := HC.out.o1
    have q2 := HC.out.o2
    have q3 := HC.out.o3
    have f2 := HC.out.f 0
    have f3 := HC.out.f 1
    have f4 := HC.out.f 2
    have f5 := HC.out.f 3
    go_wp2_with fail
    exact HC.out.ret HC.out.mach rfl rfl rfl
end Go.Proofs.YtgkfgijmccojjaaDoor.MBarrier
