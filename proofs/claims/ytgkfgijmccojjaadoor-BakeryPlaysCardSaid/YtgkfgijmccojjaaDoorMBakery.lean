import Derived.Test.YtgkfgijmccojjaaDoorMach
namespace Go.Proofs.YtgkfgijmccojjaaDoor.MBakery
open Go.RowKit
set_option linter.unusedVariables false

set_option maxHeartbeats 4000000 in
set_option maxRecDepth 100000 in
theorem l1 {w : World} {A : Nat → Prop} {n p : Nat} {v : Value} {m : MS} (h : MRep w A n (2 * n) 2 v m) (hA : ∀ k, w.heap.size ≤ k → A k) (hp : p < n) (hn : n ≤ 4) (hl : m.at_ p = 1) {k : Nat} (hk : m.ow p 0 = (k : Int)) (hkn : k ≤ n)  :
    Calls Tryd.prog 58 #[v, .int .i64 p] w (Next A n (2 * n) 2 (to1 (word1 (own1 (own1 m p 0 (0)) p 1 (0)) (p) (1)) p (2)) w) := by
  obtain ⟨b, rfl, h⟩ := h
  have HC := Lib.hid ((boxed w n (2 * n) b).cx h hA (by omega) (by omega))
  have hpn : (p : Int) < n := by omega
  have hn0 : (1 : Int) ≤ n := by omega
  have Hl := Lib.hid hl
  have Hk := Lib.hid hk
  clear hk
  clear h hA hl
  unfold MB.val
  go_enter Tryd.func58, Tryd.ntmps58
  go_upto_region 1 with fail
  generalize (w.alloc (.cells #[.int .i64 n, .slice (some ⟨b.bW, 0, none⟩) (2 * n) b.cW, .slice (some ⟨b.bA, 0, none⟩) n b.cA, .slice (some ⟨b.bO, 0, none⟩) n b.cO] 27)).alloc
    (.cells #[.int .i64 0, .slice none 0 0, .slice none 0 0, .slice none 0 0] 27) = wx at HC ⊢
  have cL := HC.out.line p hp
  rw [Hl.out] at cL
  have d0 := HC.out.c0
  have d1 := HC.out.c1
  have d2 := HC.out.c2
  have d3 := HC.out.c3
  have r0 := HC.out.row p hp
  have r1 := HC.out.num p 0 hp (by omega)
  rw [Hk.out] at r1
  go_wp2_with fail
  refine (own_any rfl (i := 0) rfl ⟨b, rfl, HC.out.mach⟩ HC.out.new (by omega) (by omega) (by omega) hp (by omega)).mono ?_
  rintro e w1 ⟨v1, rfl, h1, hbel⟩
  replace HC := Lib.hid (HC.out.below hbel)
  clear hbel
  go_wp2_with fail
  refine (own_any rfl (i := 1) rfl h1 HC.out.new (by omega) (by omega) (by omega) hp (by omega)).mono ?_
  rintro e w2 ⟨v2, rfl, h2, hbel⟩
  replace HC := Lib.hid (HC.out.below hbel)
  clear hbel
  go_wp2_with fail
  refine (word_any (i := p) (rfl) h2 HC.out.new (by omega) (by omega) (by omega)).mono ?_
  rintro e w3 ⟨v3, rfl, h3, hbel⟩
  replace HC := Lib.hid (HC.out.below hbel)
  clear hbel
  go_wp2_with fail
  refine (to_any (p := p) rfl h3 HC.out.new (by omega) (by omega) hp).mono ?_
  rintro e w4 ⟨_, rfl, ⟨b', rfl, hm'⟩, hbel⟩
  replace HC := Lib.hid (HC.out.below hbel)
  have q0 := HC.out.o0
  have q1 := HC.out.o1
  have q2 := HC.out.o2
  have q3 := HC.out.o3
  have f2 := HC.out.f 0
  have f3 := HC.out.f 1
  have f4 := HC.out.f 2
  have f5 := HC.out.f 3
  unfold MB.val
  clear hbel
  go_wp2_with fail
  exact HC.out.ret hm' rfl rfl rfl

set_option maxHeartbeats 4000000 in
set_option maxRecDepth 100000 in
theorem l20 {w : World} {A : Nat → Prop} {n p : Nat} {v : Value} {m : MS} (h : MRep w A n (2 * n) 2 v m) (hA : ∀ k, w.heap.size ≤ k → A k) (hp : p < n) (hn : n ≤ 4) (hl : m.at_ p = 2) {k : Nat} (hk : m.ow p 0 = (k : Int)) (hkn : k ≤ n) (hks : k < n) (hx : ¬ m.ow p 1 < m.wd (n + k)) :
    Calls Tryd.prog 58 #[v, .int .i64 p] w (Next A n (2 * n) 2 (goes1 (own1 m p 0 (k + 1)) p ((k : Int) + 1 == (n : Int)) (2)) w) := by
  obtain ⟨b, rfl, h⟩ := h
  have HC := Lib.hid ((boxed w n (2 * n) b).cx h hA (by omega) (by omega))
  have hpn : (p : Int) < n := by omega
  have hn0 : (1 : Int) ≤ n := by omega
  have Hl := Lib.hid hl
  have Hk := Lib.hid hk
  clear hk
  have hx0 : decide (m.ow p 1 < m.wd (n + k)) = false := by simpa using hx
  clear hx
  clear h hA hl
  unfold MB.val
  go_enter Tryd.func58, Tryd.ntmps58
  go_upto_region 1 with fail
  generalize (w.alloc (.cells #[.int .i64 n, .slice (some ⟨b.bW, 0, none⟩) (2 * n) b.cW, .slice (some ⟨b.bA, 0, none⟩) n b.cA, .slice (some ⟨b.bO, 0, none⟩) n b.cO] 27)).alloc
    (.cells #[.int .i64 0, .slice none 0 0, .slice none 0 0, .slice none 0 0] 27) = wx at HC ⊢
  have cL := HC.out.line p hp
  rw [Hl.out] at cL
  have d0 := HC.out.c0
  have d1 := HC.out.c1
  have d2 := HC.out.c2
  have d3 := HC.out.c3
  have r0 := HC.out.row p hp
  have r1 := HC.out.num p 0 hp (by omega)
  rw [Hk.out] at r1
  have r2 := HC.out.num p 1 hp (by omega)
  have r3 := HC.out.word (n + k) (by omega)
  go_wp2_with fail
  go_quiet (fail)
  go_wp2_with fail
  replace HC := Lib.hid (HC.out.drewN nq)
  refine (own_any rfl (i := 0) rfl ⟨b, rfl, HC.out.mach⟩ HC.out.new (by omega) (by omega) (by omega) hp (by omega)).mono ?_
  rintro e w1 ⟨v1, rfl, h1, hbel⟩
  replace HC := Lib.hid (HC.out.below hbel)
  clear hbel
  go_wp2_with fail
  refine (goes_any _ (p := p) rfl h1 HC.out.new (by omega) (by omega) hp (show 0 ≤ m.at_ p ∧ m.at_ p ≤ 100 by rw [Hl.out]; omega)).mono ?_
  rintro e w2 ⟨_, rfl, ⟨b', rfl, hm'⟩, hbel⟩
  replace HC := Lib.hid (HC.out.below hbel)
  have q0 := HC.out.o0
  have q1 := HC.out.o1
  have q2 := HC.out.o2
  have q3 := HC.out.o3
  have f2 := HC.out.f 0
  have f3 := HC.out.f 1
  have f4 := HC.out.f 2
  have f5 := HC.out.f 3
  unfold MB.val
  clear hbel
  go_wp2_with fail
  exact HC.out.ret hm' rfl rfl rfl

set_option maxHeartbeats 4000000 in
set_option maxRecDepth 100000 in
theorem l21 {w : World} {A : Nat → Prop} {n p : Nat} {v : Value} {m : MS} (h : MRep w A n (2 * n) 2 v m) (hA : ∀ k, w.heap.size ≤ k → A k) (hp : p < n) (hn : n ≤ 4) (hl : m.at_ p = 2) {k : Nat} (hk : m.ow p 0 = (k : Int)) (hkn : k ≤ n) (hks : k < n) (hx : m.ow p 1 < m.wd (n + k)) :
    Calls Tryd.prog 58 #[v, .int .i64 p] w (Next A n (2 * n) 2 (goes1 (own1 (own1 m p 1 (m.wd (n + k))) p 0 ((k : Int) + 1)) p ((k : Int) + 1 == (n : Int)) 2) w) := by
  obtain ⟨b, rfl, h⟩ := h
  have HC := Lib.hid ((boxed w n (2 * n) b).cx h hA (by omega) (by omega))
  have hpn : (p : Int) < n := by omega
  have hn0 : (1 : Int) ≤ n := by omega
  have Hl := Lib.hid hl
  have Hk := Lib.hid hk
  clear hk
  have hx0 : decide (m.ow p 1 < m.wd (n + k)) = true := by simpa using hx
  clear hx
  clear h hA hl
  unfold MB.val
  go_enter Tryd.func58, Tryd.ntmps58
  go_upto_region 1 with fail
  generalize (w.alloc (.cells #[.int .i64 n, .slice (some ⟨b.bW, 0, none⟩) (2 * n) b.cW, .slice (some ⟨b.bA, 0, none⟩) n b.cA, .slice (some ⟨b.bO, 0, none⟩) n b.cO] 27)).alloc
    (.cells #[.int .i64 0, .slice none 0 0, .slice none 0 0, .slice none 0 0] 27) = wx at HC ⊢
  have cL := HC.out.line p hp
  rw [Hl.out] at cL
  have d0 := HC.out.c0
  have d1 := HC.out.c1
  have d2 := HC.out.c2
  have d3 := HC.out.c3
  have r0 := HC.out.row p hp
  have r1 := HC.out.num p 0 hp (by omega)
  rw [Hk.out] at r1
  have r2 := HC.out.num p 1 hp (by omega)
  have r3 := HC.out.word (n + k) (by omega)
  go_wp2_with fail
  go_quiet (fail)
  go_wp2_with fail
  replace HC := Lib.hid (HC.out.drewN nq)
  generalize wx.drewN nq = wy at HC ⊢
  have d0 := HC.out.c0
  have d1 := HC.out.c1
  have d2 := HC.out.c2
  have d3 := HC.out.c3
  have r3 := HC.out.word (n + k) (by omega)
  have iw : IntKind.i64.wrap ((n : Int) + (k : Int)) = (n : Int) + (k : Int) := IntWalk.i64_in _ (by omega)
  have ia : (0 : Int) ≤ (n : Int) + (k : Int) := by omega
  have ib : (n : Int) + (k : Int) < 2 * (n : Int) := by omega
  have it : ((n : Int) + (k : Int)).toNat = n + k := by omega
  replace HC := Lib.hid HC.out.drew
  go_region_with (go_at_call 79; refine (own_any rfl (i := 1) rfl ⟨b, rfl, HC.out.mach⟩ HC.out.new (by omega) (by omega) (by omega) hp (by omega)).mono ?_; rintro e w1 ⟨_, rfl, ⟨b1, rfl, hm1⟩, hbel⟩; replace HC := Lib.hid (HC.out.below hbel); have d0 := HC.out.c0; have d1 := HC.out.c1; have d2 := HC.out.c2; have d3 := HC.out.c3; have f0 := HC.out.fb 0; have f1 := HC.out.fb 1; have f2 := HC.out.fb 2; have f3 := HC.out.fb 3; unfold MB.val; clear hbel)
  all_goals
    clear iw ia ib it
    replace HC := Lib.hid (HC.out.rebox hm1)
    go_wp2_with fail
    refine (own_any rfl (i := 0) rfl ⟨b1, rfl, HC.out.mach⟩ HC.out.new (by omega) (by omega) (by omega) hp (by omega)).mono ?_
    rintro e w1 ⟨v1, rfl, h1, hbel⟩
    replace HC := Lib.hid (HC.out.below hbel)
    clear hbel
    go_wp2_with fail
    refine (goes_any _ (p := p) rfl h1 HC.out.new (by omega) (by omega) hp (show 0 ≤ m.at_ p ∧ m.at_ p ≤ 100 by rw [Hl.out]; omega)).mono ?_
    rintro e w2 ⟨_, rfl, ⟨b', rfl, hm'⟩, hbel⟩
    replace HC := Lib.hid (HC.out.below hbel)
    have q0 := HC.out.o0
    have q1 := HC.out.o1
    have q2 := HC.out.o2
    have q3 := HC.out.o3
    have f2 := HC.out.f 0
    have f3 := HC.out.f 1
    have f4 := HC.out.f 2
    have f5 := HC.out.f 3
    unfold MB.val
    clear hbel
    go_wp2_with fail
    exact HC.out.ret hm' rfl rfl rfl

set_option maxHeartbeats 4000000 in
set_option maxRecDepth 100000 in
theorem l3 {w : World} {A : Nat → Prop} {n p : Nat} {v : Value} {m : MS} (h : MRep w A n (2 * n) 2 v m) (hA : ∀ k, w.heap.size ≤ k → A k) (hp : p < n) (hn : n ≤ 4) (hl : m.at_ p = 3) {k : Nat} (hk : m.ow p 0 = (k : Int)) (hkn : k ≤ n) (hb : 0 ≤ m.ow p 1 ∧ m.ow p 1 ≤ 100000) :
    Calls Tryd.prog 58 #[v, .int .i64 p] w (Next A n (2 * n) 2 (to1 (word1 m (n + p) (m.ow p 1 + 1)) p (4)) w) := by
  obtain ⟨b, rfl, h⟩ := h
  have HC := Lib.hid ((boxed w n (2 * n) b).cx h hA (by omega) (by omega))
  have hpn : (p : Int) < n := by omega
  have hn0 : (1 : Int) ≤ n := by omega
  have Hl := Lib.hid hl
  have Hk := Lib.hid hk
  clear hk
  have hb0 := hb.1
  have hb1 := hb.2
  clear h hA hl
  unfold MB.val
  go_enter Tryd.func58, Tryd.ntmps58
  go_upto_region 1 with fail
  generalize (w.alloc (.cells #[.int .i64 n, .slice (some ⟨b.bW, 0, none⟩) (2 * n) b.cW, .slice (some ⟨b.bA, 0, none⟩) n b.cA, .slice (some ⟨b.bO, 0, none⟩) n b.cO] 27)).alloc
    (.cells #[.int .i64 0, .slice none 0 0, .slice none 0 0, .slice none 0 0] 27) = wx at HC ⊢
  have cL := HC.out.line p hp
  rw [Hl.out] at cL
  have d0 := HC.out.c0
  have d1 := HC.out.c1
  have d2 := HC.out.c2
  have d3 := HC.out.c3
  have r0 := HC.out.row p hp
  have r1 := HC.out.num p 0 hp (by omega)
  rw [Hk.out] at r1
  go_wp2_with fail
  have HC0 := HC
  replace HC := Lib.hid HC.out.drew
  have s0 := HC0.out.c0
  have s1 := HC0.out.c1
  have s2 := HC0.out.c2
  have s3 := HC0.out.c3
  have s4 := HC0.out.row p hp
  have s5 := HC0.out.num p 1 hp (by omega)
  go_region_held3 (fun w' => w'.cell? ⟨w.heap.size, 0, none⟩ = some (.int .i64 n) ∧ w'.cell? ⟨w.heap.size, 1, none⟩ = some (.slice (some ⟨b.bW, 0, none⟩) (2 * n) b.cW) ∧ w'.cell? ⟨w.heap.size, 2, none⟩ = some (.slice (some ⟨b.bA, 0, none⟩) n b.cA) ∧ w'.cell? ⟨w.heap.size, 3, none⟩ = some (.slice (some ⟨b.bO, 0, none⟩) n b.cO) ∧ w'.cell? ⟨b.bO, p, none⟩ = some (.slice (some ⟨b.ob p, 0, none⟩) 2 (b.oc p)) ∧ w'.cell? ⟨b.ob p, 1, none⟩ = some (.int .i64 (m.ow p 1)))
    (first | (with_reducible exact ⟨s0, s1, s2, s3, s4, s5⟩) | (with_reducible exact ⟨HC.out.c0, HC.out.c1, HC.out.c2, HC.out.c3, HC.out.row p hp, HC.out.num p 1 hp (by omega)⟩) | (with_reducible exact ⟨HC.out.c0s _ _ _ _, HC.out.c1s _ _ _ _, HC.out.c2s _ _ _ _, HC.out.c3s _ _ _ _, HC.out.rows p hp _ _ _ _, HC.out.nums p 1 hp (by omega) _ _ _ _⟩))
    (first
      | (go_at_call 72; refine (to_any (p := p) rfl h1 HC.out.new (by omega) (by omega) hp).mono ?_; rintro e w2 ⟨_, rfl, ⟨b', rfl, hm'⟩, hbel⟩; replace HC := Lib.hid (HC.out.below hbel); have q0 := HC.out.o0; have q1 := HC.out.o1; have q2 := HC.out.o2; have q3 := HC.out.o3; have f2 := HC.out.f 0; have f3 := HC.out.f 1; have f4 := HC.out.f 2; have f5 := HC.out.f 3; unfold MB.val; clear hbel)
      | (go_at_call 73; refine (word_any (i := n + p) (by first | rfl | omega | (rw [IntWalk.i64_in _ (by omega)]; omega)) ⟨b, rfl, HC.out.mach⟩ HC.out.new (by omega) (by omega) (by omega)).mono ?_; rintro e w1 ⟨v1, rfl, h1, hbel⟩; replace HC := Lib.hid (HC.out.below hbel); clear hbel))
  go_wp2_with fail
  rw [show IntKind.i64.wrap (m.ow p 1 + 1) = m.ow p 1 + 1 from IntWalk.i64_in _ (by omega)] at hm'
  exact HC.out.ret hm' rfl rfl rfl

set_option maxHeartbeats 4000000 in
set_option maxRecDepth 100000 in
theorem l4 {w : World} {A : Nat → Prop} {n p : Nat} {v : Value} {m : MS} (h : MRep w A n (2 * n) 2 v m) (hA : ∀ k, w.heap.size ≤ k → A k) (hp : p < n) (hn : n ≤ 4) (hl : m.at_ p = 4) {k : Nat} (hk : m.ow p 0 = (k : Int)) (hkn : k ≤ n)  :
    Calls Tryd.prog 58 #[v, .int .i64 p] w (Next A n (2 * n) 2 (to1 (own1 (word1 m (p) (0)) p 0 (0)) p (5)) w) := by
  obtain ⟨b, rfl, h⟩ := h
  have HC := Lib.hid ((boxed w n (2 * n) b).cx h hA (by omega) (by omega))
  have hpn : (p : Int) < n := by omega
  have hn0 : (1 : Int) ≤ n := by omega
  have Hl := Lib.hid hl
  have Hk := Lib.hid hk
  clear hk
  clear h hA hl
  unfold MB.val
  go_enter Tryd.func58, Tryd.ntmps58
  go_upto_region 1 with fail
  generalize (w.alloc (.cells #[.int .i64 n, .slice (some ⟨b.bW, 0, none⟩) (2 * n) b.cW, .slice (some ⟨b.bA, 0, none⟩) n b.cA, .slice (some ⟨b.bO, 0, none⟩) n b.cO] 27)).alloc
    (.cells #[.int .i64 0, .slice none 0 0, .slice none 0 0, .slice none 0 0] 27) = wx at HC ⊢
  have cL := HC.out.line p hp
  rw [Hl.out] at cL
  have d0 := HC.out.c0
  have d1 := HC.out.c1
  have d2 := HC.out.c2
  have d3 := HC.out.c3
  have r0 := HC.out.row p hp
  have r1 := HC.out.num p 0 hp (by omega)
  rw [Hk.out] at r1
  go_wp2_with fail
  refine (word_any (i := p) (rfl) ⟨b, rfl, HC.out.mach⟩ HC.out.new (by omega) (by omega) (by omega)).mono ?_
  rintro e w1 ⟨v1, rfl, h1, hbel⟩
  replace HC := Lib.hid (HC.out.below hbel)
  clear hbel
  go_wp2_with fail
  refine (own_any rfl (i := 0) rfl h1 HC.out.new (by omega) (by omega) (by omega) hp (by omega)).mono ?_
  rintro e w2 ⟨v2, rfl, h2, hbel⟩
  replace HC := Lib.hid (HC.out.below hbel)
  clear hbel
  go_wp2_with fail
  refine (to_any (p := p) rfl h2 HC.out.new (by omega) (by omega) hp).mono ?_
  rintro e w3 ⟨_, rfl, ⟨b', rfl, hm'⟩, hbel⟩
  replace HC := Lib.hid (HC.out.below hbel)
  have q0 := HC.out.o0
  have q1 := HC.out.o1
  have q2 := HC.out.o2
  have q3 := HC.out.o3
  have f2 := HC.out.f 0
  have f3 := HC.out.f 1
  have f4 := HC.out.f 2
  have f5 := HC.out.f 3
  unfold MB.val
  clear hbel
  go_wp2_with fail
  exact HC.out.ret hm' rfl rfl rfl

set_option maxHeartbeats 4000000 in
set_option maxRecDepth 100000 in
theorem l5 {w : World} {A : Nat → Prop} {n p : Nat} {v : Value} {m : MS} (h : MRep w A n (2 * n) 2 v m) (hA : ∀ k, w.heap.size ≤ k → A k) (hp : p < n) (hn : n ≤ 4) (hl : m.at_ p = 5) {k : Nat} (hk : m.ow p 0 = (k : Int)) (hkn : k ≤ n) (hks : k < n) :
    Calls Tryd.prog 58 #[v, .int .i64 p] w (Next A n (2 * n) 2 (goes1 m p (m.wd k == 0) (5)) w) := by
  obtain ⟨b, rfl, h⟩ := h
  have HC := Lib.hid ((boxed w n (2 * n) b).cx h hA (by omega) (by omega))
  have hpn : (p : Int) < n := by omega
  have hn0 : (1 : Int) ≤ n := by omega
  have Hl := Lib.hid hl
  have Hk := Lib.hid hk
  clear hk
  clear h hA hl
  unfold MB.val
  go_enter Tryd.func58, Tryd.ntmps58
  go_upto_region 1 with fail
  generalize (w.alloc (.cells #[.int .i64 n, .slice (some ⟨b.bW, 0, none⟩) (2 * n) b.cW, .slice (some ⟨b.bA, 0, none⟩) n b.cA, .slice (some ⟨b.bO, 0, none⟩) n b.cO] 27)).alloc
    (.cells #[.int .i64 0, .slice none 0 0, .slice none 0 0, .slice none 0 0] 27) = wx at HC ⊢
  have cL := HC.out.line p hp
  rw [Hl.out] at cL
  have d0 := HC.out.c0
  have d1 := HC.out.c1
  have d2 := HC.out.c2
  have d3 := HC.out.c3
  have r0 := HC.out.row p hp
  have r1 := HC.out.num p 0 hp (by omega)
  rw [Hk.out] at r1
  go_wp2_with fail
  have i0a : (0 : Int) ≤ (k : Int) := by omega
  have i0b : (k : Int) < 2 * (n : Int) := by omega
  have HC0 := HC
  replace HC := Lib.hid HC.out.drew
  have s0 := HC0.out.c0
  have s1 := HC0.out.c1
  have s2 := HC0.out.c2
  have s3 := HC0.out.c3
  have s4 := HC0.out.word (k) (by omega)
  go_region_held3 (fun w' => w'.cell? ⟨w.heap.size, 0, none⟩ = some (.int .i64 n) ∧ w'.cell? ⟨w.heap.size, 1, none⟩ = some (.slice (some ⟨b.bW, 0, none⟩) (2 * n) b.cW) ∧ w'.cell? ⟨w.heap.size, 2, none⟩ = some (.slice (some ⟨b.bA, 0, none⟩) n b.cA) ∧ w'.cell? ⟨w.heap.size, 3, none⟩ = some (.slice (some ⟨b.bO, 0, none⟩) n b.cO) ∧ w'.cell? ⟨b.bW, k, none⟩ = some (.int .i64 (m.wd (k))))
    (first | (with_reducible exact ⟨s0, s1, s2, s3, s4⟩) | (with_reducible exact ⟨HC.out.c0, HC.out.c1, HC.out.c2, HC.out.c3, HC.out.word (k) (by omega)⟩) | (with_reducible exact ⟨HC.out.c0s _ _ _ _, HC.out.c1s _ _ _ _, HC.out.c2s _ _ _ _, HC.out.c3s _ _ _ _, HC.out.words (k) (by omega) _ _ _ _⟩))
    (first
      | (go_at_call 74; refine (goes_any _ (p := p) rfl ⟨b, rfl, HC.out.mach⟩ HC.out.new (by omega) (by omega) hp (show 0 ≤ m.at_ p ∧ m.at_ p ≤ 100 by rw [Hl.out]; omega)).mono ?_; rintro e w1 ⟨_, rfl, ⟨b', rfl, hm'⟩, hbel⟩; replace HC := Lib.hid (HC.out.below hbel); have q0 := HC.out.o0; have q1 := HC.out.o1; have q2 := HC.out.o2; have q3 := HC.out.o3; have f2 := HC.out.f 0; have f3 := HC.out.f 1; have f4 := HC.out.f 2; have f5 := HC.out.f 3; unfold MB.val; clear hbel))
  go_wp2_with fail
  exact HC.out.ret hm' rfl rfl rfl

set_option maxHeartbeats 4000000 in
set_option maxRecDepth 100000 in
theorem l6a {w : World} {A : Nat → Prop} {n p : Nat} {v : Value} {m : MS} (h : MRep w A n (2 * n) 2 v m) (hA : ∀ k, w.heap.size ≤ k → A k) (hp : p < n) (hn : n ≤ 4) (hl : m.at_ p = 6) {k : Nat} (hk : m.ow p 0 = (k : Int)) (hkn : k ≤ n) (hks : k < n) (hx : m.wd (n + k) = 0) :
    Calls Tryd.prog 58 #[v, .int .i64 p] w (Next A n (2 * n) 2 (goes1 (own1 m p 0 ((k : Int) + 1)) p ((k : Int) + 1 == (n : Int)) (5)) w) := by
  obtain ⟨b, rfl, h⟩ := h
  have HC := Lib.hid ((boxed w n (2 * n) b).cx h hA (by omega) (by omega))
  have hpn : (p : Int) < n := by omega
  have hn0 : (1 : Int) ≤ n := by omega
  have Hl := Lib.hid hl
  have Hk := Lib.hid hk
  clear hk
  have t1 : (m.wd (n + k) == 0) = true := by first | (simp; done) | (simp; omega) | omega
  clear hx
  clear h hA hl
  unfold MB.val
  go_enter Tryd.func58, Tryd.ntmps58
  go_upto_region 1 with fail
  generalize (w.alloc (.cells #[.int .i64 n, .slice (some ⟨b.bW, 0, none⟩) (2 * n) b.cW, .slice (some ⟨b.bA, 0, none⟩) n b.cA, .slice (some ⟨b.bO, 0, none⟩) n b.cO] 27)).alloc
    (.cells #[.int .i64 0, .slice none 0 0, .slice none 0 0, .slice none 0 0] 27) = wx at HC ⊢
  have cL := HC.out.line p hp
  rw [Hl.out] at cL
  have d0 := HC.out.c0
  have d1 := HC.out.c1
  have d2 := HC.out.c2
  have d3 := HC.out.c3
  have r0 := HC.out.row p hp
  have r1 := HC.out.num p 0 hp (by omega)
  rw [Hk.out] at r1
  have r2 := HC.out.word (n + k) (by omega)
  have r3 := HC.out.word (n + p) (by omega)
  go_wp2_with fail
  refine (own_any rfl (i := 0) rfl ⟨b, rfl, HC.out.mach⟩ HC.out.new (by omega) (by omega) (by omega) hp (by omega)).mono ?_
  rintro e w1 ⟨v1, rfl, h1, hbel⟩
  replace HC := Lib.hid (HC.out.below hbel)
  clear hbel
  go_wp2_with fail
  refine (goes_any _ (p := p) rfl h1 HC.out.new (by omega) (by omega) hp (show 0 ≤ m.at_ p ∧ m.at_ p ≤ 100 by rw [Hl.out]; omega)).mono ?_
  rintro e w2 ⟨_, rfl, ⟨b', rfl, hm'⟩, hbel⟩
  replace HC := Lib.hid (HC.out.below hbel)
  have q0 := HC.out.o0
  have q1 := HC.out.o1
  have q2 := HC.out.o2
  have q3 := HC.out.o3
  have f2 := HC.out.f 0
  have f3 := HC.out.f 1
  have f4 := HC.out.f 2
  have f5 := HC.out.f 3
  unfold MB.val
  clear hbel
  go_wp2_with fail
  exact HC.out.ret hm' rfl rfl rfl

set_option maxHeartbeats 4000000 in
set_option maxRecDepth 100000 in
theorem l6b {w : World} {A : Nat → Prop} {n p : Nat} {v : Value} {m : MS} (h : MRep w A n (2 * n) 2 v m) (hA : ∀ k, w.heap.size ≤ k → A k) (hp : p < n) (hn : n ≤ 4) (hl : m.at_ p = 6) {k : Nat} (hk : m.ow p 0 = (k : Int)) (hkn : k ≤ n) (hks : k < n) (hx : m.wd (n + k) ≠ 0 ∧ m.wd (n + p) < m.wd (n + k)) :
    Calls Tryd.prog 58 #[v, .int .i64 p] w (Next A n (2 * n) 2 (goes1 (own1 m p 0 ((k : Int) + 1)) p ((k : Int) + 1 == (n : Int)) (5)) w) := by
  obtain ⟨b, rfl, h⟩ := h
  have HC := Lib.hid ((boxed w n (2 * n) b).cx h hA (by omega) (by omega))
  have hpn : (p : Int) < n := by omega
  have hn0 : (1 : Int) ≤ n := by omega
  have Hl := Lib.hid hl
  have Hk := Lib.hid hk
  clear hk
  have t1 : (m.wd (n + k) == 0) = false := by first | (simp; done) | (simp; omega) | omega
  have t2 : decide (m.wd (n + p) < m.wd (n + k)) = true := by first | (simp; done) | (simp; omega) | omega
  clear hx
  clear h hA hl
  unfold MB.val
  go_enter Tryd.func58, Tryd.ntmps58
  go_upto_region 1 with fail
  generalize (w.alloc (.cells #[.int .i64 n, .slice (some ⟨b.bW, 0, none⟩) (2 * n) b.cW, .slice (some ⟨b.bA, 0, none⟩) n b.cA, .slice (some ⟨b.bO, 0, none⟩) n b.cO] 27)).alloc
    (.cells #[.int .i64 0, .slice none 0 0, .slice none 0 0, .slice none 0 0] 27) = wx at HC ⊢
  have cL := HC.out.line p hp
  rw [Hl.out] at cL
  have d0 := HC.out.c0
  have d1 := HC.out.c1
  have d2 := HC.out.c2
  have d3 := HC.out.c3
  have r0 := HC.out.row p hp
  have r1 := HC.out.num p 0 hp (by omega)
  rw [Hk.out] at r1
  have r2 := HC.out.word (n + k) (by omega)
  have r3 := HC.out.word (n + p) (by omega)
  go_wp2_with fail
  refine (own_any rfl (i := 0) rfl ⟨b, rfl, HC.out.mach⟩ HC.out.new (by omega) (by omega) (by omega) hp (by omega)).mono ?_
  rintro e w1 ⟨v1, rfl, h1, hbel⟩
  replace HC := Lib.hid (HC.out.below hbel)
  clear hbel
  go_wp2_with fail
  refine (goes_any _ (p := p) rfl h1 HC.out.new (by omega) (by omega) hp (show 0 ≤ m.at_ p ∧ m.at_ p ≤ 100 by rw [Hl.out]; omega)).mono ?_
  rintro e w2 ⟨_, rfl, ⟨b', rfl, hm'⟩, hbel⟩
  replace HC := Lib.hid (HC.out.below hbel)
  have q0 := HC.out.o0
  have q1 := HC.out.o1
  have q2 := HC.out.o2
  have q3 := HC.out.o3
  have f2 := HC.out.f 0
  have f3 := HC.out.f 1
  have f4 := HC.out.f 2
  have f5 := HC.out.f 3
  unfold MB.val
  clear hbel
  go_wp2_with fail
  exact HC.out.ret hm' rfl rfl rfl

set_option maxHeartbeats 4000000 in
set_option maxRecDepth 100000 in
theorem l6c {w : World} {A : Nat → Prop} {n p : Nat} {v : Value} {m : MS} (h : MRep w A n (2 * n) 2 v m) (hA : ∀ k, w.heap.size ≤ k → A k) (hp : p < n) (hn : n ≤ 4) (hl : m.at_ p = 6) {k : Nat} (hk : m.ow p 0 = (k : Int)) (hkn : k ≤ n) (hks : k < n) (hx : m.wd (n + k) ≠ 0 ∧ m.wd (n + k) = m.wd (n + p) ∧ p ≤ k) :
    Calls Tryd.prog 58 #[v, .int .i64 p] w (Next A n (2 * n) 2 (goes1 (own1 m p 0 ((k : Int) + 1)) p ((k : Int) + 1 == (n : Int)) (5)) w) := by
  obtain ⟨b, rfl, h⟩ := h
  have HC := Lib.hid ((boxed w n (2 * n) b).cx h hA (by omega) (by omega))
  have hpn : (p : Int) < n := by omega
  have hn0 : (1 : Int) ≤ n := by omega
  have Hl := Lib.hid hl
  have Hk := Lib.hid hk
  clear hk
  have t1 : (m.wd (n + k) == 0) = false := by first | (simp; done) | (simp; omega) | omega
  have t2 : decide (m.wd (n + p) < m.wd (n + k)) = false := by first | (simp; done) | (simp; omega) | omega
  have t3 : (m.wd (n + k) == m.wd (n + p)) = true := by first | (simp; done) | (simp; omega) | omega
  have t4 : decide ((p : Int) ≤ (k : Int)) = true := by first | (simp; done) | (simp; omega) | omega
  have t5 : decide (p ≤ k) = true := by first | (simp; done) | (simp; omega) | omega
  clear hx
  clear h hA hl
  unfold MB.val
  go_enter Tryd.func58, Tryd.ntmps58
  go_upto_region 1 with fail
  generalize (w.alloc (.cells #[.int .i64 n, .slice (some ⟨b.bW, 0, none⟩) (2 * n) b.cW, .slice (some ⟨b.bA, 0, none⟩) n b.cA, .slice (some ⟨b.bO, 0, none⟩) n b.cO] 27)).alloc
    (.cells #[.int .i64 0, .slice none 0 0, .slice none 0 0, .slice none 0 0] 27) = wx at HC ⊢
  have cL := HC.out.line p hp
  rw [Hl.out] at cL
  have d0 := HC.out.c0
  have d1 := HC.out.c1
  have d2 := HC.out.c2
  have d3 := HC.out.c3
  have r0 := HC.out.row p hp
  have r1 := HC.out.num p 0 hp (by omega)
  rw [Hk.out] at r1
  have r2 := HC.out.word (n + k) (by omega)
  have r3 := HC.out.word (n + p) (by omega)
  go_wp2_with fail
  refine (own_any rfl (i := 0) rfl ⟨b, rfl, HC.out.mach⟩ HC.out.new (by omega) (by omega) (by omega) hp (by omega)).mono ?_
  rintro e w1 ⟨v1, rfl, h1, hbel⟩
  replace HC := Lib.hid (HC.out.below hbel)
  clear hbel
  go_wp2_with fail
  refine (goes_any _ (p := p) rfl h1 HC.out.new (by omega) (by omega) hp (show 0 ≤ m.at_ p ∧ m.at_ p ≤ 100 by rw [Hl.out]; omega)).mono ?_
  rintro e w2 ⟨_, rfl, ⟨b', rfl, hm'⟩, hbel⟩
  replace HC := Lib.hid (HC.out.below hbel)
  have q0 := HC.out.o0
  have q1 := HC.out.o1
  have q2 := HC.out.o2
  have q3 := HC.out.o3
  have f2 := HC.out.f 0
  have f3 := HC.out.f 1
  have f4 := HC.out.f 2
  have f5 := HC.out.f 3
  unfold MB.val
  clear hbel
  go_wp2_with fail
  exact HC.out.ret hm' rfl rfl rfl

set_option maxHeartbeats 4000000 in
set_option maxRecDepth 100000 in
theorem l6d {w : World} {A : Nat → Prop} {n p : Nat} {v : Value} {m : MS} (h : MRep w A n (2 * n) 2 v m) (hA : ∀ k, w.heap.size ≤ k → A k) (hp : p < n) (hn : n ≤ 4) (hl : m.at_ p = 6) {k : Nat} (hk : m.ow p 0 = (k : Int)) (hkn : k ≤ n) (hks : k < n) (hx : m.wd (n + k) ≠ 0 ∧ m.wd (n + k) < m.wd (n + p)) :
    Calls Tryd.prog 58 #[v, .int .i64 p] w (Next A n (2 * n) 2 m w) := by
  obtain ⟨b, rfl, h⟩ := h
  have HC := Lib.hid ((boxed w n (2 * n) b).cx h hA (by omega) (by omega))
  have hpn : (p : Int) < n := by omega
  have hn0 : (1 : Int) ≤ n := by omega
  have Hl := Lib.hid hl
  have Hk := Lib.hid hk
  clear hk
  have t1 : (m.wd (n + k) == 0) = false := by first | (simp; done) | (simp; omega) | omega
  have t2 : decide (m.wd (n + p) < m.wd (n + k)) = false := by first | (simp; done) | (simp; omega) | omega
  have t3 : (m.wd (n + k) == m.wd (n + p)) = false := by first | (simp; done) | (simp; omega) | omega
  clear hx
  clear h hA hl
  unfold MB.val
  go_enter Tryd.func58, Tryd.ntmps58
  go_upto_region 1 with fail
  generalize (w.alloc (.cells #[.int .i64 n, .slice (some ⟨b.bW, 0, none⟩) (2 * n) b.cW, .slice (some ⟨b.bA, 0, none⟩) n b.cA, .slice (some ⟨b.bO, 0, none⟩) n b.cO] 27)).alloc
    (.cells #[.int .i64 0, .slice none 0 0, .slice none 0 0, .slice none 0 0] 27) = wx at HC ⊢
  have cL := HC.out.line p hp
  rw [Hl.out] at cL
  have d0 := HC.out.c0
  have d1 := HC.out.c1
  have d2 := HC.out.c2
  have d3 := HC.out.c3
  have r0 := HC.out.row p hp
  have r1 := HC.out.num p 0 hp (by omega)
  rw [Hk.out] at r1
  have r2 := HC.out.word (n + k) (by omega)
  have r3 := HC.out.word (n + p) (by omega)
  have q0 := HC.out.o0
  have q1 := HC.out.o1
  have q2 := HC.out.o2
  have q3 := HC.out.o3
  have f2 := HC.out.f 0
  have f3 := HC.out.f 1
  have f4 := HC.out.f 2
  have f5 := HC.out.f 3
  go_wp2_with fail
  exact HC.out.ret HC.out.mach rfl rfl rfl

set_option maxHeartbeats 4000000 in
set_option maxRecDepth 100000 in
theorem l6e {w : World} {A : Nat → Prop} {n p : Nat} {v : Value} {m : MS} (h : MRep w A n (2 * n) 2 v m) (hA : ∀ k, w.heap.size ≤ k → A k) (hp : p < n) (hn : n ≤ 4) (hl : m.at_ p = 6) {k : Nat} (hk : m.ow p 0 = (k : Int)) (hkn : k ≤ n) (hks : k < n) (hx : m.wd (n + k) ≠ 0 ∧ m.wd (n + k) = m.wd (n + p) ∧ k < p) :
    Calls Tryd.prog 58 #[v, .int .i64 p] w (Next A n (2 * n) 2 m w) := by
  obtain ⟨b, rfl, h⟩ := h
  have HC := Lib.hid ((boxed w n (2 * n) b).cx h hA (by omega) (by omega))
  have hpn : (p : Int) < n := by omega
  have hn0 : (1 : Int) ≤ n := by omega
  have Hl := Lib.hid hl
  have Hk := Lib.hid hk
  clear hk
  have t1 : (m.wd (n + k) == 0) = false := by first | (simp; done) | (simp; omega) | omega
  have t2 : decide (m.wd (n + p) < m.wd (n + k)) = false := by first | (simp; done) | (simp; omega) | omega
  have t3 : (m.wd (n + k) == m.wd (n + p)) = true := by first | (simp; done) | (simp; omega) | omega
  have t4 : decide ((p : Int) ≤ (k : Int)) = false := by first | (simp; done) | (simp; omega) | omega
  have t5 : decide (p ≤ k) = false := by first | (simp; done) | (simp; omega) | omega
  clear hx
  clear h hA hl
  unfold MB.val
  go_enter Tryd.func58, Tryd.ntmps58
  go_upto_region 1 with fail
  generalize (w.alloc (.cells #[.int .i64 n, .slice (some ⟨b.bW, 0, none⟩) (2 * n) b.cW, .slice (some ⟨b.bA, 0, none⟩) n b.cA, .slice (some ⟨b.bO, 0, none⟩) n b.cO] 27)).alloc
    (.cells #[.int .i64 0, .slice none 0 0, .slice none 0 0, .slice none 0 0] 27) = wx at HC ⊢
  have cL := HC.out.line p hp
  rw [Hl.out] at cL
  have d0 := HC.out.c0
  have d1 := HC.out.c1
  have d2 := HC.out.c2
  have d3 := HC.out.c3
  have r0 := HC.out.row p hp
  have r1 := HC.out.num p 0 hp (by omega)
  rw [Hk.out] at r1
  have r2 := HC.out.word (n + k) (by omega)
  have r3 := HC.out.word (n + p) (by omega)
  have q0 := HC.out.o0
  have q1 := HC.out.o1
  have q2 := HC.out.o2
  have q3 := HC.out.o3
  have f2 := HC.out.f 0
  have f3 := HC.out.f 1
  have f4 := HC.out.f 2
  have f5 := HC.out.f 3
  go_wp2_with fail
  exact HC.out.ret HC.out.mach rfl rfl rfl

set_option maxHeartbeats 4000000 in
set_option maxRecDepth 100000 in
theorem l7 {w : World} {A : Nat → Prop} {n p : Nat} {v : Value} {m : MS} (h : MRep w A n (2 * n) 2 v m) (hA : ∀ k, w.heap.size ≤ k → A k) (hp : p < n) (hn : n ≤ 4) (hl : m.at_ p = 7) {k : Nat} (hk : m.ow p 0 = (k : Int)) (hkn : k ≤ n)  :
    Calls Tryd.prog 58 #[v, .int .i64 p] w (Next A n (2 * n) 2 (to1 m p (8)) w) := by
  obtain ⟨b, rfl, h⟩ := h
  have HC := Lib.hid ((boxed w n (2 * n) b).cx h hA (by omega) (by omega))
  have hpn : (p : Int) < n := by omega
  have hn0 : (1 : Int) ≤ n := by omega
  have Hl := Lib.hid hl
  have Hk := Lib.hid hk
  clear hk
  clear h hA hl
  unfold MB.val
  go_enter Tryd.func58, Tryd.ntmps58
  go_upto_region 1 with fail
  generalize (w.alloc (.cells #[.int .i64 n, .slice (some ⟨b.bW, 0, none⟩) (2 * n) b.cW, .slice (some ⟨b.bA, 0, none⟩) n b.cA, .slice (some ⟨b.bO, 0, none⟩) n b.cO] 27)).alloc
    (.cells #[.int .i64 0, .slice none 0 0, .slice none 0 0, .slice none 0 0] 27) = wx at HC ⊢
  have cL := HC.out.line p hp
  rw [Hl.out] at cL
  have d0 := HC.out.c0
  have d1 := HC.out.c1
  have d2 := HC.out.c2
  have d3 := HC.out.c3
  have r0 := HC.out.row p hp
  have r1 := HC.out.num p 0 hp (by omega)
  rw [Hk.out] at r1
  go_wp2_with fail
  refine (to_any (p := p) rfl ⟨b, rfl, HC.out.mach⟩ HC.out.new (by omega) (by omega) hp).mono ?_
  rintro e w1 ⟨_, rfl, ⟨b', rfl, hm'⟩, hbel⟩
  replace HC := Lib.hid (HC.out.below hbel)
  have q0 := HC.out.o0
  have q1 := HC.out.o1
  have q2 := HC.out.o2
  have q3 := HC.out.o3
  have f2 := HC.out.f 0
  have f3 := HC.out.f 1
  have f4 := HC.out.f 2
  have f5 := HC.out.f 3
  unfold MB.val
  clear hbel
  go_wp2_with fail
  exact HC.out.ret hm' rfl rfl rfl

set_option maxHeartbeats 4000000 in
set_option maxRecDepth 100000 in
theorem l8 {w : World} {A : Nat → Prop} {n p : Nat} {v : Value} {m : MS} (h : MRep w A n (2 * n) 2 v m) (hA : ∀ k, w.heap.size ≤ k → A k) (hp : p < n) (hn : n ≤ 4) (hl : m.at_ p = 8) {k : Nat} (hk : m.ow p 0 = (k : Int)) (hkn : k ≤ n)  :
    Calls Tryd.prog 58 #[v, .int .i64 p] w (Next A n (2 * n) 2 (to1 (own1 (own1 (word1 m (n + p) (0)) p 0 (0)) p 1 (0)) p (1)) w) := by
  obtain ⟨b, rfl, h⟩ := h
  have HC := Lib.hid ((boxed w n (2 * n) b).cx h hA (by omega) (by omega))
  have hpn : (p : Int) < n := by omega
  have hn0 : (1 : Int) ≤ n := by omega
  have Hl := Lib.hid hl
  have Hk := Lib.hid hk
  clear hk
  clear h hA hl
  unfold MB.val
  go_enter Tryd.func58, Tryd.ntmps58
  go_upto_region 1 with fail
  generalize (w.alloc (.cells #[.int .i64 n, .slice (some ⟨b.bW, 0, none⟩) (2 * n) b.cW, .slice (some ⟨b.bA, 0, none⟩) n b.cA, .slice (some ⟨b.bO, 0, none⟩) n b.cO] 27)).alloc
    (.cells #[.int .i64 0, .slice none 0 0, .slice none 0 0, .slice none 0 0] 27) = wx at HC ⊢
  have cL := HC.out.line p hp
  rw [Hl.out] at cL
  have d0 := HC.out.c0
  have d1 := HC.out.c1
  have d2 := HC.out.c2
  have d3 := HC.out.c3
  have r0 := HC.out.row p hp
  have r1 := HC.out.num p 0 hp (by omega)
  rw [Hk.out] at r1
  go_wp2_with fail
  refine (word_any (i := n + p) (by first | rfl | omega | (rw [IntWalk.i64_in _ (by omega)]; omega)) ⟨b, rfl, HC.out.mach⟩ HC.out.new (by omega) (by omega) (by omega)).mono ?_
  rintro e w1 ⟨v1, rfl, h1, hbel⟩
  replace HC := Lib.hid (HC.out.below hbel)
  clear hbel
  go_wp2_with fail
  refine (own_any rfl (i := 0) rfl h1 HC.out.new (by omega) (by omega) (by omega) hp (by omega)).mono ?_
  rintro e w2 ⟨v2, rfl, h2, hbel⟩
  replace HC := Lib.hid (HC.out.below hbel)
  clear hbel
  go_wp2_with fail
  refine (own_any rfl (i := 1) rfl h2 HC.out.new (by omega) (by omega) (by omega) hp (by omega)).mono ?_
  rintro e w3 ⟨v3, rfl, h3, hbel⟩
  replace HC := Lib.hid (HC.out.below hbel)
  clear hbel
  go_wp2_with fail
  refine (to_any (p := p) rfl h3 HC.out.new (by omega) (by omega) hp).mono ?_
  rintro e w4 ⟨_, rfl, ⟨b', rfl, hm'⟩, hbel⟩
  replace HC := Lib.hid (HC.out.below hbel)
  have q0 := HC.out.o0
  have q1 := HC.out.o1
  have q2 := HC.out.o2
  have q3 := HC.out.o3
  have f2 := HC.out.f 0
  have f3 := HC.out.f 1
  have f4 := HC.out.f 2
  have f5 := HC.out.f 3
  unfold MB.val
  clear hbel
  go_wp2_with fail
  exact HC.out.ret hm' rfl rfl rfl
end Go.Proofs.YtgkfgijmccojjaaDoor.MBakery
