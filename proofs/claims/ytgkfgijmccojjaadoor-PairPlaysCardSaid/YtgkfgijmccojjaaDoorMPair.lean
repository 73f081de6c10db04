import Derived.Test.YtgkfgijmccojjaaDoorMach
namespace Go.Proofs.YtgkfgijmccojjaaDoor.MPair
open Go.RowKit
set_option linter.unusedVariables false

set_option maxHeartbeats 4000000 in
set_option maxRecDepth 100000 in
theorem l1_0 {w : World} {A : Nat → Prop} {n : Nat} {v : Value} {m : MS} (h : MRep w A n (3) 0 v m) (hA : ∀ k, w.heap.size ≤ k → A k) (hp : 0 < n) (hn : n ≤ 4) (hl : m.at_ 0 = 1)   :
    Calls Tryd.prog 17 #[v, .int .i64 0] w (Next A n (3) 0 (to1 (word1 m (0) (1)) 0 (2)) w) := by
  obtain ⟨b, rfl, h⟩ := h
  have HC := Lib.hid ((boxed w n (3) b).cx h hA (by omega) (by omega))
  have hpn : (0 : Int) < n := by omega
  have hn0 : (1 : Int) ≤ n := by omega
  have Hl := Lib.hid hl
  clear h hA hl
  unfold MB.val
  go_enter Tryd.func17, Tryd.ntmps17
  go_upto_region 1 with fail
  generalize (w.alloc (.cells #[.int .i64 n, .slice (some ⟨b.bW, 0, none⟩) (3) b.cW, .slice (some ⟨b.bA, 0, none⟩) n b.cA, .slice (some ⟨b.bO, 0, none⟩) n b.cO] 27)).alloc
    (.cells #[.int .i64 0, .slice none 0 0, .slice none 0 0, .slice none 0 0] 27) = wx at HC ⊢
  have cL := HC.out.line 0 hp
  rw [Hl.out] at cL
  have d0 := HC.out.c0
  have d1 := HC.out.c1
  have d2 := HC.out.c2
  have d3 := HC.out.c3
  go_wp2_with fail
  refine (word_any (i := 0) (rfl) ⟨b, rfl, HC.out.mach⟩ HC.out.new (by omega) (by omega) (by omega)).mono ?_
  rintro e w1 ⟨v1, rfl, h1, hbel⟩
  replace HC := Lib.hid (HC.out.below hbel)
  clear hbel
  go_wp2_with fail
  refine (to_any (p := 0) rfl h1 HC.out.new (by omega) (by omega) hp).mono ?_
  rintro e w2 ⟨_, rfl, ⟨b', rfl, hm'⟩, hbel⟩
  replace HC := Lib.hid (HC.out.below hbel)
  have q0 := HC.out.o0
  have q1 := HC.out.o1
  have q2 := HC.out.o2
  have q3 := HC.out.o3
  have f2 := HC.out.f 0
  have f3 := HC.out.f 1
  have f4 := HC.out.f 2
  have f5 := HC.out.f 3
  unfold MB.val
  clear hbel
  go_wp2_with fail
  exact HC.out.ret hm' rfl rfl rfl

set_option maxHeartbeats 4000000 in
set_option maxRecDepth 100000 in
theorem l2_0 {w : World} {A : Nat → Prop} {n : Nat} {v : Value} {m : MS} (h : MRep w A n (3) 0 v m) (hA : ∀ k, w.heap.size ≤ k → A k) (hp : 0 < n) (hn : n ≤ 4) (hl : m.at_ 0 = 2)   :
    Calls Tryd.prog 17 #[v, .int .i64 0] w (Next A n (3) 0 (to1 (word1 m (2) (1)) 0 (3)) w) := by
  obtain ⟨b, rfl, h⟩ := h
  have HC := Lib.hid ((boxed w n (3) b).cx h hA (by omega) (by omega))
  have hpn : (0 : Int) < n := by omega
  have hn0 : (1 : Int) ≤ n := by omega
  have Hl := Lib.hid hl
  clear h hA hl
  unfold MB.val
  go_enter Tryd.func17, Tryd.ntmps17
  go_upto_region 1 with fail
  generalize (w.alloc (.cells #[.int .i64 n, .slice (some ⟨b.bW, 0, none⟩) (3) b.cW, .slice (some ⟨b.bA, 0, none⟩) n b.cA, .slice (some ⟨b.bO, 0, none⟩) n b.cO] 27)).alloc
    (.cells #[.int .i64 0, .slice none 0 0, .slice none 0 0, .slice none 0 0] 27) = wx at HC ⊢
  have cL := HC.out.line 0 hp
  rw [Hl.out] at cL
  have d0 := HC.out.c0
  have d1 := HC.out.c1
  have d2 := HC.out.c2
  have d3 := HC.out.c3
  go_wp2_with fail
  refine (word_any (i := 2) (rfl) ⟨b, rfl, HC.out.mach⟩ HC.out.new (by omega) (by omega) (by omega)).mono ?_
  rintro e w1 ⟨v1, rfl, h1, hbel⟩
  replace HC := Lib.hid (HC.out.below hbel)
  clear hbel
  go_wp2_with fail
  refine (to_any (p := 0) rfl h1 HC.out.new (by omega) (by omega) hp).mono ?_
  rintro e w2 ⟨_, rfl, ⟨b', rfl, hm'⟩, hbel⟩
  replace HC := Lib.hid (HC.out.below hbel)
  have q0 := HC.out.o0
  have q1 := HC.out.o1
  have q2 := HC.out.o2
  have q3 := HC.out.o3
  have f2 := HC.out.f 0
  have f3 := HC.out.f 1
  have f4 := HC.out.f 2
  have f5 := HC.out.f 3
  unfold MB.val
  clear hbel
  go_wp2_with fail
  exact HC.out.ret hm' rfl rfl rfl

set_option maxHeartbeats 4000000 in
set_option maxRecDepth 100000 in
theorem l3_0 {w : World} {A : Nat → Prop} {n : Nat} {v : Value} {m : MS} (h : MRep w A n (3) 0 v m) (hA : ∀ k, w.heap.size ≤ k → A k) (hp : 0 < n) (hn : n ≤ 4) (hl : m.at_ 0 = 3)   :
    Calls Tryd.prog 17 #[v, .int .i64 0] w (Next A n (3) 0 (goes1 m 0 (m.wd 1 != 0) (5)) w) := by
  obtain ⟨b, rfl, h⟩ := h
  have HC := Lib.hid ((boxed w n (3) b).cx h hA (by omega) (by omega))
  have hpn : (0 : Int) < n := by omega
  have hn0 : (1 : Int) ≤ n := by omega
  have Hl := Lib.hid hl
  clear h hA hl
  unfold MB.val
  go_enter Tryd.func17, Tryd.ntmps17
  go_upto_region 1 with fail
  generalize (w.alloc (.cells #[.int .i64 n, .slice (some ⟨b.bW, 0, none⟩) (3) b.cW, .slice (some ⟨b.bA, 0, none⟩) n b.cA, .slice (some ⟨b.bO, 0, none⟩) n b.cO] 27)).alloc
    (.cells #[.int .i64 0, .slice none 0 0, .slice none 0 0, .slice none 0 0] 27) = wx at HC ⊢
  have cL := HC.out.line 0 hp
  rw [Hl.out] at cL
  have d0 := HC.out.c0
  have d1 := HC.out.c1
  have d2 := HC.out.c2
  have d3 := HC.out.c3
  go_wp2_with fail
  have i0a : (0 : Int) ≤ (1 : Int) := by omega
  have i0b : (1 : Int) < (3 : Int) := by omega
  have HC0 := HC
  replace HC := Lib.hid HC.out.drew
  have s0 := HC0.out.c0
  have s1 := HC0.out.c1
  have s2 := HC0.out.c2
  have s3 := HC0.out.c3
  have s4 := HC0.out.word (1) (by omega)
  go_region_held3 (fun w' => w'.cell? ⟨w.heap.size, 0, none⟩ = some (.int .i64 n) ∧ w'.cell? ⟨w.heap.size, 1, none⟩ = some (.slice (some ⟨b.bW, 0, none⟩) (3) b.cW) ∧ w'.cell? ⟨w.heap.size, 2, none⟩ = some (.slice (some ⟨b.bA, 0, none⟩) n b.cA) ∧ w'.cell? ⟨w.heap.size, 3, none⟩ = some (.slice (some ⟨b.bO, 0, none⟩) n b.cO) ∧ w'.cell? ⟨b.bW, 1, none⟩ = some (.int .i64 (m.wd (1))))
    (first | (with_reducible exact ⟨s0, s1, s2, s3, s4⟩) | (with_reducible exact ⟨HC.out.c0, HC.out.c1, HC.out.c2, HC.out.c3, HC.out.word (1) (by omega)⟩) | (with_reducible exact ⟨HC.out.c0s _ _ _ _, HC.out.c1s _ _ _ _, HC.out.c2s _ _ _ _, HC.out.c3s _ _ _ _, HC.out.words (1) (by omega) _ _ _ _⟩))
    (first
      | (go_at_call 74; refine (goes_any _ (p := 0) rfl ⟨b, rfl, HC.out.mach⟩ HC.out.new (by omega) (by omega) hp (show 0 ≤ m.at_ 0 ∧ m.at_ 0 ≤ 100 by rw [Hl.out]; omega)).mono ?_; rintro e w1 ⟨_, rfl, ⟨b', rfl, hm'⟩, hbel⟩; replace HC := Lib.hid (HC.out.below hbel); have q0 := HC.out.o0; have q1 := HC.out.o1; have q2 := HC.out.o2; have q3 := HC.out.o3; have f2 := HC.out.f 0; have f3 := HC.out.f 1; have f4 := HC.out.f 2; have f5 := HC.out.f 3; unfold MB.val; clear hbel))
  go_wp2_with fail
  exact HC.out.ret hm' rfl rfl rfl

set_option maxHeartbeats 4000000 in
set_option maxRecDepth 100000 in
theorem l4_0 {w : World} {A : Nat → Prop} {n : Nat} {v : Value} {m : MS} (h : MRep w A n (3) 0 v m) (hA : ∀ k, w.heap.size ≤ k → A k) (hp : 0 < n) (hn : n ≤ 4) (hl : m.at_ 0 = 4)   :
    Calls Tryd.prog 17 #[v, .int .i64 0] w (Next A n (3) 0 (goes1 m 0 (m.wd 2 != 1) (3)) w) := by
  obtain ⟨b, rfl, h⟩ := h
  have HC := Lib.hid ((boxed w n (3) b).cx h hA (by omega) (by omega))
  have hpn : (0 : Int) < n := by omega
  have hn0 : (1 : Int) ≤ n := by omega
  have Hl := Lib.hid hl
  clear h hA hl
  unfold MB.val
  go_enter Tryd.func17, Tryd.ntmps17
  go_upto_region 1 with fail
  generalize (w.alloc (.cells #[.int .i64 n, .slice (some ⟨b.bW, 0, none⟩) (3) b.cW, .slice (some ⟨b.bA, 0, none⟩) n b.cA, .slice (some ⟨b.bO, 0, none⟩) n b.cO] 27)).alloc
    (.cells #[.int .i64 0, .slice none 0 0, .slice none 0 0, .slice none 0 0] 27) = wx at HC ⊢
  have cL := HC.out.line 0 hp
  rw [Hl.out] at cL
  have d0 := HC.out.c0
  have d1 := HC.out.c1
  have d2 := HC.out.c2
  have d3 := HC.out.c3
  go_wp2_with fail
  have i0a : (0 : Int) ≤ (2 : Int) := by omega
  have i0b : (2 : Int) < (3 : Int) := by omega
  have HC0 := HC
  replace HC := Lib.hid HC.out.drew
  have s0 := HC0.out.c0
  have s1 := HC0.out.c1
  have s2 := HC0.out.c2
  have s3 := HC0.out.c3
  have s4 := HC0.out.word (2) (by omega)
  go_region_held3 (fun w' => w'.cell? ⟨w.heap.size, 0, none⟩ = some (.int .i64 n) ∧ w'.cell? ⟨w.heap.size, 1, none⟩ = some (.slice (some ⟨b.bW, 0, none⟩) (3) b.cW) ∧ w'.cell? ⟨w.heap.size, 2, none⟩ = some (.slice (some ⟨b.bA, 0, none⟩) n b.cA) ∧ w'.cell? ⟨w.heap.size, 3, none⟩ = some (.slice (some ⟨b.bO, 0, none⟩) n b.cO) ∧ w'.cell? ⟨b.bW, 2, none⟩ = some (.int .i64 (m.wd (2))))
    (first | (with_reducible exact ⟨s0, s1, s2, s3, s4⟩) | (with_reducible exact ⟨HC.out.c0, HC.out.c1, HC.out.c2, HC.out.c3, HC.out.word (2) (by omega)⟩) | (with_reducible exact ⟨HC.out.c0s _ _ _ _, HC.out.c1s _ _ _ _, HC.out.c2s _ _ _ _, HC.out.c3s _ _ _ _, HC.out.words (2) (by omega) _ _ _ _⟩))
    (first
      | (go_at_call 74; refine (goes_any _ (p := 0) rfl ⟨b, rfl, HC.out.mach⟩ HC.out.new (by omega) (by omega) hp (show 0 ≤ m.at_ 0 ∧ m.at_ 0 ≤ 100 by rw [Hl.out]; omega)).mono ?_; rintro e w1 ⟨_, rfl, ⟨b', rfl, hm'⟩, hbel⟩; replace HC := Lib.hid (HC.out.below hbel); have q0 := HC.out.o0; have q1 := HC.out.o1; have q2 := HC.out.o2; have q3 := HC.out.o3; have f2 := HC.out.f 0; have f3 := HC.out.f 1; have f4 := HC.out.f 2; have f5 := HC.out.f 3; unfold MB.val; clear hbel))
  go_wp2_with fail
  exact HC.out.ret hm' rfl rfl rfl

set_option maxHeartbeats 4000000 in
set_option maxRecDepth 100000 in
theorem l5_0 {w : World} {A : Nat → Prop} {n : Nat} {v : Value} {m : MS} (h : MRep w A n (3) 0 v m) (hA : ∀ k, w.heap.size ≤ k → A k) (hp : 0 < n) (hn : n ≤ 4) (hl : m.at_ 0 = 5)   :
    Calls Tryd.prog 17 #[v, .int .i64 0] w (Next A n (3) 0 (to1 m 0 (6)) w) := by
  obtain ⟨b, rfl, h⟩ := h
  have HC := Lib.hid ((boxed w n (3) b).cx h hA (by omega) (by omega))
  have hpn : (0 : Int) < n := by omega
  have hn0 : (1 : Int) ≤ n := by omega
  have Hl := Lib.hid hl
  clear h hA hl
  unfold MB.val
  go_enter Tryd.func17, Tryd.ntmps17
  go_upto_region 1 with fail
  generalize (w.alloc (.cells #[.int .i64 n, .slice (some ⟨b.bW, 0, none⟩) (3) b.cW, .slice (some ⟨b.bA, 0, none⟩) n b.cA, .slice (some ⟨b.bO, 0, none⟩) n b.cO] 27)).alloc
    (.cells #[.int .i64 0, .slice none 0 0, .slice none 0 0, .slice none 0 0] 27) = wx at HC ⊢
  have cL := HC.out.line 0 hp
  rw [Hl.out] at cL
  have d0 := HC.out.c0
  have d1 := HC.out.c1
  have d2 := HC.out.c2
  have d3 := HC.out.c3
  go_wp2_with fail
  refine (to_any (p := 0) rfl ⟨b, rfl, HC.out.mach⟩ HC.out.new (by omega) (by omega) hp).mono ?_
  rintro e w1 ⟨_, rfl, ⟨b', rfl, hm'⟩, hbel⟩
  replace HC := Lib.hid (HC.out.below hbel)
  have q0 := HC.out.o0
  have q1 := HC.out.o1
  have q2 := HC.out.o2
  have q3 := HC.out.o3
  have f2 := HC.out.f 0
  have f3 := HC.out.f 1
  have f4 := HC.out.f 2
  have f5 := HC.out.f 3
  unfold MB.val
  clear hbel
  go_wp2_with fail
  exact HC.out.ret hm' rfl rfl rfl

set_option maxHeartbeats 4000000 in
set_option maxRecDepth 100000 in
theorem l6_0 {w : World} {A : Nat → Prop} {n : Nat} {v : Value} {m : MS} (h : MRep w A n (3) 0 v m) (hA : ∀ k, w.heap.size ≤ k → A k) (hp : 0 < n) (hn : n ≤ 4) (hl : m.at_ 0 = 6)   :
    Calls Tryd.prog 17 #[v, .int .i64 0] w (Next A n (3) 0 (to1 (word1 m (0) (0)) 0 (1)) w) := by
  obtain ⟨b, rfl, h⟩ := h
  have HC := Lib.hid ((boxed w n (3) b).cx h hA (by omega) (by omega))
  have hpn : (0 : Int) < n := by omega
  have hn0 : (1 : Int) ≤ n := by omega
  have Hl := Lib.hid hl
  clear h hA hl
  unfold MB.val
  go_enter Tryd.func17, Tryd.ntmps17
  go_upto_region 1 with fail
  generalize (w.alloc (.cells #[.int .i64 n, .slice (some ⟨b.bW, 0, none⟩) (3) b.cW, .slice (some ⟨b.bA, 0, none⟩) n b.cA, .slice (some ⟨b.bO, 0, none⟩) n b.cO] 27)).alloc
    (.cells #[.int .i64 0, .slice none 0 0, .slice none 0 0, .slice none 0 0] 27) = wx at HC ⊢
  have cL := HC.out.line 0 hp
  rw [Hl.out] at cL
  have d0 := HC.out.c0
  have d1 := HC.out.c1
  have d2 := HC.out.c2
  have d3 := HC.out.c3
  go_wp2_with fail
  refine (word_any (i := 0) (rfl) ⟨b, rfl, HC.out.mach⟩ HC.out.new (by omega) (by omega) (by omega)).mono ?_
  rintro e w1 ⟨v1, rfl, h1, hbel⟩
  replace HC := Lib.hid (HC.out.below hbel)
  clear hbel
  go_wp2_with fail
  refine (to_any (p := 0) rfl h1 HC.out.new (by omega) (by omega) hp).mono ?_
  rintro e w2 ⟨_, rfl, ⟨b', rfl, hm'⟩, hbel⟩
  replace HC := Lib.hid (HC.out.below hbel)
  have q0 := HC.out.o0
  have q1 := HC.out.o1
  have q2 := HC.out.o2
  have q3 := HC.out.o3
  have f2 := HC.out.f 0
  have f3 := HC.out.f 1
  have f4 := HC.out.f 2
  have f5 := HC.out.f 3
  unfold MB.val
  clear hbel
  go_wp2_with fail
  exact HC.out.ret hm' rfl rfl rfl

set_option maxHeartbeats 4000000 in
set_option maxRecDepth 100000 in
theorem l1_1 {w : World} {A : Nat → Prop} {n : Nat} {v : Value} {m : MS} (h : MRep w A n (3) 0 v m) (hA : ∀ k, w.heap.size ≤ k → A k) (hp : 1 < n) (hn : n ≤ 4) (hl : m.at_ 1 = 1)   :
    Calls Tryd.prog 17 #[v, .int .i64 1] w (Next A n (3) 0 (to1 (word1 m (1) (1)) 1 (2)) w) := by
  obtain ⟨b, rfl, h⟩ := h
  have HC := Lib.hid ((boxed w n (3) b).cx h hA (by omega) (by omega))
  have hpn : (1 : Int) < n := by omega
  have hn0 : (1 : Int) ≤ n := by omega
  have Hl := Lib.hid hl
  clear h hA hl
  unfold MB.val
  go_enter Tryd.func17, Tryd.ntmps17
  go_upto_region 1 with fail
  generalize (w.alloc (.cells #[.int .i64 n, .slice (some ⟨b.bW, 0, none⟩) (3) b.cW, .slice (some ⟨b.bA, 0, none⟩) n b.cA, .slice (some ⟨b.bO, 0, none⟩) n b.cO] 27)).alloc
    (.cells #[.int .i64 0, .slice none 0 0, .slice none 0 0, .slice none 0 0] 27) = wx at HC ⊢
  have cL := HC.out.line 1 hp
  rw [Hl.out] at cL
  have d0 := HC.out.c0
  have d1 := HC.out.c1
  have d2 := HC.out.c2
  have d3 := HC.out.c3
  go_wp2_with fail
  refine (word_any (i := 1) (rfl) ⟨b, rfl, HC.out.mach⟩ HC.out.new (by omega) (by omega) (by omega)).mono ?_
  rintro e w1 ⟨v1, rfl, h1, hbel⟩
  replace HC := Lib.hid (HC.out.below hbel)
  clear hbel
  go_wp2_with fail
  refine (to_any (p := 1) rfl h1 HC.out.new (by omega) (by omega) hp).mono ?_
  rintro e w2 ⟨_, rfl, ⟨b', rfl, hm'⟩, hbel⟩
  replace HC := Lib.hid (HC.out.below hbel)
  have q0 := HC.out.o0
  have q1 := HC.out.o1
  have q2 := HC.out.o2
  have q3 := HC.out.o3
  have f2 := HC.out.f 0
  have f3 := HC.out.f 1
  have f4 := HC.out.f 2
  have f5 := HC.out.f 3
  unfold MB.val
  clear hbel
  go_wp2_with fail
  exact HC.out.ret hm' rfl rfl rfl

set_option maxHeartbeats 4000000 in
set_option maxRecDepth 100000 in
theorem l2_1 {w : World} {A : Nat → Prop} {n : Nat} {v : Value} {m : MS} (h : MRep w A n (3) 0 v m) (hA : ∀ k, w.heap.size ≤ k → A k) (hp : 1 < n) (hn : n ≤ 4) (hl : m.at_ 1 = 2)   :
    Calls Tryd.prog 17 #[v, .int .i64 1] w (Next A n (3) 0 (to1 (word1 m (2) (0)) 1 (3)) w) := by
  obtain ⟨b, rfl, h⟩ := h
  have HC := Lib.hid ((boxed w n (3) b).cx h hA (by omega) (by omega))
  have hpn : (1 : Int) < n := by omega
  have hn0 : (1 : Int) ≤ n := by omega
  have Hl := Lib.hid hl
  clear h hA hl
  unfold MB.val
  go_enter Tryd.func17, Tryd.ntmps17
  go_upto_region 1 with fail
  generalize (w.alloc (.cells #[.int .i64 n, .slice (some ⟨b.bW, 0, none⟩) (3) b.cW, .slice (some ⟨b.bA, 0, none⟩) n b.cA, .slice (some ⟨b.bO, 0, none⟩) n b.cO] 27)).alloc
    (.cells #[.int .i64 0, .slice none 0 0, .slice none 0 0, .slice none 0 0] 27) = wx at HC ⊢
  have cL := HC.out.line 1 hp
  rw [Hl.out] at cL
  have d0 := HC.out.c0
  have d1 := HC.out.c1
  have d2 := HC.out.c2
  have d3 := HC.out.c3
  go_wp2_with fail
  refine (word_any (i := 2) (rfl) ⟨b, rfl, HC.out.mach⟩ HC.out.new (by omega) (by omega) (by omega)).mono ?_
  rintro e w1 ⟨v1, rfl, h1, hbel⟩
  replace HC := Lib.hid (HC.out.below hbel)
  clear hbel
  go_wp2_with fail
  refine (to_any (p := 1) rfl h1 HC.out.new (by omega) (by omega) hp).mono ?_
  rintro e w2 ⟨_, rfl, ⟨b', rfl, hm'⟩, hbel⟩
  replace HC := Lib.hid (HC.out.below hbel)
  have q0 := HC.out.o0
  have q1 := HC.out.o1
  have q2 := HC.out.o2
  have q3 := HC.out.o3
  have f2 := HC.out.f 0
  have f3 := HC.out.f 1
  have f4 := HC.out.f 2
  have f5 := HC.out.f 3
  unfold MB.val
  clear hbel
  go_wp2_with fail
  exact HC.out.ret hm' rfl rfl rfl

set_option maxHeartbeats 4000000 in
set_option maxRecDepth 100000 in
theorem l3_1 {w : World} {A : Nat → Prop} {n : Nat} {v : Value} {m : MS} (h : MRep w A n (3) 0 v m) (hA : ∀ k, w.heap.size ≤ k → A k) (hp : 1 < n) (hn : n ≤ 4) (hl : m.at_ 1 = 3)   :
    Calls Tryd.prog 17 #[v, .int .i64 1] w (Next A n (3) 0 (goes1 m 1 (m.wd 0 != 0) (5)) w) := by
  obtain ⟨b, rfl, h⟩ := h
  have HC := Lib.hid ((boxed w n (3) b).cx h hA (by omega) (by omega))
  have hpn : (1 : Int) < n := by omega
  have hn0 : (1 : Int) ≤ n := by omega
  have Hl := Lib.hid hl
  clear h hA hl
  unfold MB.val
  go_enter Tryd.func17, Tryd.ntmps17
  go_upto_region 1 with fail
  generalize (w.alloc (.cells #[.int .i64 n, .slice (some ⟨b.bW, 0, none⟩) (3) b.cW, .slice (some ⟨b.bA, 0, none⟩) n b.cA, .slice (some ⟨b.bO, 0, none⟩) n b.cO] 27)).alloc
    (.cells #[.int .i64 0, .slice none 0 0, .slice none 0 0, .slice none 0 0] 27) = wx at HC ⊢
  have cL := HC.out.line 1 hp
  rw [Hl.out] at cL
  have d0 := HC.out.c0
  have d1 := HC.out.c1
  have d2 := HC.out.c2
  have d3 := HC.out.c3
  go_wp2_with fail
  have i0a : (0 : Int) ≤ (0 : Int) := by omega
  have i0b : (0 : Int) < (3 : Int) := by omega
  have HC0 := HC
  replace HC := Lib.hid HC.out.drew
  have s0 := HC0.out.c0
  have s1 := HC0.out.c1
  have s2 := HC0.out.c2
  have s3 := HC0.out.c3
  have s4 := HC0.out.word (0) (by omega)
  go_region_held3 (fun w' => w'.cell? ⟨w.heap.size, 0, none⟩ = some (.int .i64 n) ∧ w'.cell? ⟨w.heap.size, 1, none⟩ = some (.slice (some ⟨b.bW, 0, none⟩) (3) b.cW) ∧ w'.cell? ⟨w.heap.size, 2, none⟩ = some (.slice (some ⟨b.bA, 0, none⟩) n b.cA) ∧ w'.cell? ⟨w.heap.size, 3, none⟩ = some (.slice (some ⟨b.bO, 0, none⟩) n b.cO) ∧ w'.cell? ⟨b.bW, 0, none⟩ = some (.int .i64 (m.wd (0))))
    (first | (with_reducible exact ⟨s0, s1, s2, s3, s4⟩) | (with_reducible exact ⟨HC.out.c0, HC.out.c1, HC.out.c2, HC.out.c3, HC.out.word (0) (by omega)⟩) | (with_reducible exact ⟨HC.out.c0s _ _ _ _, HC.out.c1s _ _ _ _, HC.out.c2s _ _ _ _, HC.out.c3s _ _ _ _, HC.out.words (0) (by omega) _ _ _ _⟩))
    (first
      | (go_at_call 74; refine (goes_any _ (p := 1) rfl ⟨b, rfl, HC.out.mach⟩ HC.out.new (by omega) (by omega) hp (show 0 ≤ m.at_ 1 ∧ m.at_ 1 ≤ 100 by rw [Hl.out]; omega)).mono ?_; rintro e w1 ⟨_, rfl, ⟨b', rfl, hm'⟩, hbel⟩; replace HC := Lib.hid (HC.out.below hbel); have q0 := HC.out.o0; have q1 := HC.out.o1; have q2 := HC.out.o2; have q3 := HC.out.o3; have f2 := HC.out.f 0; have f3 := HC.out.f 1; have f4 := HC.out.f 2; have f5 := HC.out.f 3; unfold MB.val; clear hbel))
  go_wp2_with fail
  exact HC.out.ret hm' rfl rfl rfl

set_option maxHeartbeats 4000000 in
set_option maxRecDepth 100000 in
theorem l4_1 {w : World} {A : Nat → Prop} {n : Nat} {v : Value} {m : MS} (h : MRep w A n (3) 0 v m) (hA : ∀ k, w.heap.size ≤ k → A k) (hp : 1 < n) (hn : n ≤ 4) (hl : m.at_ 1 = 4)   :
    Calls Tryd.prog 17 #[v, .int .i64 1] w (Next A n (3) 0 (goes1 m 1 (m.wd 2 != 0) (3)) w) := by
  obtain ⟨b, rfl, h⟩ := h
  have HC := Lib.hid ((boxed w n (3) b).cx h hA (by omega) (by omega))
  have hpn : (1 : Int) < n := by omega
  have hn0 : (1 : Int) ≤ n := by omega
  have Hl := Lib.hid hl
  clear h hA hl
  unfold MB.val
  go_enter Tryd.func17, Tryd.ntmps17
  go_upto_region 1 with fail
  generalize (w.alloc (.cells #[.int .i64 n, .slice (some ⟨b.bW, 0, none⟩) (3) b.cW, .slice (some ⟨b.bA, 0, none⟩) n b.cA, .slice (some ⟨b.bO, 0, none⟩) n b.cO] 27)).alloc
    (.cells #[.int .i64 0, .slice none 0 0, .slice none 0 0, .slice none 0 0] 27) = wx at HC ⊢
  have cL := HC.out.line 1 hp
  rw [Hl.out] at cL
  have d0 := HC.out.c0
  have d1 := HC.out.c1
  have d2 := HC.out.c2
  have d3 := HC.out.c3
  go_wp2_with fail
  have i0a : (0 : Int) ≤ (2 : Int) := by omega
  have i0b : (2 : Int) < (3 : Int) := by omega
  have HC0 := HC
  replace HC := Lib.hid HC.out.drew
  have s0 := HC0.out.c0
  have s1 := HC0.out.c1
  have s2 := HC0.out.c2
  have s3 := HC0.out.c3
  have s4 := HC0.out.word (2) (by omega)
  go_region_held3 (fun w' => w'.cell? ⟨w.heap.size, 0, none⟩ = some (.int .i64 n) ∧ w'.cell? ⟨w.heap.size, 1, none⟩ = some (.slice (some ⟨b.bW, 0, none⟩) (3) b.cW) ∧ w'.cell? ⟨w.heap.size, 2, none⟩ = some (.slice (some ⟨b.bA, 0, none⟩) n b.cA) ∧ w'.cell? ⟨w.heap.size, 3, none⟩ = some (.slice (some ⟨b.bO, 0, none⟩) n b.cO) ∧ w'.cell? ⟨b.bW, 2, none⟩ = some (.int .i64 (m.wd (2))))
    (first | (with_reducible exact ⟨s0, s1, s2, s3, s4⟩) | (with_reducible exact ⟨HC.out.c0, HC.out.c1, HC.out.c2, HC.out.c3, HC.out.word (2) (by omega)⟩) | (with_reducible exact ⟨HC.out.c0s _ _ _ _, HC.out.c1s _ _ _ _, HC.out.c2s _ _ _ _, HC.out.c3s _ _ _ _, HC.out.words (2) (by omega) _ _ _ _⟩))
    (first
      | (go_at_call 74; refine (goes_any _ (p := 1) rfl ⟨b, rfl, HC.out.mach⟩ HC.out.new (by omega) (by omega) hp (show 0 ≤ m.at_ 1 ∧ m.at_ 1 ≤ 100 by rw [Hl.out]; omega)).mono ?_; rintro e w1 ⟨_, rfl, ⟨b', rfl, hm'⟩, hbel⟩; replace HC := Lib.hid (HC.out.below hbel); have q0 := HC.out.o0; have q1 := HC.out.o1; have q2 := HC.out.o2; have q3 := HC.out.o3; have f2 := HC.out.f 0; have f3 := HC.out.f 1; have f4 := HC.out.f 2; have f5 := HC.out.f 3; unfold MB.val; clear hbel))
  go_wp2_with fail
  exact HC.out.ret hm' rfl rfl rfl

set_option maxHeartbeats 4000000 in
set_option maxRecDepth 100000 in
theorem l5_1 {w : World} {A : Nat → Prop} {n : Nat} {v : Value} {m : MS} (h : MRep w A n (3) 0 v m) (hA : ∀ k, w.heap.size ≤ k → A k) (hp : 1 < n) (hn : n ≤ 4) (hl : m.at_ 1 = 5)   :
    Calls Tryd.prog 17 #[v, .int .i64 1] w (Next A n (3) 0 (to1 m 1 (6)) w) := by
  obtain ⟨b, rfl, h⟩ := h
  have HC := Lib.hid ((boxed w n (3) b).cx h hA (by omega) (by omega))
  have hpn : (1 : Int) < n := by omega
  have hn0 : (1 : Int) ≤ n := by omega
  have Hl := Lib.hid hl
  clear h hA hl
  unfold MB.val
  go_enter Tryd.func17, Tryd.ntmps17
  go_upto_region 1 with fail
  generalize (w.alloc (.cells #[.int .i64 n, .slice (some ⟨b.bW, 0, none⟩) (3) b.cW, .slice (some ⟨b.bA, 0, none⟩) n b.cA, .slice (some ⟨b.bO, 0, none⟩) n b.cO] 27)).alloc
    (.cells #[.int .i64 0, .slice none 0 0, .slice none 0 0, .slice none 0 0] 27) = wx at HC ⊢
  have cL := HC.out.line 1 hp
  rw [Hl.out] at cL
  have d0 := HC.out.c0
  have d1 := HC.out.c1
  have d2 := HC.out.c2
  have d3 := HC.out.c3
  go_wp2_with fail
  refine (to_any (p := 1) rfl ⟨b, rfl, HC.out.mach⟩ HC.out.new (by omega) (by omega) hp).mono ?_
  rintro e w1 ⟨_, rfl, ⟨b', rfl, hm'⟩, hbel⟩
  replace HC := Lib.hid (HC.out.below hbel)
  have q0 := HC.out.o0
  have q1 := HC.out.o1
  have q2 := HC.out.o2
  have q3 := HC.out.o3
  have f2 := HC.out.f 0
  have f3 := HC.out.f 1
  have f4 := HC.out.f 2
  have f5 := HC.out.f 3
  unfold MB.val
  clear hbel
  go_wp2_with fail
  exact HC.out.ret hm' rfl rfl rfl

set_option maxHeartbeats 4000000 in
set_option maxRecDepth 100000 in
theorem l6_1 {w : World} {A : Nat → Prop} {n : Nat} {v : Value} {m : MS} (h : MRep w A n (3) 0 v m) (hA : ∀ k, w.heap.size ≤ k → A k) (hp : 1 < n) (hn : n ≤ 4) (hl : m.at_ 1 = 6)   :
    Calls Tryd.prog 17 #[v, .int .i64 1] w (Next A n (3) 0 (to1 (word1 m (1) (0)) 1 (1)) w) := by
  obtain ⟨b, rfl, h⟩ := h
  have HC := Lib.hid ((boxed w n (3) b).cx h hA (by omega) (by omega))
  have hpn : (1 : Int) < n := by omega
  have hn0 : (1 : Int) ≤ n := by omega
  have Hl := Lib.hid hl
  clear h hA hl
  unfold MB.val
  go_enter Tryd.func17, Tryd.ntmps17
  go_upto_region 1 with fail
  generalize (w.alloc (.cells #[.int .i64 n, .slice (some ⟨b.bW, 0, none⟩) (3) b.cW, .slice (some ⟨b.bA, 0, none⟩) n b.cA, .slice (some ⟨b.bO, 0, none⟩) n b.cO] 27)).alloc
    (.cells #[.int .i64 0, .slice none 0 0, .slice none 0 0, .slice none 0 0] 27) = wx at HC ⊢
  have cL := HC.out.line 1 hp
  rw [Hl.out] at cL
  have d0 := HC.out.c0
  have d1 := HC.out.c1
  have d2 := HC.out.c2
  have d3 := HC.out.c3
  go_wp2_with fail
  refine (word_any (i := 1) (rfl) ⟨b, rfl, HC.out.mach⟩ HC.out.new (by omega) (by omega) (by omega)).mono ?_
  rintro e w1 ⟨v1, rfl, h1, hbel⟩
  replace HC := Lib.hid (HC.out.below hbel)
  clear hbel
  go_wp2_with fail
  refine (to_any (p := 1) rfl h1 HC.out.new (by omega) (by omega) hp).mono ?_
  rintro e w2 ⟨_, rfl, ⟨b', rfl, hm'⟩, hbel⟩
  replace HC := Lib.hid (HC.out.below hbel)
  have q0 := HC.out.o0
  have q1 := HC.out.o1
  have q2 := HC.out.o2
  have q3 := HC.out.o3
  have f2 := HC.out.f 0
  have f3 := HC.out.f 1
  have f4 := HC.out.f 2
  have f5 := HC.out.f 3
  unfold MB.val
  clear hbel
  go_wp2_with fail
  exact HC.out.ret hm' rfl rfl rfl
end Go.Proofs.YtgkfgijmccojjaaDoor.MPair
