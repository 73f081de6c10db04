import Derived.Test.YtgkfgijmccojjaaDoorMach
namespace Go.Proofs.YtgkfgijmccojjaaDoor.MFast
open Go.RowKit
set_option linter.unusedVariables false

set_option maxHeartbeats 4000000 in
set_option maxRecDepth 100000 in
theorem l1 {w : World} {A : Nat → Prop} {n p : Nat} {v : Value} {m : MS} (h : MRep w A n (2 + n) 1 v m) (hA : ∀ k, w.heap.size ≤ k → A k) (hp : p < n) (hn : n ≤ 4) (hl : m.at_ p = 1)   :
    Calls Tryd.prog 63 #[v, .int .i64 p] w (Next A n (2 + n) 1 (to1 (word1 m (2 + p) (1)) p (2)) w) := by
  obtain ⟨b, rfl, h⟩ := h
  have HC := Lib.hid ((boxed w n (2 + n) b).cx h hA (by omega) (by omega))
  have hpn : (p : Int) < n := by omega
  have hn0 : (1 : Int) ≤ n := by omega
  have Hl := Lib.hid hl
  clear h hA hl
  unfold MB.val
  go_enter Tryd.func63, Tryd.ntmps63
  go_upto_region 1 with fail
  generalize (w.alloc (.cells #[.int .i64 n, .slice (some ⟨b.bW, 0, none⟩) (2 + n) b.cW, .slice (some ⟨b.bA, 0, none⟩) n b.cA, .slice (some ⟨b.bO, 0, none⟩) n b.cO] 27)).alloc
    (.cells #[.int .i64 0, .slice none 0 0, .slice none 0 0, .slice none 0 0] 27) = wx at HC ⊢
  have cL := HC.out.line p hp
  rw [Hl.out] at cL
  have d0 := HC.out.c0
  have d1 := HC.out.c1
  have d2 := HC.out.c2
  have d3 := HC.out.c3
  go_wp2_with fail
  refine (word_any (i := 2 + p) (by first | rfl | omega | (rw [IntWalk.i64_in _ (by omega)]; omega)) ⟨b, rfl, HC.out.mach⟩ HC.out.new (by omega) (by omega) (by omega)).mono ?_
  rintro e w1 ⟨v1, rfl, h1, hbel⟩
  replace HC := Lib.hid (HC.out.below hbel)
  clear hbel
  go_wp2_with fail
  refine (to_any (p := p) rfl h1 HC.out.new (by omega) (by omega) hp).mono ?_
  rintro e w2 ⟨_, rfl, ⟨b', rfl, hm'⟩, hbel⟩
  replace HC := Lib.hid (HC.out.below hbel)
  have q0 := HC.out.o0
  have q1 := HC.out.o1
  have q2 := HC.out.o2
  have q3 := HC.out.o3
  have f2 := HC.out.f 0
  have f3 := HC.out.f 1
  have f4 := HC.out.f 2
  have f5 := HC.out.f 3
  unfold MB.val
  clear hbel
  go_wp2_with fail
  exact HC.out.ret hm' rfl rfl rfl

set_option maxHeartbeats 4000000 in
set_option maxRecDepth 100000 in
theorem l2 {w : World} {A : Nat → Prop} {n p : Nat} {v : Value} {m : MS} (h : MRep w A n (2 + n) 1 v m) (hA : ∀ k, w.heap.size ≤ k → A k) (hp : p < n) (hn : n ≤ 4) (hl : m.at_ p = 2)   :
    Calls Tryd.prog 63 #[v, .int .i64 p] w (Next A n (2 + n) 1 (to1 (word1 m (0) ((p : Int) + 1)) p (3)) w) := by
  obtain ⟨b, rfl, h⟩ := h
  have HC := Lib.hid ((boxed w n (2 + n) b).cx h hA (by omega) (by omega))
  have hpn : (p : Int) < n := by omega
  have hn0 : (1 : Int) ≤ n := by omega
  have Hl := Lib.hid hl
  clear h hA hl
  unfold MB.val
  go_enter Tryd.func63, Tryd.ntmps63
  go_upto_region 1 with fail
  generalize (w.alloc (.cells #[.int .i64 n, .slice (some ⟨b.bW, 0, none⟩) (2 + n) b.cW, .slice (some ⟨b.bA, 0, none⟩) n b.cA, .slice (some ⟨b.bO, 0, none⟩) n b.cO] 27)).alloc
    (.cells #[.int .i64 0, .slice none 0 0, .slice none 0 0, .slice none 0 0] 27) = wx at HC ⊢
  have cL := HC.out.line p hp
  rw [Hl.out] at cL
  have d0 := HC.out.c0
  have d1 := HC.out.c1
  have d2 := HC.out.c2
  have d3 := HC.out.c3
  go_wp2_with fail
  refine (word_any (i := 0) (rfl) ⟨b, rfl, HC.out.mach⟩ HC.out.new (by omega) (by omega) (by omega)).mono ?_
  rintro e w1 ⟨v1, rfl, h1, hbel⟩
  replace HC := Lib.hid (HC.out.below hbel)
  clear hbel
  go_wp2_with fail
  refine (to_any (p := p) rfl h1 HC.out.new (by omega) (by omega) hp).mono ?_
  rintro e w2 ⟨_, rfl, ⟨b', rfl, hm'⟩, hbel⟩
  replace HC := Lib.hid (HC.out.below hbel)
  have q0 := HC.out.o0
  have q1 := HC.out.o1
  have q2 := HC.out.o2
  have q3 := HC.out.o3
  have f2 := HC.out.f 0
  have f3 := HC.out.f 1
  have f4 := HC.out.f 2
  have f5 := HC.out.f 3
  unfold MB.val
  clear hbel
  go_wp2_with fail
  exact HC.out.ret hm' rfl rfl rfl

set_option maxHeartbeats 4000000 in
set_option maxRecDepth 100000 in
theorem l3 {w : World} {A : Nat → Prop} {n p : Nat} {v : Value} {m : MS} (h : MRep w A n (2 + n) 1 v m) (hA : ∀ k, w.heap.size ≤ k → A k) (hp : p < n) (hn : n ≤ 4) (hl : m.at_ p = 3)   :
    Calls Tryd.prog 63 #[v, .int .i64 p] w (Next A n (2 + n) 1 (goes1 m p (m.wd 1 != 0) (6)) w) := by
  obtain ⟨b, rfl, h⟩ := h
  have HC := Lib.hid ((boxed w n (2 + n) b).cx h hA (by omega) (by omega))
  have hpn : (p : Int) < n := by omega
  have hn0 : (1 : Int) ≤ n := by omega
  have Hl := Lib.hid hl
  clear h hA hl
  unfold MB.val
  go_enter Tryd.func63, Tryd.ntmps63
  go_upto_region 1 with fail
  generalize (w.alloc (.cells #[.int .i64 n, .slice (some ⟨b.bW, 0, none⟩) (2 + n) b.cW, .slice (some ⟨b.bA, 0, none⟩) n b.cA, .slice (some ⟨b.bO, 0, none⟩) n b.cO] 27)).alloc
    (.cells #[.int .i64 0, .slice none 0 0, .slice none 0 0, .slice none 0 0] 27) = wx at HC ⊢
  have cL := HC.out.line p hp
  rw [Hl.out] at cL
  have d0 := HC.out.c0
  have d1 := HC.out.c1
  have d2 := HC.out.c2
  have d3 := HC.out.c3
  go_wp2_with fail
  have i0a : (0 : Int) ≤ (1 : Int) := by omega
  have i0b : (1 : Int) < 2 + (n : Int) := by omega
  have HC0 := HC
  replace HC := Lib.hid HC.out.drew
  have s0 := HC0.out.c0
  have s1 := HC0.out.c1
  have s2 := HC0.out.c2
  have s3 := HC0.out.c3
  have s4 := HC0.out.word (1) (by omega)
  go_region_held3 (fun w' => w'.cell? ⟨w.heap.size, 0, none⟩ = some (.int .i64 n) ∧ w'.cell? ⟨w.heap.size, 1, none⟩ = some (.slice (some ⟨b.bW, 0, none⟩) (2 + n) b.cW) ∧ w'.cell? ⟨w.heap.size, 2, none⟩ = some (.slice (some ⟨b.bA, 0, none⟩) n b.cA) ∧ w'.cell? ⟨w.heap.size, 3, none⟩ = some (.slice (some ⟨b.bO, 0, none⟩) n b.cO) ∧ w'.cell? ⟨b.bW, 1, none⟩ = some (.int .i64 (m.wd (1))))
    (first | (with_reducible exact ⟨s0, s1, s2, s3, s4⟩) | (with_reducible exact ⟨HC.out.c0, HC.out.c1, HC.out.c2, HC.out.c3, HC.out.word (1) (by omega)⟩) | (with_reducible exact ⟨HC.out.c0s _ _ _ _, HC.out.c1s _ _ _ _, HC.out.c2s _ _ _ _, HC.out.c3s _ _ _ _, HC.out.words (1) (by omega) _ _ _ _⟩))
    (first
      | (go_at_call 74; refine (goes_any _ (p := p) rfl ⟨b, rfl, HC.out.mach⟩ HC.out.new (by omega) (by omega) hp (show 0 ≤ m.at_ p ∧ m.at_ p ≤ 100 by rw [Hl.out]; omega)).mono ?_; rintro e w1 ⟨_, rfl, ⟨b', rfl, hm'⟩, hbel⟩; replace HC := Lib.hid (HC.out.below hbel); have q0 := HC.out.o0; have q1 := HC.out.o1; have q2 := HC.out.o2; have q3 := HC.out.o3; have f2 := HC.out.f 0; have f3 := HC.out.f 1; have f4 := HC.out.f 2; have f5 := HC.out.f 3; unfold MB.val; clear hbel))
  go_wp2_with fail
  exact HC.out.ret hm' rfl rfl rfl

set_option maxHeartbeats 4000000 in
set_option maxRecDepth 100000 in
theorem l4 {w : World} {A : Nat → Prop} {n p : Nat} {v : Value} {m : MS} (h : MRep w A n (2 + n) 1 v m) (hA : ∀ k, w.heap.size ≤ k → A k) (hp : p < n) (hn : n ≤ 4) (hl : m.at_ p = 4)   :
    Calls Tryd.prog 63 #[v, .int .i64 p] w (Next A n (2 + n) 1 (to1 (word1 m (2 + p) (0)) p (5)) w) := by
  obtain ⟨b, rfl, h⟩ := h
  have HC := Lib.hid ((boxed w n (2 + n) b).cx h hA (by omega) (by omega))
  have hpn : (p : Int) < n := by omega
  have hn0 : (1 : Int) ≤ n := by omega
  have Hl := Lib.hid hl
  clear h hA hl
  unfold MB.val
  go_enter Tryd.func63, Tryd.ntmps63
  go_upto_region 1 with fail
  generalize (w.alloc (.cells #[.int .i64 n, .slice (some ⟨b.bW, 0, none⟩) (2 + n) b.cW, .slice (some ⟨b.bA, 0, none⟩) n b.cA, .slice (some ⟨b.bO, 0, none⟩) n b.cO] 27)).alloc
    (.cells #[.int .i64 0, .slice none 0 0, .slice none 0 0, .slice none 0 0] 27) = wx at HC ⊢
  have cL := HC.out.line p hp
  rw [Hl.out] at cL
  have d0 := HC.out.c0
  have d1 := HC.out.c1
  have d2 := HC.out.c2
  have d3 := HC.out.c3
  go_wp2_with fail
  refine (word_any (i := 2 + p) (by first | rfl | omega | (rw [IntWalk.i64_in _ (by omega)]; omega)) ⟨b, rfl, HC.out.mach⟩ HC.out.new (by omega) (by omega) (by omega)).mono ?_
  rintro e w1 ⟨v1, rfl, h1, hbel⟩
  replace HC := Lib.hid (HC.out.below hbel)
  clear hbel
  go_wp2_with fail
  refine (to_any (p := p) rfl h1 HC.out.new (by omega) (by omega) hp).mono ?_
  rintro e w2 ⟨_, rfl, ⟨b', rfl, hm'⟩, hbel⟩
  replace HC := Lib.hid (HC.out.below hbel)
  have q0 := HC.out.o0
  have q1 := HC.out.o1
  have q2 := HC.out.o2
  have q3 := HC.out.o3
  have f2 := HC.out.f 0
  have f3 := HC.out.f 1
  have f4 := HC.out.f 2
  have f5 := HC.out.f 3
  unfold MB.val
  clear hbel
  go_wp2_with fail
  exact HC.out.ret hm' rfl rfl rfl

set_option maxHeartbeats 4000000 in
set_option maxRecDepth 100000 in
theorem l51 {w : World} {A : Nat → Prop} {n p : Nat} {v : Value} {m : MS} (h : MRep w A n (2 + n) 1 v m) (hA : ∀ k, w.heap.size ≤ k → A k) (hp : p < n) (hn : n ≤ 4) (hl : m.at_ p = 5)  (hx : m.wd 1 = 0) :
    Calls Tryd.prog 63 #[v, .int .i64 p] w (Next A n (2 + n) 1 (to1 m p (1)) w) := by
  obtain ⟨b, rfl, h⟩ := h
  have HC := Lib.hid ((boxed w n (2 + n) b).cx h hA (by omega) (by omega))
  have hpn : (p : Int) < n := by omega
  have hn0 : (1 : Int) ≤ n := by omega
  have Hl := Lib.hid hl
  have hx0 : (m.wd 1 == 0) = true := by simpa using hx
  clear hx
  clear h hA hl
  unfold MB.val
  go_enter Tryd.func63, Tryd.ntmps63
  go_upto_region 1 with fail
  generalize (w.alloc (.cells #[.int .i64 n, .slice (some ⟨b.bW, 0, none⟩) (2 + n) b.cW, .slice (some ⟨b.bA, 0, none⟩) n b.cA, .slice (some ⟨b.bO, 0, none⟩) n b.cO] 27)).alloc
    (.cells #[.int .i64 0, .slice none 0 0, .slice none 0 0, .slice none 0 0] 27) = wx at HC ⊢
  have cL := HC.out.line p hp
  rw [Hl.out] at cL
  have d0 := HC.out.c0
  have d1 := HC.out.c1
  have d2 := HC.out.c2
  have d3 := HC.out.c3
  have r0 := HC.out.word 1 (by omega)
  go_wp2_with fail
  refine (to_any (p := p) rfl ⟨b, rfl, HC.out.mach⟩ HC.out.new (by omega) (by omega) hp).mono ?_
  rintro e w1 ⟨_, rfl, ⟨b', rfl, hm'⟩, hbel⟩
  replace HC := Lib.hid (HC.out.below hbel)
  have q0 := HC.out.o0
  have q1 := HC.out.o1
  have q2 := HC.out.o2
  have q3 := HC.out.o3
  have f2 := HC.out.f 0
  have f3 := HC.out.f 1
  have f4 := HC.out.f 2
  have f5 := HC.out.f 3
  unfold MB.val
  clear hbel
  go_wp2_with fail
  exact HC.out.ret hm' rfl rfl rfl

set_option maxHeartbeats 4000000 in
set_option maxRecDepth 100000 in
theorem l50 {w : World} {A : Nat → Prop} {n p : Nat} {v : Value} {m : MS} (h : MRep w A n (2 + n) 1 v m) (hA : ∀ k, w.heap.size ≤ k → A k) (hp : p < n) (hn : n ≤ 4) (hl : m.at_ p = 5)  (hx : ¬ m.wd 1 = 0) :
    Calls Tryd.prog 63 #[v, .int .i64 p] w (Next A n (2 + n) 1 m w) := by
  obtain ⟨b, rfl, h⟩ := h
  have HC := Lib.hid ((boxed w n (2 + n) b).cx h hA (by omega) (by omega))
  have hpn : (p : Int) < n := by omega
  have hn0 : (1 : Int) ≤ n := by omega
  have Hl := Lib.hid hl
  have hx0 : (m.wd 1 == 0) = false := by simpa using hx
  clear hx
  clear h hA hl
  unfold MB.val
  go_enter Tryd.func63, Tryd.ntmps63
  go_upto_region 1 with fail
  generalize (w.alloc (.cells #[.int .i64 n, .slice (some ⟨b.bW, 0, none⟩) (2 + n) b.cW, .slice (some ⟨b.bA, 0, none⟩) n b.cA, .slice (some ⟨b.bO, 0, none⟩) n b.cO] 27)).alloc
    (.cells #[.int .i64 0, .slice none 0 0, .slice none 0 0, .slice none 0 0] 27) = wx at HC ⊢
  have cL := HC.out.line p hp
  rw [Hl.out] at cL
  have d0 := HC.out.c0
  have d1 := HC.out.c1
  have d2 := HC.out.c2
  have d3 := HC.out.c3
  have r0 := HC.out.word 1 (by omega)
  have q0 := HC.out.o0
  have q1 := HC.out.o1
  have q2 := HC.out.o2
  have q3 := HC.out.o3
  have f2 := HC.out.f 0
  have f3 := HC.out.f 1
  have f4 := HC.out.f 2
  have f5 := HC.out.f 3
  go_wp2_with fail
  exact HC.out.ret HC.out.mach rfl rfl rfl

set_option maxHeartbeats 4000000 in
set_option maxRecDepth 100000 in
theorem l6 {w : World} {A : Nat → Prop} {n p : Nat} {v : Value} {m : MS} (h : MRep w A n (2 + n) 1 v m) (hA : ∀ k, w.heap.size ≤ k → A k) (hp : p < n) (hn : n ≤ 4) (hl : m.at_ p = 6)   :
    Calls Tryd.prog 63 #[v, .int .i64 p] w (Next A n (2 + n) 1 (to1 (word1 m (1) ((p : Int) + 1)) p (7)) w) := by
  obtain ⟨b, rfl, h⟩ := h
  have HC := Lib.hid ((boxed w n (2 + n) b).cx h hA (by omega) (by omega))
  have hpn : (p : Int) < n := by omega
  have hn0 : (1 : Int) ≤ n := by omega
  have Hl := Lib.hid hl
  clear h hA hl
  unfold MB.val
  go_enter Tryd.func63, Tryd.ntmps63
  go_upto_region 1 with fail
  generalize (w.alloc (.cells #[.int .i64 n, .slice (some ⟨b.bW, 0, none⟩) (2 + n) b.cW, .slice (some ⟨b.bA, 0, none⟩) n b.cA, .slice (some ⟨b.bO, 0, none⟩) n b.cO] 27)).alloc
    (.cells #[.int .i64 0, .slice none 0 0, .slice none 0 0, .slice none 0 0] 27) = wx at HC ⊢
  have cL := HC.out.line p hp
  rw [Hl.out] at cL
  have d0 := HC.out.c0
  have d1 := HC.out.c1
  have d2 := HC.out.c2
  have d3 := HC.out.c3
  go_wp2_with fail
  refine (word_any (i := 1) (rfl) ⟨b, rfl, HC.out.mach⟩ HC.out.new (by omega) (by omega) (by omega)).mono ?_
  rintro e w1 ⟨v1, rfl, h1, hbel⟩
  replace HC := Lib.hid (HC.out.below hbel)
  clear hbel
  go_wp2_with fail
  refine (to_any (p := p) rfl h1 HC.out.new (by omega) (by omega) hp).mono ?_
  rintro e w2 ⟨_, rfl, ⟨b', rfl, hm'⟩, hbel⟩
  replace HC := Lib.hid (HC.out.below hbel)
  have q0 := HC.out.o0
  have q1 := HC.out.o1
  have q2 := HC.out.o2
  have q3 := HC.out.o3
  have f2 := HC.out.f 0
  have f3 := HC.out.f 1
  have f4 := HC.out.f 2
  have f5 := HC.out.f 3
  unfold MB.val
  clear hbel
  go_wp2_with fail
  exact HC.out.ret hm' rfl rfl rfl

set_option maxHeartbeats 4000000 in
set_option maxRecDepth 100000 in
theorem l7 {w : World} {A : Nat → Prop} {n p : Nat} {v : Value} {m : MS} (h : MRep w A n (2 + n) 1 v m) (hA : ∀ k, w.heap.size ≤ k → A k) (hp : p < n) (hn : n ≤ 4) (hl : m.at_ p = 7)   :
    Calls Tryd.prog 63 #[v, .int .i64 p] w (Next A n (2 + n) 1 (goes1 m p (m.wd 0 != (p : Int) + 1) (12)) w) := by
  obtain ⟨b, rfl, h⟩ := h
  have HC := Lib.hid ((boxed w n (2 + n) b).cx h hA (by omega) (by omega))
  have hpn : (p : Int) < n := by omega
  have hn0 : (1 : Int) ≤ n := by omega
  have Hl := Lib.hid hl
  clear h hA hl
  unfold MB.val
  go_enter Tryd.func63, Tryd.ntmps63
  go_upto_region 1 with fail
  generalize (w.alloc (.cells #[.int .i64 n, .slice (some ⟨b.bW, 0, none⟩) (2 + n) b.cW, .slice (some ⟨b.bA, 0, none⟩) n b.cA, .slice (some ⟨b.bO, 0, none⟩) n b.cO] 27)).alloc
    (.cells #[.int .i64 0, .slice none 0 0, .slice none 0 0, .slice none 0 0] 27) = wx at HC ⊢
  have cL := HC.out.line p hp
  rw [Hl.out] at cL
  have d0 := HC.out.c0
  have d1 := HC.out.c1
  have d2 := HC.out.c2
  have d3 := HC.out.c3
  go_wp2_with fail
  have i0a : (0 : Int) ≤ (0 : Int) := by omega
  have i0b : (0 : Int) < 2 + (n : Int) := by omega
  have HC0 := HC
  replace HC := Lib.hid HC.out.drew
  have s0 := HC0.out.c0
  have s1 := HC0.out.c1
  have s2 := HC0.out.c2
  have s3 := HC0.out.c3
  have s4 := HC0.out.word (0) (by omega)
  go_region_held3 (fun w' => w'.cell? ⟨w.heap.size, 0, none⟩ = some (.int .i64 n) ∧ w'.cell? ⟨w.heap.size, 1, none⟩ = some (.slice (some ⟨b.bW, 0, none⟩) (2 + n) b.cW) ∧ w'.cell? ⟨w.heap.size, 2, none⟩ = some (.slice (some ⟨b.bA, 0, none⟩) n b.cA) ∧ w'.cell? ⟨w.heap.size, 3, none⟩ = some (.slice (some ⟨b.bO, 0, none⟩) n b.cO) ∧ w'.cell? ⟨b.bW, 0, none⟩ = some (.int .i64 (m.wd (0))))
    (first | (with_reducible exact ⟨s0, s1, s2, s3, s4⟩) | (with_reducible exact ⟨HC.out.c0, HC.out.c1, HC.out.c2, HC.out.c3, HC.out.word (0) (by omega)⟩) | (with_reducible exact ⟨HC.out.c0s _ _ _ _, HC.out.c1s _ _ _ _, HC.out.c2s _ _ _ _, HC.out.c3s _ _ _ _, HC.out.words (0) (by omega) _ _ _ _⟩))
    (first
      | (go_at_call 74; refine (goes_any _ (p := p) rfl ⟨b, rfl, HC.out.mach⟩ HC.out.new (by omega) (by omega) hp (show 0 ≤ m.at_ p ∧ m.at_ p ≤ 100 by rw [Hl.out]; omega)).mono ?_; rintro e w1 ⟨_, rfl, ⟨b', rfl, hm'⟩, hbel⟩; replace HC := Lib.hid (HC.out.below hbel); have q0 := HC.out.o0; have q1 := HC.out.o1; have q2 := HC.out.o2; have q3 := HC.out.o3; have f2 := HC.out.f 0; have f3 := HC.out.f 1; have f4 := HC.out.f 2; have f5 := HC.out.f 3; unfold MB.val; clear hbel))
  go_wp2_with fail
  rw [show IntKind.i64.wrap ((p : Int) + 1) = (p : Int) + 1 from IntWalk.i64_in _ (by omega)] at hm'
  exact HC.out.ret hm' rfl rfl rfl

set_option maxHeartbeats 4000000 in
set_option maxRecDepth 100000 in
theorem l8 {w : World} {A : Nat → Prop} {n p : Nat} {v : Value} {m : MS} (h : MRep w A n (2 + n) 1 v m) (hA : ∀ k, w.heap.size ≤ k → A k) (hp : p < n) (hn : n ≤ 4) (hl : m.at_ p = 8)   :
    Calls Tryd.prog 63 #[v, .int .i64 p] w (Next A n (2 + n) 1 (to1 (own1 (word1 m (2 + p) (0)) p 0 (0)) p (9)) w) := by
  obtain ⟨b, rfl, h⟩ := h
  have HC := Lib.hid ((boxed w n (2 + n) b).cx h hA (by omega) (by omega))
  have hpn : (p : Int) < n := by omega
  have hn0 : (1 : Int) ≤ n := by omega
  have Hl := Lib.hid hl
  clear h hA hl
  unfold MB.val
  go_enter Tryd.func63, Tryd.ntmps63
  go_upto_region 1 with fail
  generalize (w.alloc (.cells #[.int .i64 n, .slice (some ⟨b.bW, 0, none⟩) (2 + n) b.cW, .slice (some ⟨b.bA, 0, none⟩) n b.cA, .slice (some ⟨b.bO, 0, none⟩) n b.cO] 27)).alloc
    (.cells #[.int .i64 0, .slice none 0 0, .slice none 0 0, .slice none 0 0] 27) = wx at HC ⊢
  have cL := HC.out.line p hp
  rw [Hl.out] at cL
  have d0 := HC.out.c0
  have d1 := HC.out.c1
  have d2 := HC.out.c2
  have d3 := HC.out.c3
  go_wp2_with fail
  refine (word_any (i := 2 + p) (by first | rfl | omega | (rw [IntWalk.i64_in _ (by omega)]; omega)) ⟨b, rfl, HC.out.mach⟩ HC.out.new (by omega) (by omega) (by omega)).mono ?_
  rintro e w1 ⟨v1, rfl, h1, hbel⟩
  replace HC := Lib.hid (HC.out.below hbel)
  clear hbel
  go_wp2_with fail
  refine (own_any rfl (i := 0) rfl h1 HC.out.new (by omega) (by omega) (by omega) hp (by omega)).mono ?_
  rintro e w2 ⟨v2, rfl, h2, hbel⟩
  replace HC := Lib.hid (HC.out.below hbel)
  clear hbel
  go_wp2_with fail
  refine (to_any (p := p) rfl h2 HC.out.new (by omega) (by omega) hp).mono ?_
  rintro e w3 ⟨_, rfl, ⟨b', rfl, hm'⟩, hbel⟩
  replace HC := Lib.hid (HC.out.below hbel)
  have q0 := HC.out.o0
  have q1 := HC.out.o1
  have q2 := HC.out.o2
  have q3 := HC.out.o3
  have f2 := HC.out.f 0
  have f3 := HC.out.f 1
  have f4 := HC.out.f 2
  have f5 := HC.out.f 3
  unfold MB.val
  clear hbel
  go_wp2_with fail
  exact HC.out.ret hm' rfl rfl rfl

set_option maxHeartbeats 4000000 in
set_option maxRecDepth 100000 in
theorem l91 {w : World} {A : Nat → Prop} {n p : Nat} {v : Value} {m : MS} (h : MRep w A n (2 + n) 1 v m) (hA : ∀ k, w.heap.size ≤ k → A k) (hp : p < n) (hn : n ≤ 4) (hl : m.at_ p = 9)  {k : Nat} (hk : m.ow p 0 = (k : Int)) (hkn : k < n) (hx : m.wd (2 + k) = 0) :
    Calls Tryd.prog 63 #[v, .int .i64 p] w (Next A n (2 + n) 1 (goes1 (own1 m p 0 ((k : Int) + 1)) p ((k : Int) + 1 == (n : Int)) (9)) w) := by
  obtain ⟨b, rfl, h⟩ := h
  have HC := Lib.hid ((boxed w n (2 + n) b).cx h hA (by omega) (by omega))
  have hpn : (p : Int) < n := by omega
  have hn0 : (1 : Int) ≤ n := by omega
  have Hl := Lib.hid hl
  have hx0 : (m.wd (2 + k) != 0) = false := by simpa using hx
  clear hx
  have Hk := Lib.hid hk
  clear hk
  clear h hA hl
  unfold MB.val
  go_enter Tryd.func63, Tryd.ntmps63
  go_upto_region 1 with fail
  generalize (w.alloc (.cells #[.int .i64 n, .slice (some ⟨b.bW, 0, none⟩) (2 + n) b.cW, .slice (some ⟨b.bA, 0, none⟩) n b.cA, .slice (some ⟨b.bO, 0, none⟩) n b.cO] 27)).alloc
    (.cells #[.int .i64 0, .slice none 0 0, .slice none 0 0, .slice none 0 0] 27) = wx at HC ⊢
  have cL := HC.out.line p hp
  rw [Hl.out] at cL
  have d0 := HC.out.c0
  have d1 := HC.out.c1
  have d2 := HC.out.c2
  have d3 := HC.out.c3
  have r0 := HC.out.row p hp
  have r1 := HC.out.num p 0 hp (by omega)
  rw [Hk.out] at r1
  have r2 := HC.out.word (2 + k) (by omega)
  go_wp2_with fail
  have HC0 := HC
  replace HC := Lib.hid HC.out.drew
  have s0 := HC0.out.c0
  have s1 := HC0.out.c1
  have s2 := HC0.out.c2
  have s3 := HC0.out.c3
  go_region_held3 (fun w' => w'.cell? ⟨w.heap.size, 0, none⟩ = some (.int .i64 n) ∧ w'.cell? ⟨w.heap.size, 1, none⟩ = some (.slice (some ⟨b.bW, 0, none⟩) (2 + n) b.cW) ∧ w'.cell? ⟨w.heap.size, 2, none⟩ = some (.slice (some ⟨b.bA, 0, none⟩) n b.cA) ∧ w'.cell? ⟨w.heap.size, 3, none⟩ = some (.slice (some ⟨b.bO, 0, none⟩) n b.cO))
    (first | (with_reducible exact ⟨s0, s1, s2, s3⟩) | (with_reducible exact ⟨HC.out.c0, HC.out.c1, HC.out.c2, HC.out.c3⟩) | (with_reducible exact ⟨HC.out.c0s _ _ _ _, HC.out.c1s _ _ _ _, HC.out.c2s _ _ _ _, HC.out.c3s _ _ _ _⟩))
    (first
      | (go_at_call 74; refine (goes_any _ (p := p) rfl h1 HC.out.new (by omega) (by omega) hp (show 0 ≤ m.at_ p ∧ m.at_ p ≤ 100 by rw [Hl.out]; omega)).mono ?_; rintro e w2 ⟨_, rfl, ⟨b', rfl, hm'⟩, hbel⟩; replace HC := Lib.hid (HC.out.below hbel); have q0 := HC.out.o0; have q1 := HC.out.o1; have q2 := HC.out.o2; have q3 := HC.out.o3; have f2 := HC.out.f 0; have f3 := HC.out.f 1; have f4 := HC.out.f 2; have f5 := HC.out.f 3; unfold MB.val; clear hbel)
      | (go_at_call 79; refine (own_any rfl (i := 0) rfl ⟨b, rfl, HC.out.mach⟩ HC.out.new (by omega) (by omega) (by omega) hp (by omega)).mono ?_; rintro e w1 ⟨v1, rfl, h1, hbel⟩; replace HC := Lib.hid (HC.out.below hbel); clear hbel))
  go_wp2_with fail
  rw [show IntKind.i64.wrap ((k : Int) + 1) = (k : Int) + 1 from IntWalk.i64_in _ (by omega)] at hm'
  exact HC.out.ret hm' rfl rfl rfl

set_option maxHeartbeats 4000000 in
set_option maxRecDepth 100000 in
theorem l90 {w : World} {A : Nat → Prop} {n p : Nat} {v : Value} {m : MS} (h : MRep w A n (2 + n) 1 v m) (hA : ∀ k, w.heap.size ≤ k → A k) (hp : p < n) (hn : n ≤ 4) (hl : m.at_ p = 9)  {k : Nat} (hk : m.ow p 0 = (k : Int)) (hkn : k < n) (hx : ¬ m.wd (2 + k) = 0) :
    Calls Tryd.prog 63 #[v, .int .i64 p] w (Next A n (2 + n) 1 m w) := by
  obtain ⟨b, rfl, h⟩ := h
  have HC := Lib.hid ((boxed w n (2 + n) b).cx h hA (by omega) (by omega))
  have hpn : (p : Int) < n := by omega
  have hn0 : (1 : Int) ≤ n := by omega
  have Hl := Lib.hid hl
  have hx0 : (m.wd (2 + k) != 0) = true := by simpa using hx
  clear hx
  have Hk := Lib.hid hk
  clear hk
  clear h hA hl
  unfold MB.val
  go_enter Tryd.func63, Tryd.ntmps63
  go_upto_region 1 with fail
  generalize (w.alloc (.cells #[.int .i64 n, .slice (some ⟨b.bW, 0, none⟩) (2 + n) b.cW, .slice (some ⟨b.bA, 0, none⟩) n b.cA, .slice (some ⟨b.bO, 0, none⟩) n b.cO] 27)).alloc
    (.cells #[.int .i64 0, .slice none 0 0, .slice none 0 0, .slice none 0 0] 27) = wx at HC ⊢
  have cL := HC.out.line p hp
  rw [Hl.out] at cL
  have d0 := HC.out.c0
  have d1 := HC.out.c1
  have d2 := HC.out.c2
  have d3 := HC.out.c3
  have r0 := HC.out.row p hp
  have r1 := HC.out.num p 0 hp (by omega)
  rw [Hk.out] at r1
  have r2 := HC.out.word (2 + k) (by omega)
  have q0 := HC.out.o0
  have q1 := HC.out.o1
  have q2 := HC.out.o2
  have q3 := HC.out.o3
  have f2 := HC.out.f 0
  have f3 := HC.out.f 1
  have f4 := HC.out.f 2
  have f5 := HC.out.f 3
  go_wp2_with fail
  exact HC.out.ret HC.out.mach rfl rfl rfl

set_option maxHeartbeats 4000000 in
set_option maxRecDepth 100000 in
theorem lA {w : World} {A : Nat → Prop} {n p : Nat} {v : Value} {m : MS} (h : MRep w A n (2 + n) 1 v m) (hA : ∀ k, w.heap.size ≤ k → A k) (hp : p < n) (hn : n ≤ 4) (hl : m.at_ p = 10)   :
    Calls Tryd.prog 63 #[v, .int .i64 p] w (Next A n (2 + n) 1 (goes1 m p (m.wd 1 != (p : Int) + 1) (12)) w) := by
  obtain ⟨b, rfl, h⟩ := h
  have HC := Lib.hid ((boxed w n (2 + n) b).cx h hA (by omega) (by omega))
  have hpn : (p : Int) < n := by omega
  have hn0 : (1 : Int) ≤ n := by omega
  have Hl := Lib.hid hl
  clear h hA hl
  unfold MB.val
  go_enter Tryd.func63, Tryd.ntmps63
  go_upto_region 1 with fail
  generalize (w.alloc (.cells #[.int .i64 n, .slice (some ⟨b.bW, 0, none⟩) (2 + n) b.cW, .slice (some ⟨b.bA, 0, none⟩) n b.cA, .slice (some ⟨b.bO, 0, none⟩) n b.cO] 27)).alloc
    (.cells #[.int .i64 0, .slice none 0 0, .slice none 0 0, .slice none 0 0] 27) = wx at HC ⊢
  have cL := HC.out.line p hp
  rw [Hl.out] at cL
  have d0 := HC.out.c0
  have d1 := HC.out.c1
  have d2 := HC.out.c2
  have d3 := HC.out.c3
  go_wp2_with fail
  have i0a : (0 : Int) ≤ (1 : Int) := by omega
  have i0b : (1 : Int) < 2 + (n : Int) := by omega
  have HC0 := HC
  replace HC := Lib.hid HC.out.drew
  have s0 := HC0.out.c0
  have s1 := HC0.out.c1
  have s2 := HC0.out.c2
  have s3 := HC0.out.c3
  have s4 := HC0.out.word (1) (by omega)
  go_region_held3 (fun w' => w'.cell? ⟨w.heap.size, 0, none⟩ = some (.int .i64 n) ∧ w'.cell? ⟨w.heap.size, 1, none⟩ = some (.slice (some ⟨b.bW, 0, none⟩) (2 + n) b.cW) ∧ w'.cell? ⟨w.heap.size, 2, none⟩ = some (.slice (some ⟨b.bA, 0, none⟩) n b.cA) ∧ w'.cell? ⟨w.heap.size, 3, none⟩ = some (.slice (some ⟨b.bO, 0, none⟩) n b.cO) ∧ w'.cell? ⟨b.bW, 1, none⟩ = some (.int .i64 (m.wd (1))))
    (first | (with_reducible exact ⟨s0, s1, s2, s3, s4⟩) | (with_reducible exact ⟨HC.out.c0, HC.out.c1, HC.out.c2, HC.out.c3, HC.out.word (1) (by omega)⟩) | (with_reducible exact ⟨HC.out.c0s _ _ _ _, HC.out.c1s _ _ _ _, HC.out.c2s _ _ _ _, HC.out.c3s _ _ _ _, HC.out.words (1) (by omega) _ _ _ _⟩))
    (first
      | (go_at_call 74; refine (goes_any _ (p := p) rfl ⟨b, rfl, HC.out.mach⟩ HC.out.new (by omega) (by omega) hp (show 0 ≤ m.at_ p ∧ m.at_ p ≤ 100 by rw [Hl.out]; omega)).mono ?_; rintro e w1 ⟨_, rfl, ⟨b', rfl, hm'⟩, hbel⟩; replace HC := Lib.hid (HC.out.below hbel); have q0 := HC.out.o0; have q1 := HC.out.o1; have q2 := HC.out.o2; have q3 := HC.out.o3; have f2 := HC.out.f 0; have f3 := HC.out.f 1; have f4 := HC.out.f 2; have f5 := HC.out.f 3; unfold MB.val; clear hbel))
  go_wp2_with fail
  rw [show IntKind.i64.wrap ((p : Int) + 1) = (p : Int) + 1 from IntWalk.i64_in _ (by omega)] at hm'
  exact HC.out.ret hm' rfl rfl rfl

set_option maxHeartbeats 4000000 in
set_option maxRecDepth 100000 in
theorem lB1 {w : World} {A : Nat → Prop} {n p : Nat} {v : Value} {m : MS} (h : MRep w A n (2 + n) 1 v m) (hA : ∀ k, w.heap.size ≤ k → A k) (hp : p < n) (hn : n ≤ 4) (hl : m.at_ p = 11)  (hx : m.wd 1 = 0) :
    Calls Tryd.prog 63 #[v, .int .i64 p] w (Next A n (2 + n) 1 (to1 m p (1)) w) := by
  obtain ⟨b, rfl, h⟩ := h
  have HC := Lib.hid ((boxed w n (2 + n) b).cx h hA (by omega) (by omega))
  have hpn : (p : Int) < n := by omega
  have hn0 : (1 : Int) ≤ n := by omega
  have Hl := Lib.hid hl
  have hx0 : (m.wd 1 == 0) = true := by simpa using hx
  clear hx
  clear h hA hl
  unfold MB.val
  go_enter Tryd.func63, Tryd.ntmps63
  go_upto_region 1 with fail
  generalize (w.alloc (.cells #[.int .i64 n, .slice (some ⟨b.bW, 0, none⟩) (2 + n) b.cW, .slice (some ⟨b.bA, 0, none⟩) n b.cA, .slice (some ⟨b.bO, 0, none⟩) n b.cO] 27)).alloc
    (.cells #[.int .i64 0, .slice none 0 0, .slice none 0 0, .slice none 0 0] 27) = wx at HC ⊢
  have cL := HC.out.line p hp
  rw [Hl.out] at cL
  have d0 := HC.out.c0
  have d1 := HC.out.c1
  have d2 := HC.out.c2
  have d3 := HC.out.c3
  have r0 := HC.out.word 1 (by omega)
  go_wp2_with fail
  refine (to_any (p := p) rfl ⟨b, rfl, HC.out.mach⟩ HC.out.new (by omega) (by omega) hp).mono ?_
  rintro e w1 ⟨_, rfl, ⟨b', rfl, hm'⟩, hbel⟩
  replace HC := Lib.hid (HC.out.below hbel)
  have q0 := HC.out.o0
  have q1 := HC.out.o1
  have q2 := HC.out.o2
  have q3 := HC.out.o3
  have f2 := HC.out.f 0
  have f3 := HC.out.f 1
  have f4 := HC.out.f 2
  have f5 := HC.out.f 3
  unfold MB.val
  clear hbel
  go_wp2_with fail
  exact HC.out.ret hm' rfl rfl rfl

set_option maxHeartbeats 4000000 in
set_option maxRecDepth 100000 in
theorem lB0 {w : World} {A : Nat → Prop} {n p : Nat} {v : Value} {m : MS} (h : MRep w A n (2 + n) 1 v m) (hA : ∀ k, w.heap.size ≤ k → A k) (hp : p < n) (hn : n ≤ 4) (hl : m.at_ p = 11)  (hx : ¬ m.wd 1 = 0) :
    Calls Tryd.prog 63 #[v, .int .i64 p] w (Next A n (2 + n) 1 m w) := by
  obtain ⟨b, rfl, h⟩ := h
  have HC := Lib.hid ((boxed w n (2 + n) b).cx h hA (by omega) (by omega))
  have hpn : (p : Int) < n := by omega
  have hn0 : (1 : Int) ≤ n := by omega
  have Hl := Lib.hid hl
  have hx0 : (m.wd 1 == 0) = false := by simpa using hx
  clear hx
  clear h hA hl
  unfold MB.val
  go_enter Tryd.func63, Tryd.ntmps63
  go_upto_region 1 with fail
  generalize (w.alloc (.cells #[.int .i64 n, .slice (some ⟨b.bW, 0, none⟩) (2 + n) b.cW, .slice (some ⟨b.bA, 0, none⟩) n b.cA, .slice (some ⟨b.bO, 0, none⟩) n b.cO] 27)).alloc
    (.cells #[.int .i64 0, .slice none 0 0, .slice none 0 0, .slice none 0 0] 27) = wx at HC ⊢
  have cL := HC.out.line p hp
  rw [Hl.out] at cL
  have d0 := HC.out.c0
  have d1 := HC.out.c1
  have d2 := HC.out.c2
  have d3 := HC.out.c3
  have r0 := HC.out.word 1 (by omega)
  have q0 := HC.out.o0
  have q1 := HC.out.o1
  have q2 := HC.out.o2
  have q3 := HC.out.o3
  have f2 := HC.out.f 0
  have f3 := HC.out.f 1
  have f4 := HC.out.f 2
  have f5 := HC.out.f 3
  go_wp2_with fail
  exact HC.out.ret HC.out.mach rfl rfl rfl

set_option maxHeartbeats 4000000 in
set_option maxRecDepth 100000 in
theorem lC {w : World} {A : Nat → Prop} {n p : Nat} {v : Value} {m : MS} (h : MRep w A n (2 + n) 1 v m) (hA : ∀ k, w.heap.size ≤ k → A k) (hp : p < n) (hn : n ≤ 4) (hl : m.at_ p = 12)   :
    Calls Tryd.prog 63 #[v, .int .i64 p] w (Next A n (2 + n) 1 (to1 m p (13)) w) := by
  obtain ⟨b, rfl, h⟩ := h
  have HC := Lib.hid ((boxed w n (2 + n) b).cx h hA (by omega) (by omega))
  have hpn : (p : Int) < n := by omega
  have hn0 : (1 : Int) ≤ n := by omega
  have Hl := Lib.hid hl
  clear h hA hl
  unfold MB.val
  go_enter Tryd.func63, Tryd.ntmps63
  go_upto_region 1 with fail
  generalize (w.alloc (.cells #[.int .i64 n, .slice (some ⟨b.bW, 0, none⟩) (2 + n) b.cW, .slice (some ⟨b.bA, 0, none⟩) n b.cA, .slice (some ⟨b.bO, 0, none⟩) n b.cO] 27)).alloc
    (.cells #[.int .i64 0, .slice none 0 0, .slice none 0 0, .slice none 0 0] 27) = wx at HC ⊢
  have cL := HC.out.line p hp
  rw [Hl.out] at cL
  have d0 := HC.out.c0
  have d1 := HC.out.c1
  have d2 := HC.out.c2
  have d3 := HC.out.c3
  go_wp2_with fail
  refine (to_any (p := p) rfl ⟨b, rfl, HC.out.mach⟩ HC.out.new (by omega) (by omega) hp).mono ?_
  rintro e w1 ⟨_, rfl, ⟨b', rfl, hm'⟩, hbel⟩
  replace HC := Lib.hid (HC.out.below hbel)
  have q0 := HC.out.o0
  have q1 := HC.out.o1
  have q2 := HC.out.o2
  have q3 := HC.out.o3
  have f2 := HC.out.f 0
  have f3 := HC.out.f 1
  have f4 := HC.out.f 2
  have f5 := HC.out.f 3
  unfold MB.val
  clear hbel
  go_wp2_with fail
  exact HC.out.ret hm' rfl rfl rfl

set_option maxHeartbeats 4000000 in
set_option maxRecDepth 100000 in
theorem lD {w : World} {A : Nat → Prop} {n p : Nat} {v : Value} {m : MS} (h : MRep w A n (2 + n) 1 v m) (hA : ∀ k, w.heap.size ≤ k → A k) (hp : p < n) (hn : n ≤ 4) (hl : m.at_ p = 13)   :
    Calls Tryd.prog 63 #[v, .int .i64 p] w (Next A n (2 + n) 1 (to1 (word1 m (1) (0)) p (14)) w) := by
  obtain ⟨b, rfl, h⟩ := h
  have HC := Lib.hid ((boxed w n (2 + n) b).cx h hA (by omega) (by omega))
  have hpn : (p : Int) < n := by omega
  have hn0 : (1 : Int) ≤ n := by omega
  have Hl := Lib.hid hl
  clear h hA hl
  unfold MB.val
  go_enter Tryd.func63, Tryd.ntmps63
  go_upto_region 1 with fail
  generalize (w.alloc (.cells #[.int .i64 n, .slice (some ⟨b.bW, 0, none⟩) (2 + n) b.cW, .slice (some ⟨b.bA, 0, none⟩) n b.cA, .slice (some ⟨b.bO, 0, none⟩) n b.cO] 27)).alloc
    (.cells #[.int .i64 0, .slice none 0 0, .slice none 0 0, .slice none 0 0] 27) = wx at HC ⊢
  have cL := HC.out.line p hp
  rw [Hl.out] at cL
  have d0 := HC.out.c0
  have d1 := HC.out.c1
  have d2 := HC.out.c2
  have d3 := HC.out.c3
  go_wp2_with fail
  refine (word_any (i := 1) (rfl) ⟨b, rfl, HC.out.mach⟩ HC.out.new (by omega) (by omega) (by omega)).mono ?_
  rintro e w1 ⟨v1, rfl, h1, hbel⟩
  replace HC := Lib.hid (HC.out.below hbel)
  clear hbel
  go_wp2_with fail
  refine (to_any (p := p) rfl h1 HC.out.new (by omega) (by omega) hp).mono ?_
  rintro e w2 ⟨_, rfl, ⟨b', rfl, hm'⟩, hbel⟩
  replace HC := Lib.hid (HC.out.below hbel)
  have q0 := HC.out.o0
  have q1 := HC.out.o1
  have q2 := HC.out.o2
  have q3 := HC.out.o3
  have f2 := HC.out.f 0
  have f3 := HC.out.f 1
  have f4 := HC.out.f 2
  have f5 := HC.out.f 3
  unfold MB.val
  clear hbel
  go_wp2_with fail
  exact HC.out.ret hm' rfl rfl rfl

set_option maxHeartbeats 4000000 in
set_option maxRecDepth 100000 in
theorem lE {w : World} {A : Nat → Prop} {n p : Nat} {v : Value} {m : MS} (h : MRep w A n (2 + n) 1 v m) (hA : ∀ k, w.heap.size ≤ k → A k) (hp : p < n) (hn : n ≤ 4) (hl : m.at_ p = 14)   :
    Calls Tryd.prog 63 #[v, .int .i64 p] w (Next A n (2 + n) 1 (to1 (word1 m (2 + p) (0)) p (1)) w) := by
  obtain ⟨b, rfl, h⟩ := h
  have HC := Lib.hid ((boxed w n (2 + n) b).cx h hA (by omega) (by omega))
  have hpn : (p : Int) < n := by omega
  have hn0 : (1 : Int) ≤ n := by omega
  have Hl := Lib.hid hl
  clear h hA hl
  unfold MB.val
  go_enter Tryd.func63, Tryd.ntmps63
  go_upto_region 1 with fail
  generalize (w.alloc (.cells #[.int .i64 n, .slice (some ⟨b.bW, 0, none⟩) (2 + n) b.cW, .slice (some ⟨b.bA, 0, none⟩) n b.cA, .slice (some ⟨b.bO, 0, none⟩) n b.cO] 27)).alloc
    (.cells #[.int .i64 0, .slice none 0 0, .slice none 0 0, .slice none 0 0] 27) = wx at HC ⊢
  have cL := HC.out.line p hp
  rw [Hl.out] at cL
  have d0 := HC.out.c0
  have d1 := HC.out.c1
  have d2 := HC.out.c2
  have d3 := HC.out.c3
  go_wp2_with fail
  refine (word_any (i := 2 + p) (by first | rfl | omega | (rw [IntWalk.i64_in _ (by omega)]; omega)) ⟨b, rfl, HC.out.mach⟩ HC.out.new (by omega) (by omega) (by omega)).mono ?_
  rintro e w1 ⟨v1, rfl, h1, hbel⟩
  replace HC := Lib.hid (HC.out.below hbel)
  clear hbel
  go_wp2_with fail
  refine (to_any (p := p) rfl h1 HC.out.new (by omega) (by omega) hp).mono ?_
  rintro e w2 ⟨_, rfl, ⟨b', rfl, hm'⟩, hbel⟩
  replace HC := Lib.hid (HC.out.below hbel)
  have q0 := HC.out.o0
  have q1 := HC.out.o1
  have q2 := HC.out.o2
  have q3 := HC.out.o3
  have f2 := HC.out.f 0
  have f3 := HC.out.f 1
  have f4 := HC.out.f 2
  have f5 := HC.out.f 3
  unfold MB.val
  clear hbel
  go_wp2_with fail
  exact HC.out.ret hm' rfl rfl rfl
end Go.Proofs.YtgkfgijmccojjaaDoor.MFast
