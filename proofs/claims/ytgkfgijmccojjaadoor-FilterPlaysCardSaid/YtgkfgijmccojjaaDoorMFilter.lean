import Derived.Test.YtgkfgijmccojjaaDoorMPasses
namespace Go.Proofs.YtgkfgijmccojjaaDoor.MFilter
open Go.RowKit
set_option linter.unusedVariables false

set_option maxHeartbeats 4000000 in
set_option maxRecDepth 100000 in
theorem l1 {w : World} {A : Nat → Prop} {n p : Nat} {v : Value} {m : MS} (h : MRep w A n (2 * n) 2 v m) (hA : ∀ k, w.heap.size ≤ k → A k) (hp : p < n) (hn : n ≤ 4) (hl : m.at_ p = 1) {j k : Nat} (hj : m.ow p 0 = (j : Int)) (hk : m.ow p 1 = (k : Int)) (hj1 : 1 ≤ j) (hjn : j ≤ 4) (hkn : k < n)  :
    Calls Tryd.prog 53 #[v, .int .i64 p] w (Next A n (2 * n) 2 (to1 (word1 m (p) ((j : Int))) p (2)) w) := by
  obtain ⟨b, rfl, h⟩ := h
  have HC := Lib.hid ((boxed w n (2 * n) b).cx h hA (by omega) (by omega))
  have hpn : (p : Int) < n := by omega
  have hn0 : (1 : Int) ≤ n := by omega
  have Hl := Lib.hid hl
  have Hj := Lib.hid hj
  have Hk := Lib.hid hk
  clear hj hk
  clear h hA hl
  unfold MB.val
  go_enter Tryd.func53, Tryd.ntmps53
  go_upto_region 1 with fail
  generalize (w.alloc (.cells #[.int .i64 n, .slice (some ⟨b.bW, 0, none⟩) (2 * n) b.cW, .slice (some ⟨b.bA, 0, none⟩) n b.cA, .slice (some ⟨b.bO, 0, none⟩) n b.cO] 27)).alloc
    (.cells #[.int .i64 0, .slice none 0 0, .slice none 0 0, .slice none 0 0] 27) = wx at HC ⊢
  have cL := HC.out.line p hp
  rw [Hl.out] at cL
  have d0 := HC.out.c0
  have d1 := HC.out.c1
  have d2 := HC.out.c2
  have d3 := HC.out.c3
  have r0 := HC.out.row p hp
  have r1 := HC.out.num p 0 hp (by omega)
  rw [Hj.out] at r1
  have r2 := HC.out.num p 1 hp (by omega)
  rw [Hk.out] at r2
  go_wp2_with fail
  refine (word_any (i := p) (rfl) ⟨b, rfl, HC.out.mach⟩ HC.out.new (by omega) (by omega) (by omega)).mono ?_
  rintro e w1 ⟨v1, rfl, h1, hbel⟩
  replace HC := Lib.hid (HC.out.below hbel)
  clear hbel
  go_wp2_with fail
  refine (to_any (p := p) rfl h1 HC.out.new (by omega) (by omega) hp).mono ?_
  rintro e w2 ⟨_, rfl, ⟨b', rfl, hm'⟩, hbel⟩
  replace HC := Lib.hid (HC.out.below hbel)
  have q0 := HC.out.o0
  have q1 := HC.out.o1
  have q2 := HC.out.o2
  have q3 := HC.out.o3
  have f2 := HC.out.f 0
  have f3 := HC.out.f 1
  have f4 := HC.out.f 2
  have f5 := HC.out.f 3
  unfold MB.val
  clear hbel
  go_wp2_with fail
  exact HC.out.ret hm' rfl rfl rfl

set_option maxHeartbeats 4000000 in
set_option maxRecDepth 100000 in
theorem l2 {w : World} {A : Nat → Prop} {n p : Nat} {v : Value} {m : MS} (h : MRep w A n (2 * n) 2 v m) (hA : ∀ k, w.heap.size ≤ k → A k) (hp : p < n) (hn : n ≤ 4) (hl : m.at_ p = 2) {j k : Nat} (hj : m.ow p 0 = (j : Int)) (hk : m.ow p 1 = (k : Int)) (hj1 : 1 ≤ j) (hjn : j ≤ 4) (hkn : k < n) (hjs : j ≤ n) :
    Calls Tryd.prog 53 #[v, .int .i64 p] w (Next A n (2 * n) 2 (to1 (word1 m (n + j - 1) ((p : Int) + 1)) p (3)) w) := by
  obtain ⟨b, rfl, h⟩ := h
  have HC := Lib.hid ((boxed w n (2 * n) b).cx h hA (by omega) (by omega))
  have hpn : (p : Int) < n := by omega
  have hn0 : (1 : Int) ≤ n := by omega
  have Hl := Lib.hid hl
  have Hj := Lib.hid hj
  have Hk := Lib.hid hk
  clear hj hk
  clear h hA hl
  unfold MB.val
  go_enter Tryd.func53, Tryd.ntmps53
  go_upto_region 1 with fail
  generalize (w.alloc (.cells #[.int .i64 n, .slice (some ⟨b.bW, 0, none⟩) (2 * n) b.cW, .slice (some ⟨b.bA, 0, none⟩) n b.cA, .slice (some ⟨b.bO, 0, none⟩) n b.cO] 27)).alloc
    (.cells #[.int .i64 0, .slice none 0 0, .slice none 0 0, .slice none 0 0] 27) = wx at HC ⊢
  have cL := HC.out.line p hp
  rw [Hl.out] at cL
  have d0 := HC.out.c0
  have d1 := HC.out.c1
  have d2 := HC.out.c2
  have d3 := HC.out.c3
  have r0 := HC.out.row p hp
  have r1 := HC.out.num p 0 hp (by omega)
  rw [Hj.out] at r1
  have r2 := HC.out.num p 1 hp (by omega)
  rw [Hk.out] at r2
  go_wp2_with fail
  refine (word_any (i := n + j - 1) (by first | rfl | omega | (rw [IntWalk.i64_in _ (by omega)]; omega)) ⟨b, rfl, HC.out.mach⟩ HC.out.new (by omega) (by omega) (by omega)).mono ?_
  rintro e w1 ⟨v1, rfl, h1, hbel⟩
  replace HC := Lib.hid (HC.out.below hbel)
  clear hbel
  go_wp2_with fail
  refine (to_any (p := p) rfl h1 HC.out.new (by omega) (by omega) hp).mono ?_
  rintro e w2 ⟨_, rfl, ⟨b', rfl, hm'⟩, hbel⟩
  replace HC := Lib.hid (HC.out.below hbel)
  have q0 := HC.out.o0
  have q1 := HC.out.o1
  have q2 := HC.out.o2
  have q3 := HC.out.o3
  have f2 := HC.out.f 0
  have f3 := HC.out.f 1
  have f4 := HC.out.f 2
  have f5 := HC.out.f 3
  unfold MB.val
  clear hbel
  go_wp2_with fail
  exact HC.out.ret hm' rfl rfl rfl

set_option maxHeartbeats 4000000 in
set_option maxRecDepth 100000 in
theorem l31 {w : World} {A : Nat → Prop} {n p : Nat} {v : Value} {m : MS} (h : MRep w A n (2 * n) 2 v m) (hA : ∀ k, w.heap.size ≤ k → A k) (hp : p < n) (hn : n ≤ 4) (hl : m.at_ p = 3) {j k : Nat} (hj : m.ow p 0 = (j : Int)) (hk : m.ow p 1 = (k : Int)) (hj1 : 1 ≤ j) (hjn : j ≤ 4) (hkn : k < n) (hjs : j ≤ n) (hx : m.wd (n + j - 1) = (p : Int) + 1) :
    Calls Tryd.prog 53 #[v, .int .i64 p] w (Next A n (2 * n) 2 (to1 m p (4)) w) := by
  obtain ⟨b, rfl, h⟩ := h
  have HC := Lib.hid ((boxed w n (2 * n) b).cx h hA (by omega) (by omega))
  have hpn : (p : Int) < n := by omega
  have hn0 : (1 : Int) ≤ n := by omega
  have Hl := Lib.hid hl
  have Hj := Lib.hid hj
  have Hk := Lib.hid hk
  clear hj hk
  have t0 : (m.wd (n + j - 1) != (p : Int) + 1) = false := by first | (simp; done) | (simp; omega) | omega
  clear hx
  have i0 : ((n : Int) + j - 1).toNat = n + j - 1 := by first | (simp; done) | (simp; omega) | omega
  have i1 : (n : Int) + j - 1 < 2 * n := by first | (simp; done) | (simp; omega) | omega
  have i2 : (0 : Int) ≤ (n : Int) + j - 1 := by first | (simp; done) | (simp; omega) | omega
  clear h hA hl
  unfold MB.val
  go_enter Tryd.func53, Tryd.ntmps53
  go_upto_region 1 with fail
  generalize (w.alloc (.cells #[.int .i64 n, .slice (some ⟨b.bW, 0, none⟩) (2 * n) b.cW, .slice (some ⟨b.bA, 0, none⟩) n b.cA, .slice (some ⟨b.bO, 0, none⟩) n b.cO] 27)).alloc
    (.cells #[.int .i64 0, .slice none 0 0, .slice none 0 0, .slice none 0 0] 27) = wx at HC ⊢
  have cL := HC.out.line p hp
  rw [Hl.out] at cL
  have d0 := HC.out.c0
  have d1 := HC.out.c1
  have d2 := HC.out.c2
  have d3 := HC.out.c3
  have r0 := HC.out.row p hp
  have r1 := HC.out.num p 0 hp (by omega)
  rw [Hj.out] at r1
  have r2 := HC.out.num p 1 hp (by omega)
  rw [Hk.out] at r2
  have r3 := HC.out.word (n + j - 1) (by omega)
  go_wp2_with fail
  refine (to_any (p := p) rfl ⟨b, rfl, HC.out.mach⟩ HC.out.new (by omega) (by omega) hp).mono ?_
  rintro e w1 ⟨_, rfl, ⟨b', rfl, hm'⟩, hbel⟩
  replace HC := Lib.hid (HC.out.below hbel)
  have q0 := HC.out.o0
  have q1 := HC.out.o1
  have q2 := HC.out.o2
  have q3 := HC.out.o3
  have f2 := HC.out.f 0
  have f3 := HC.out.f 1
  have f4 := HC.out.f 2
  have f5 := HC.out.f 3
  unfold MB.val
  clear hbel
  go_wp2_with fail
  exact HC.out.ret hm' rfl rfl rfl

set_option maxHeartbeats 4000000 in
set_option maxRecDepth 100000 in
theorem l30 {w : World} {A : Nat → Prop} {n p : Nat} {v : Value} {m : MS} (h : MRep w A n (2 * n) 2 v m) (hA : ∀ k, w.heap.size ≤ k → A k) (hp : p < n) (hn : n ≤ 4) (hl : m.at_ p = 3) {j k : Nat} (hj : m.ow p 0 = (j : Int)) (hk : m.ow p 1 = (k : Int)) (hj1 : 1 ≤ j) (hjn : j ≤ 4) (hkn : k < n) (hjs : j ≤ n) (hx : ¬ m.wd (n + j - 1) = (p : Int) + 1) :
    Calls Tryd.prog 53 #[v, .int .i64 p] w (Next A n (2 * n) 2 (passes1 n m p) w) := by
  obtain ⟨b, rfl, h⟩ := h
  have HC := Lib.hid ((boxed w n (2 * n) b).cx h hA (by omega) (by omega))
  have hpn : (p : Int) < n := by omega
  have hn0 : (1 : Int) ≤ n := by omega
  have Hl := Lib.hid hl
  have Hj := Lib.hid hj
  have Hk := Lib.hid hk
  clear hj hk
  have t0 : (m.wd (n + j - 1) != (p : Int) + 1) = true := by first | (simp; done) | (simp; omega) | omega
  clear hx
  have i0 : ((n : Int) + j - 1).toNat = n + j - 1 := by first | (simp; done) | (simp; omega) | omega
  have i1 : (n : Int) + j - 1 < 2 * n := by first | (simp; done) | (simp; omega) | omega
  have i2 : (0 : Int) ≤ (n : Int) + j - 1 := by first | (simp; done) | (simp; omega) | omega
  clear h hA hl
  unfold MB.val
  go_enter Tryd.func53, Tryd.ntmps53
  go_upto_region 1 with fail
  generalize (w.alloc (.cells #[.int .i64 n, .slice (some ⟨b.bW, 0, none⟩) (2 * n) b.cW, .slice (some ⟨b.bA, 0, none⟩) n b.cA, .slice (some ⟨b.bO, 0, none⟩) n b.cO] 27)).alloc
    (.cells #[.int .i64 0, .slice none 0 0, .slice none 0 0, .slice none 0 0] 27) = wx at HC ⊢
  have cL := HC.out.line p hp
  rw [Hl.out] at cL
  have d0 := HC.out.c0
  have d1 := HC.out.c1
  have d2 := HC.out.c2
  have d3 := HC.out.c3
  have r0 := HC.out.row p hp
  have r1 := HC.out.num p 0 hp (by omega)
  rw [Hj.out] at r1
  have r2 := HC.out.num p 1 hp (by omega)
  rw [Hk.out] at r2
  have r3 := HC.out.word (n + j - 1) (by omega)
  go_wp2_with fail
  refine (passes_any rfl (j := j) ⟨b, rfl, HC.out.mach⟩ HC.out.new (by omega) (by omega) (by omega) hp Hj.out (by omega)).mono ?_
  rintro e w1 ⟨_, rfl, ⟨b', rfl, hm'⟩, hbel⟩
  replace HC := Lib.hid (HC.out.below hbel)
  have q0 := HC.out.o0
  have q1 := HC.out.o1
  have q2 := HC.out.o2
  have q3 := HC.out.o3
  have f2 := HC.out.f 0
  have f3 := HC.out.f 1
  have f4 := HC.out.f 2
  have f5 := HC.out.f 3
  unfold MB.val
  clear hbel
  go_wp2_with fail
  exact HC.out.ret hm' rfl rfl rfl

set_option maxHeartbeats 4000000 in
set_option maxRecDepth 100000 in
theorem l41 {w : World} {A : Nat → Prop} {n p : Nat} {v : Value} {m : MS} (h : MRep w A n (2 * n) 2 v m) (hA : ∀ k, w.heap.size ≤ k → A k) (hp : p < n) (hn : n ≤ 4) (hl : m.at_ p = 4) {j k : Nat} (hj : m.ow p 0 = (j : Int)) (hk : m.ow p 1 = (k : Int)) (hj1 : 1 ≤ j) (hjn : j ≤ 4) (hkn : k < n) (hx : k ≠ p ∧ (j : Int) ≤ m.wd k) :
    Calls Tryd.prog 53 #[v, .int .i64 p] w (Next A n (2 * n) 2 (to1 (own1 m p 1 (0)) p (3)) w) := by
  obtain ⟨b, rfl, h⟩ := h
  have HC := Lib.hid ((boxed w n (2 * n) b).cx h hA (by omega) (by omega))
  have hpn : (p : Int) < n := by omega
  have hn0 : (1 : Int) ≤ n := by omega
  have Hl := Lib.hid hl
  have Hj := Lib.hid hj
  have Hk := Lib.hid hk
  clear hj hk
  have t0 : ((k : Int) != (p : Int)) = true := by first | (simp; done) | (simp; omega) | omega
  have t1 : (k != p) = true := by first | (simp; done) | (simp; omega) | omega
  have t2 : decide ((j : Int) ≤ m.wd k) = true := by first | (simp; done) | (simp; omega) | omega
  clear hx
  clear h hA hl
  unfold MB.val
  go_enter Tryd.func53, Tryd.ntmps53
  go_upto_region 1 with fail
  generalize (w.alloc (.cells #[.int .i64 n, .slice (some ⟨b.bW, 0, none⟩) (2 * n) b.cW, .slice (some ⟨b.bA, 0, none⟩) n b.cA, .slice (some ⟨b.bO, 0, none⟩) n b.cO] 27)).alloc
    (.cells #[.int .i64 0, .slice none 0 0, .slice none 0 0, .slice none 0 0] 27) = wx at HC ⊢
  have cL := HC.out.line p hp
  rw [Hl.out] at cL
  have d0 := HC.out.c0
  have d1 := HC.out.c1
  have d2 := HC.out.c2
  have d3 := HC.out.c3
  have r0 := HC.out.row p hp
  have r1 := HC.out.num p 0 hp (by omega)
  rw [Hj.out] at r1
  have r2 := HC.out.num p 1 hp (by omega)
  rw [Hk.out] at r2
  have r3 := HC.out.word k (by omega)
  go_wp2_with fail
  refine (own_any rfl (i := 1) rfl ⟨b, rfl, HC.out.mach⟩ HC.out.new (by omega) (by omega) (by omega) hp (by omega)).mono ?_
  rintro e w1 ⟨v1, rfl, h1, hbel⟩
  replace HC := Lib.hid (HC.out.below hbel)
  clear hbel
  go_wp2_with fail
  refine (to_any (p := p) rfl h1 HC.out.new (by omega) (by omega) hp).mono ?_
  rintro e w2 ⟨_, rfl, ⟨b', rfl, hm'⟩, hbel⟩
  replace HC := Lib.hid (HC.out.below hbel)
  have q0 := HC.out.o0
  have q1 := HC.out.o1
  have q2 := HC.out.o2
  have q3 := HC.out.o3
  have f2 := HC.out.f 0
  have f3 := HC.out.f 1
  have f4 := HC.out.f 2
  have f5 := HC.out.f 3
  unfold MB.val
  clear hbel
  go_wp2_with fail
  exact HC.out.ret hm' rfl rfl rfl

set_option maxHeartbeats 4000000 in
set_option maxRecDepth 100000 in
theorem l42 {w : World} {A : Nat → Prop} {n p : Nat} {v : Value} {m : MS} (h : MRep w A n (2 * n) 2 v m) (hA : ∀ k, w.heap.size ≤ k → A k) (hp : p < n) (hn : n ≤ 4) (hl : m.at_ p = 4) {j k : Nat} (hj : m.ow p 0 = (j : Int)) (hk : m.ow p 1 = (k : Int)) (hj1 : 1 ≤ j) (hjn : j ≤ 4) (hkn : k < n) (hx : ¬ (k ≠ p ∧ (j : Int) ≤ m.wd k)) (hy : k + 1 = n) :
    Calls Tryd.prog 53 #[v, .int .i64 p] w (Next A n (2 * n) 2 (passes1 n m p) w) := by
  obtain ⟨b, rfl, h⟩ := h
  have HC := Lib.hid ((boxed w n (2 * n) b).cx h hA (by omega) (by omega))
  have hpn : (p : Int) < n := by omega
  have hn0 : (1 : Int) ≤ n := by omega
  have Hl := Lib.hid hl
  have Hj := Lib.hid hj
  have Hk := Lib.hid hk
  clear hj hk
  have t3 : ((k : Int) + 1 == (n : Int)) = true := by first | (simp; done) | (simp; omega) | omega
  have t4 : (k + 1 == n) = true := by first | (simp; done) | (simp; omega) | omega
  clear h hA hl
  unfold MB.val
  go_enter Tryd.func53, Tryd.ntmps53
  go_upto_region 1 with fail
  generalize (w.alloc (.cells #[.int .i64 n, .slice (some ⟨b.bW, 0, none⟩) (2 * n) b.cW, .slice (some ⟨b.bA, 0, none⟩) n b.cA, .slice (some ⟨b.bO, 0, none⟩) n b.cO] 27)).alloc
    (.cells #[.int .i64 0, .slice none 0 0, .slice none 0 0, .slice none 0 0] 27) = wx at HC ⊢
  have cL := HC.out.line p hp
  rw [Hl.out] at cL
  have d0 := HC.out.c0
  have d1 := HC.out.c1
  have d2 := HC.out.c2
  have d3 := HC.out.c3
  have r0 := HC.out.row p hp
  have r1 := HC.out.num p 0 hp (by omega)
  rw [Hj.out] at r1
  have r2 := HC.out.num p 1 hp (by omega)
  rw [Hk.out] at r2
  have r3 := HC.out.word k (by omega)
  by_cases hkp : k = p
  · have t0 : ((k : Int) != (p : Int)) = false := by simp; omega
    have t1 : (k != p) = false := by simp; omega
    clear hx hy hkp
    go_wp2_with fail
    refine (passes_any rfl (j := j) ⟨b, rfl, HC.out.mach⟩ HC.out.new (by omega) (by omega) (by omega) hp Hj.out (by omega)).mono ?_
    rintro e w1 ⟨_, rfl, ⟨b', rfl, hm'⟩, hbel⟩
    replace HC := Lib.hid (HC.out.below hbel)
    have q0 := HC.out.o0
    have q1 := HC.out.o1
    have q2 := HC.out.o2
    have q3 := HC.out.o3
    have f2 := HC.out.f 0
    have f3 := HC.out.f 1
    have f4 := HC.out.f 2
    have f5 := HC.out.f 3
    unfold MB.val
    clear hbel
    go_wp2_with fail
    exact HC.out.ret hm' rfl rfl rfl
  · have t0 : ((k : Int) != (p : Int)) = true := by simp; omega
    have t1 : (k != p) = true := by simp; omega
    have t2 : decide ((j : Int) ≤ m.wd k) = false := by simp; omega
    clear hx hy hkp
    go_wp2_with fail
    refine (passes_any rfl (j := j) ⟨b, rfl, HC.out.mach⟩ HC.out.new (by omega) (by omega) (by omega) hp Hj.out (by omega)).mono ?_
    rintro e w1 ⟨_, rfl, ⟨b', rfl, hm'⟩, hbel⟩
    replace HC := Lib.hid (HC.out.below hbel)
    have q0 := HC.out.o0
    have q1 := HC.out.o1
    have q2 := HC.out.o2
    have q3 := HC.out.o3
    have f2 := HC.out.f 0
    have f3 := HC.out.f 1
    have f4 := HC.out.f 2
    have f5 := HC.out.f 3
    unfold MB.val
    clear hbel
    go_wp2_with fail
    exact HC.out.ret hm' rfl rfl rfl

set_option maxHeartbeats 4000000 in
set_option maxRecDepth 100000 in
theorem l43 {w : World} {A : Nat → Prop} {n p : Nat} {v : Value} {m : MS} (h : MRep w A n (2 * n) 2 v m) (hA : ∀ k, w.heap.size ≤ k → A k) (hp : p < n) (hn : n ≤ 4) (hl : m.at_ p = 4) {j k : Nat} (hj : m.ow p 0 = (j : Int)) (hk : m.ow p 1 = (k : Int)) (hj1 : 1 ≤ j) (hjn : j ≤ 4) (hkn : k < n) (hx : ¬ (k ≠ p ∧ (j : Int) ≤ m.wd k)) (hy : ¬ k + 1 = n) :
    Calls Tryd.prog 53 #[v, .int .i64 p] w (Next A n (2 * n) 2 (own1 m p 1 ((k : Int) + 1)) w) := by
  obtain ⟨b, rfl, h⟩ := h
  have HC := Lib.hid ((boxed w n (2 * n) b).cx h hA (by omega) (by omega))
  have hpn : (p : Int) < n := by omega
  have hn0 : (1 : Int) ≤ n := by omega
  have Hl := Lib.hid hl
  have Hj := Lib.hid hj
  have Hk := Lib.hid hk
  clear hj hk
  have t3 : ((k : Int) + 1 == (n : Int)) = false := by first | (simp; done) | (simp; omega) | omega
  have t4 : (k + 1 == n) = false := by first | (simp; done) | (simp; omega) | omega
  clear h hA hl
  unfold MB.val
  go_enter Tryd.func53, Tryd.ntmps53
  go_upto_region 1 with fail
  generalize (w.alloc (.cells #[.int .i64 n, .slice (some ⟨b.bW, 0, none⟩) (2 * n) b.cW, .slice (some ⟨b.bA, 0, none⟩) n b.cA, .slice (some ⟨b.bO, 0, none⟩) n b.cO] 27)).alloc
    (.cells #[.int .i64 0, .slice none 0 0, .slice none 0 0, .slice none 0 0] 27) = wx at HC ⊢
  have cL := HC.out.line p hp
  rw [Hl.out] at cL
  have d0 := HC.out.c0
  have d1 := HC.out.c1
  have d2 := HC.out.c2
  have d3 := HC.out.c3
  have r0 := HC.out.row p hp
  have r1 := HC.out.num p 0 hp (by omega)
  rw [Hj.out] at r1
  have r2 := HC.out.num p 1 hp (by omega)
  rw [Hk.out] at r2
  have r3 := HC.out.word k (by omega)
  by_cases hkp : k = p
  · have t0 : ((k : Int) != (p : Int)) = false := by simp; omega
    have t1 : (k != p) = false := by simp; omega
    clear hx hy hkp
    go_wp2_with fail
    refine (own_any rfl (i := 1) rfl ⟨b, rfl, HC.out.mach⟩ HC.out.new (by omega) (by omega) (by omega) hp (by omega)).mono ?_
    rintro e w1 ⟨_, rfl, ⟨b', rfl, hm'⟩, hbel⟩
    replace HC := Lib.hid (HC.out.below hbel)
    have q0 := HC.out.o0
    have q1 := HC.out.o1
    have q2 := HC.out.o2
    have q3 := HC.out.o3
    have f2 := HC.out.f 0
    have f3 := HC.out.f 1
    have f4 := HC.out.f 2
    have f5 := HC.out.f 3
    unfold MB.val
    clear hbel
    go_wp2_with fail
    exact HC.out.ret hm' rfl rfl rfl
  · have t0 : ((k : Int) != (p : Int)) = true := by simp; omega
    have t1 : (k != p) = true := by simp; omega
    have t2 : decide ((j : Int) ≤ m.wd k) = false := by simp; omega
    clear hx hy hkp
    go_wp2_with fail
    refine (own_any rfl (i := 1) rfl ⟨b, rfl, HC.out.mach⟩ HC.out.new (by omega) (by omega) (by omega) hp (by omega)).mono ?_
    rintro e w1 ⟨_, rfl, ⟨b', rfl, hm'⟩, hbel⟩
    replace HC := Lib.hid (HC.out.below hbel)
    have q0 := HC.out.o0
    have q1 := HC.out.o1
    have q2 := HC.out.o2
    have q3 := HC.out.o3
    have f2 := HC.out.f 0
    have f3 := HC.out.f 1
    have f4 := HC.out.f 2
    have f5 := HC.out.f 3
    unfold MB.val
    clear hbel
    go_wp2_with fail
    exact HC.out.ret hm' rfl rfl rfl

set_option maxHeartbeats 4000000 in
set_option maxRecDepth 100000 in
theorem l5 {w : World} {A : Nat → Prop} {n p : Nat} {v : Value} {m : MS} (h : MRep w A n (2 * n) 2 v m) (hA : ∀ k, w.heap.size ≤ k → A k) (hp : p < n) (hn : n ≤ 4) (hl : m.at_ p = 5) {j k : Nat} (hj : m.ow p 0 = (j : Int)) (hk : m.ow p 1 = (k : Int)) (hj1 : 1 ≤ j) (hjn : j ≤ 4) (hkn : k < n)  :
    Calls Tryd.prog 53 #[v, .int .i64 p] w (Next A n (2 * n) 2 (to1 m p (6)) w) := by
  obtain ⟨b, rfl, h⟩ := h
  have HC := Lib.hid ((boxed w n (2 * n) b).cx h hA (by omega) (by omega))
  have hpn : (p : Int) < n := by omega
  have hn0 : (1 : Int) ≤ n := by omega
  have Hl := Lib.hid hl
  have Hj := Lib.hid hj
  have Hk := Lib.hid hk
  clear hj hk
  clear h hA hl
  unfold MB.val
  go_enter Tryd.func53, Tryd.ntmps53
  go_upto_region 1 with fail
  generalize (w.alloc (.cells #[.int .i64 n, .slice (some ⟨b.bW, 0, none⟩) (2 * n) b.cW, .slice (some ⟨b.bA, 0, none⟩) n b.cA, .slice (some ⟨b.bO, 0, none⟩) n b.cO] 27)).alloc
    (.cells #[.int .i64 0, .slice none 0 0, .slice none 0 0, .slice none 0 0] 27) = wx at HC ⊢
  have cL := HC.out.line p hp
  rw [Hl.out] at cL
  have d0 := HC.out.c0
  have d1 := HC.out.c1
  have d2 := HC.out.c2
  have d3 := HC.out.c3
  have r0 := HC.out.row p hp
  have r1 := HC.out.num p 0 hp (by omega)
  rw [Hj.out] at r1
  have r2 := HC.out.num p 1 hp (by omega)
  rw [Hk.out] at r2
  go_wp2_with fail
  refine (to_any (p := p) rfl ⟨b, rfl, HC.out.mach⟩ HC.out.new (by omega) (by omega) hp).mono ?_
  rintro e w1 ⟨_, rfl, ⟨b', rfl, hm'⟩, hbel⟩
  replace HC := Lib.hid (HC.out.below hbel)
  have q0 := HC.out.o0
  have q1 := HC.out.o1
  have q2 := HC.out.o2
  have q3 := HC.out.o3
  have f2 := HC.out.f 0
  have f3 := HC.out.f 1
  have f4 := HC.out.f 2
  have f5 := HC.out.f 3
  unfold MB.val
  clear hbel
  go_wp2_with fail
  exact HC.out.ret hm' rfl rfl rfl

set_option maxHeartbeats 4000000 in
set_option maxRecDepth 100000 in
theorem l6 {w : World} {A : Nat → Prop} {n p : Nat} {v : Value} {m : MS} (h : MRep w A n (2 * n) 2 v m) (hA : ∀ k, w.heap.size ≤ k → A k) (hp : p < n) (hn : n ≤ 4) (hl : m.at_ p = 6) {j k : Nat} (hj : m.ow p 0 = (j : Int)) (hk : m.ow p 1 = (k : Int)) (hj1 : 1 ≤ j) (hjn : j ≤ 4) (hkn : k < n)  :
    Calls Tryd.prog 53 #[v, .int .i64 p] w (Next A n (2 * n) 2 (to1 (own1 (own1 (word1 m (p) (0)) p 0 (1)) p 1 (0)) p (1)) w) := by
  obtain ⟨b, rfl, h⟩ := h
  have HC := Lib.hid ((boxed w n (2 * n) b).cx h hA (by omega) (by omega))
  have hpn : (p : Int) < n := by omega
  have hn0 : (1 : Int) ≤ n := by omega
  have Hl := Lib.hid hl
  have Hj := Lib.hid hj
  have Hk := Lib.hid hk
  clear hj hk
  clear h hA hl
  unfold MB.val
  go_enter Tryd.func53, Tryd.ntmps53
  go_upto_region 1 with fail
  generalize (w.alloc (.cells #[.int .i64 n, .slice (some ⟨b.bW, 0, none⟩) (2 * n) b.cW, .slice (some ⟨b.bA, 0, none⟩) n b.cA, .slice (some ⟨b.bO, 0, none⟩) n b.cO] 27)).alloc
    (.cells #[.int .i64 0, .slice none 0 0, .slice none 0 0, .slice none 0 0] 27) = wx at HC ⊢
  have cL := HC.out.line p hp
  rw [Hl.out] at cL
  have d0 := HC.out.c0
  have d1 := HC.out.c1
  have d2 := HC.out.c2
  have d3 := HC.out.c3
  have r0 := HC.out.row p hp
  have r1 := HC.out.num p 0 hp (by omega)
  rw [Hj.out] at r1
  have r2 := HC.out.num p 1 hp (by omega)
  rw [Hk.out] at r2
  go_wp2_with fail
  refine (word_any (i := p) (rfl) ⟨b, rfl, HC.out.mach⟩ HC.out.new (by omega) (by omega) (by omega)).mono ?_
  rintro e w1 ⟨v1, rfl, h1, hbel⟩
  replace HC := Lib.hid (HC.out.below hbel)
  clear hbel
  go_wp2_with fail
  refine (own_any rfl (i := 0) rfl h1 HC.out.new (by omega) (by omega) (by omega) hp (by omega)).mono ?_
  rintro e w2 ⟨v2, rfl, h2, hbel⟩
  replace HC := Lib.hid (HC.out.below hbel)
  clear hbel
  go_wp2_with fail
  refine (own_any rfl (i := 1) rfl h2 HC.out.new (by omega) (by omega) (by omega) hp (by omega)).mono ?_
  rintro e w3 ⟨v3, rfl, h3, hbel⟩
  replace HC := Lib.hid (HC.out.below hbel)
  clear hbel
  go_wp2_with fail
  refine (to_any (p := p) rfl h3 HC.out.new (by omega) (by omega) hp).mono ?_
  rintro e w4 ⟨_, rfl, ⟨b', rfl, hm'⟩, hbel⟩
  replace HC := Lib.hid (HC.out.below hbel)
  have q0 := HC.out.o0
  have q1 := HC.out.o1
  have q2 := HC.out.o2
  have q3 := HC.out.o3
  have f2 := HC.out.f 0
  have f3 := HC.out.f 1
  have f4 := HC.out.f 2
  have f5 := HC.out.f 3
  unfold MB.val
  clear hbel
  go_wp2_with fail
  exact HC.out.ret hm' rfl rfl rfl
end Go.Proofs.YtgkfgijmccojjaaDoor.MFilter
