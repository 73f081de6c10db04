import Derived.Test.YtgkfgijmccojjaaDoorMPlace
namespace Go.Proofs.YtgkfgijmccojjaaDoor.MSplit
open Go.RowKit
set_option linter.unusedVariables false

set_option maxHeartbeats 4000000 in
set_option maxRecDepth 100000 in
theorem l1 {w : World} {A : Nat → Prop} {n p NW : Nat} {v : Value} {m : MS} (h : MRep w A n (NW) 2 v m) (hn1 : 1 ≤ NW) (hA : ∀ k, w.heap.size ≤ k → A k) (hp : p < n) (hn : n ≤ 4) (hl : m.at_ p = 1) {K : Nat} (hK : Split.pl (m.ow p 0) (m.ow p 1) = K) (hK2 : 2 * K + 1 < NW) (hNW : NW ≤ 1000) (hr0 : 0 ≤ m.ow p 0) (hc0 : 0 ≤ m.ow p 1) (hrc : m.ow p 0 + m.ow p 1 ≤ 3)  :
    Calls Tryd.prog 46 #[v, .int .i64 p] w (Next A n (NW) 2 (to1 (word1 m (2 * K) ((p : Int) + 1)) p (2)) w) := by
  obtain ⟨b, rfl, h⟩ := h
  have HC := Lib.hid ((boxed w n (NW) b).cx h hA (by omega) (by omega))
  have hpn : (p : Int) < n := by omega
  have hn0 : (1 : Int) ≤ n := by omega
  have Hl := Lib.hid hl
  have HK := Lib.hid hK
  clear hK
  clear h hA hl
  unfold MB.val
  go_enter Tryd.func46, Tryd.ntmps46
  go_upto_region 1 with fail
  generalize (w.alloc (.cells #[.int .i64 n, .slice (some ⟨b.bW, 0, none⟩) (NW) b.cW, .slice (some ⟨b.bA, 0, none⟩) n b.cA, .slice (some ⟨b.bO, 0, none⟩) n b.cO] 27)).alloc
    (.cells #[.int .i64 0, .slice none 0 0, .slice none 0 0, .slice none 0 0] 27) = wx at HC ⊢
  have cL := HC.out.line p hp
  rw [Hl.out] at cL
  have d0 := HC.out.c0
  have d1 := HC.out.c1
  have d2 := HC.out.c2
  have d3 := HC.out.c3
  have r0 := HC.out.row p hp
  have r1 := HC.out.num p 0 hp (by omega)
  have r2 := HC.out.num p 1 hp (by omega)
  go_wp2_with fail
  refine (place_at HK.out hr0 hc0 hrc).mono ?_
  rintro e wp ⟨rfl, rfl⟩
  go_wp2_with fail
  refine (word_any (i := 2 * K) (by first | rfl | omega | (rw [IntWalk.i64_in _ (by omega)]; omega)) ⟨b, rfl, HC.out.mach⟩ HC.out.new (by omega) (by omega) (by omega)).mono ?_
  rintro e w1 ⟨v1, rfl, h1, hbel⟩
  replace HC := Lib.hid (HC.out.below hbel)
  clear hbel
  go_wp2_with fail
  refine (to_any (p := p) rfl h1 HC.out.new (by omega) (by omega) hp).mono ?_
  rintro e w2 ⟨_, rfl, ⟨b', rfl, hm'⟩, hbel⟩
  replace HC := Lib.hid (HC.out.below hbel)
  have q0 := HC.out.o0
  have q1 := HC.out.o1
  have q2 := HC.out.o2
  have q3 := HC.out.o3
  have f2 := HC.out.f 0
  have f3 := HC.out.f 1
  have f4 := HC.out.f 2
  have f5 := HC.out.f 3
  unfold MB.val
  clear hbel
  go_wp2_with fail
  exact HC.out.ret hm' rfl rfl rfl

set_option maxHeartbeats 4000000 in
set_option maxRecDepth 100000 in
theorem l21 {w : World} {A : Nat → Prop} {n p NW : Nat} {v : Value} {m : MS} (h : MRep w A n (NW) 2 v m) (hn1 : 1 ≤ NW) (hA : ∀ k, w.heap.size ≤ k → A k) (hp : p < n) (hn : n ≤ 4) (hl : m.at_ p = 2) {K : Nat} (hK : Split.pl (m.ow p 0) (m.ow p 1) = K) (hK2 : 2 * K + 1 < NW) (hNW : NW ≤ 1000) (hr0 : 0 ≤ m.ow p 0) (hc0 : 0 ≤ m.ow p 1) (hrc : m.ow p 0 + m.ow p 1 ≤ 3) (hx : m.wd (2 * K + 1) = 1) :
    Calls Tryd.prog 46 #[v, .int .i64 p] w (Next A n (NW) 2 (to1 (own1 m p 1 (m.ow p 1 + 1)) p (1)) w) := by
  obtain ⟨b, rfl, h⟩ := h
  have HC := Lib.hid ((boxed w n (NW) b).cx h hA (by omega) (by omega))
  have hpn : (p : Int) < n := by omega
  have hn0 : (1 : Int) ≤ n := by omega
  have Hl := Lib.hid hl
  have HK := Lib.hid hK
  clear hK
  have t0 : (m.wd (2 * K + 1) == 1) = true := by first | (simp; done) | (simp; omega) | omega
  clear hx
  clear h hA hl
  unfold MB.val
  go_enter Tryd.func46, Tryd.ntmps46
  go_upto_region 1 with fail
  generalize (w.alloc (.cells #[.int .i64 n, .slice (some ⟨b.bW, 0, none⟩) (NW) b.cW, .slice (some ⟨b.bA, 0, none⟩) n b.cA, .slice (some ⟨b.bO, 0, none⟩) n b.cO] 27)).alloc
    (.cells #[.int .i64 0, .slice none 0 0, .slice none 0 0, .slice none 0 0] 27) = wx at HC ⊢
  have cL := HC.out.line p hp
  rw [Hl.out] at cL
  have d0 := HC.out.c0
  have d1 := HC.out.c1
  have d2 := HC.out.c2
  have d3 := HC.out.c3
  have r0 := HC.out.row p hp
  have r1 := HC.out.num p 0 hp (by omega)
  have r2 := HC.out.num p 1 hp (by omega)
  have r3 := HC.out.word (2 * K + 1) (by omega)
  go_wp2_with fail
  refine (place_at HK.out hr0 hc0 hrc).mono ?_
  rintro e wp ⟨rfl, rfl⟩
  go_wp2_with fail
  refine (own_any rfl (i := 1) rfl ⟨b, rfl, HC.out.mach⟩ HC.out.new (by omega) (by omega) (by omega) hp (by omega)).mono ?_
  rintro e w1 ⟨v1, rfl, h1, hbel⟩
  replace HC := Lib.hid (HC.out.below hbel)
  clear hbel
  go_wp2_with fail
  refine (to_any (p := p) rfl h1 HC.out.new (by omega) (by omega) hp).mono ?_
  rintro e w2 ⟨_, rfl, ⟨b', rfl, hm'⟩, hbel⟩
  replace HC := Lib.hid (HC.out.below hbel)
  have q0 := HC.out.o0
  have q1 := HC.out.o1
  have q2 := HC.out.o2
  have q3 := HC.out.o3
  have f2 := HC.out.f 0
  have f3 := HC.out.f 1
  have f4 := HC.out.f 2
  have f5 := HC.out.f 3
  unfold MB.val
  clear hbel
  go_wp2_with fail
  exact HC.out.ret hm' rfl rfl rfl

set_option maxHeartbeats 4000000 in
set_option maxRecDepth 100000 in
theorem l20 {w : World} {A : Nat → Prop} {n p NW : Nat} {v : Value} {m : MS} (h : MRep w A n (NW) 2 v m) (hn1 : 1 ≤ NW) (hA : ∀ k, w.heap.size ≤ k → A k) (hp : p < n) (hn : n ≤ 4) (hl : m.at_ p = 2) {K : Nat} (hK : Split.pl (m.ow p 0) (m.ow p 1) = K) (hK2 : 2 * K + 1 < NW) (hNW : NW ≤ 1000) (hr0 : 0 ≤ m.ow p 0) (hc0 : 0 ≤ m.ow p 1) (hrc : m.ow p 0 + m.ow p 1 ≤ 3) (hx : ¬ m.wd (2 * K + 1) = 1) :
    Calls Tryd.prog 46 #[v, .int .i64 p] w (Next A n (NW) 2 (to1 m p (3)) w) := by
  obtain ⟨b, rfl, h⟩ := h
  have HC := Lib.hid ((boxed w n (NW) b).cx h hA (by omega) (by omega))
  have hpn : (p : Int) < n := by omega
  have hn0 : (1 : Int) ≤ n := by omega
  have Hl := Lib.hid hl
  have HK := Lib.hid hK
  clear hK
  have t0 : (m.wd (2 * K + 1) == 1) = false := by first | (simp; done) | (simp; omega) | omega
  clear hx
  clear h hA hl
  unfold MB.val
  go_enter Tryd.func46, Tryd.ntmps46
  go_upto_region 1 with fail
  generalize (w.alloc (.cells #[.int .i64 n, .slice (some ⟨b.bW, 0, none⟩) (NW) b.cW, .slice (some ⟨b.bA, 0, none⟩) n b.cA, .slice (some ⟨b.bO, 0, none⟩) n b.cO] 27)).alloc
    (.cells #[.int .i64 0, .slice none 0 0, .slice none 0 0, .slice none 0 0] 27) = wx at HC ⊢
  have cL := HC.out.line p hp
  rw [Hl.out] at cL
  have d0 := HC.out.c0
  have d1 := HC.out.c1
  have d2 := HC.out.c2
  have d3 := HC.out.c3
  have r0 := HC.out.row p hp
  have r1 := HC.out.num p 0 hp (by omega)
  have r2 := HC.out.num p 1 hp (by omega)
  have r3 := HC.out.word (2 * K + 1) (by omega)
  go_wp2_with fail
  refine (place_at HK.out hr0 hc0 hrc).mono ?_
  rintro e wp ⟨rfl, rfl⟩
  go_wp2_with fail
  refine (to_any (p := p) rfl ⟨b, rfl, HC.out.mach⟩ HC.out.new (by omega) (by omega) hp).mono ?_
  rintro e w1 ⟨_, rfl, ⟨b', rfl, hm'⟩, hbel⟩
  replace HC := Lib.hid (HC.out.below hbel)
  have q0 := HC.out.o0
  have q1 := HC.out.o1
  have q2 := HC.out.o2
  have q3 := HC.out.o3
  have f2 := HC.out.f 0
  have f3 := HC.out.f 1
  have f4 := HC.out.f 2
  have f5 := HC.out.f 3
  unfold MB.val
  clear hbel
  go_wp2_with fail
  exact HC.out.ret hm' rfl rfl rfl

set_option maxHeartbeats 4000000 in
set_option maxRecDepth 100000 in
theorem l3 {w : World} {A : Nat → Prop} {n p NW : Nat} {v : Value} {m : MS} (h : MRep w A n (NW) 2 v m) (hn1 : 1 ≤ NW) (hA : ∀ k, w.heap.size ≤ k → A k) (hp : p < n) (hn : n ≤ 4) (hl : m.at_ p = 3) {K : Nat} (hK : Split.pl (m.ow p 0) (m.ow p 1) = K) (hK2 : 2 * K + 1 < NW) (hNW : NW ≤ 1000) (hr0 : 0 ≤ m.ow p 0) (hc0 : 0 ≤ m.ow p 1) (hrc : m.ow p 0 + m.ow p 1 ≤ 3)  :
    Calls Tryd.prog 46 #[v, .int .i64 p] w (Next A n (NW) 2 (to1 (word1 m (2 * K + 1) (1)) p (4)) w) := by
  obtain ⟨b, rfl, h⟩ := h
  have HC := Lib.hid ((boxed w n (NW) b).cx h hA (by omega) (by omega))
  have hpn : (p : Int) < n := by omega
  have hn0 : (1 : Int) ≤ n := by omega
  have Hl := Lib.hid hl
  have HK := Lib.hid hK
  clear hK
  clear h hA hl
  unfold MB.val
  go_enter Tryd.func46, Tryd.ntmps46
  go_upto_region 1 with fail
  generalize (w.alloc (.cells #[.int .i64 n, .slice (some ⟨b.bW, 0, none⟩) (NW) b.cW, .slice (some ⟨b.bA, 0, none⟩) n b.cA, .slice (some ⟨b.bO, 0, none⟩) n b.cO] 27)).alloc
    (.cells #[.int .i64 0, .slice none 0 0, .slice none 0 0, .slice none 0 0] 27) = wx at HC ⊢
  have cL := HC.out.line p hp
  rw [Hl.out] at cL
  have d0 := HC.out.c0
  have d1 := HC.out.c1
  have d2 := HC.out.c2
  have d3 := HC.out.c3
  have r0 := HC.out.row p hp
  have r1 := HC.out.num p 0 hp (by omega)
  have r2 := HC.out.num p 1 hp (by omega)
  go_wp2_with fail
  refine (place_at HK.out hr0 hc0 hrc).mono ?_
  rintro e wp ⟨rfl, rfl⟩
  go_wp2_with fail
  refine (word_any (i := 2 * K + 1) (by first | rfl | omega | (rw [IntWalk.i64_in _ (by omega)]; omega)) ⟨b, rfl, HC.out.mach⟩ HC.out.new (by omega) (by omega) (by omega)).mono ?_
  rintro e w1 ⟨v1, rfl, h1, hbel⟩
  replace HC := Lib.hid (HC.out.below hbel)
  clear hbel
  go_wp2_with fail
  refine (to_any (p := p) rfl h1 HC.out.new (by omega) (by omega) hp).mono ?_
  rintro e w2 ⟨_, rfl, ⟨b', rfl, hm'⟩, hbel⟩
  replace HC := Lib.hid (HC.out.below hbel)
  have q0 := HC.out.o0
  have q1 := HC.out.o1
  have q2 := HC.out.o2
  have q3 := HC.out.o3
  have f2 := HC.out.f 0
  have f3 := HC.out.f 1
  have f4 := HC.out.f 2
  have f5 := HC.out.f 3
  unfold MB.val
  clear hbel
  go_wp2_with fail
  exact HC.out.ret hm' rfl rfl rfl

set_option maxHeartbeats 4000000 in
set_option maxRecDepth 100000 in
theorem l41 {w : World} {A : Nat → Prop} {n p NW : Nat} {v : Value} {m : MS} (h : MRep w A n (NW) 2 v m) (hn1 : 1 ≤ NW) (hA : ∀ k, w.heap.size ≤ k → A k) (hp : p < n) (hn : n ≤ 4) (hl : m.at_ p = 4) {K : Nat} (hK : Split.pl (m.ow p 0) (m.ow p 1) = K) (hK2 : 2 * K + 1 < NW) (hNW : NW ≤ 1000) (hr0 : 0 ≤ m.ow p 0) (hc0 : 0 ≤ m.ow p 1) (hrc : m.ow p 0 + m.ow p 1 ≤ 3) (hx : ¬ m.wd (2 * K) = (p : Int) + 1) :
    Calls Tryd.prog 46 #[v, .int .i64 p] w (Next A n (NW) 2 (to1 (own1 m p 0 (m.ow p 0 + 1)) p (1)) w) := by
  obtain ⟨b, rfl, h⟩ := h
  have HC := Lib.hid ((boxed w n (NW) b).cx h hA (by omega) (by omega))
  have hpn : (p : Int) < n := by omega
  have hn0 : (1 : Int) ≤ n := by omega
  have Hl := Lib.hid hl
  have HK := Lib.hid hK
  clear hK
  have t0 : (m.wd (2 * K) != (p : Int) + 1) = true := by first | (simp; done) | (simp; omega) | omega
  clear hx
  clear h hA hl
  unfold MB.val
  go_enter Tryd.func46, Tryd.ntmps46
  go_upto_region 1 with fail
  generalize (w.alloc (.cells #[.int .i64 n, .slice (some ⟨b.bW, 0, none⟩) (NW) b.cW, .slice (some ⟨b.bA, 0, none⟩) n b.cA, .slice (some ⟨b.bO, 0, none⟩) n b.cO] 27)).alloc
    (.cells #[.int .i64 0, .slice none 0 0, .slice none 0 0, .slice none 0 0] 27) = wx at HC ⊢
  have cL := HC.out.line p hp
  rw [Hl.out] at cL
  have d0 := HC.out.c0
  have d1 := HC.out.c1
  have d2 := HC.out.c2
  have d3 := HC.out.c3
  have r0 := HC.out.row p hp
  have r1 := HC.out.num p 0 hp (by omega)
  have r2 := HC.out.num p 1 hp (by omega)
  have r3 := HC.out.word (2 * K) (by omega)
  go_wp2_with fail
  refine (place_at HK.out hr0 hc0 hrc).mono ?_
  rintro e wp ⟨rfl, rfl⟩
  go_wp2_with fail
  refine (own_any rfl (i := 0) rfl ⟨b, rfl, HC.out.mach⟩ HC.out.new (by omega) (by omega) (by omega) hp (by omega)).mono ?_
  rintro e w1 ⟨v1, rfl, h1, hbel⟩
  replace HC := Lib.hid (HC.out.below hbel)
  clear hbel
  go_wp2_with fail
  refine (to_any (p := p) rfl h1 HC.out.new (by omega) (by omega) hp).mono ?_
  rintro e w2 ⟨_, rfl, ⟨b', rfl, hm'⟩, hbel⟩
  replace HC := Lib.hid (HC.out.below hbel)
  have q0 := HC.out.o0
  have q1 := HC.out.o1
  have q2 := HC.out.o2
  have q3 := HC.out.o3
  have f2 := HC.out.f 0
  have f3 := HC.out.f 1
  have f4 := HC.out.f 2
  have f5 := HC.out.f 3
  unfold MB.val
  clear hbel
  go_wp2_with fail
  exact HC.out.ret hm' rfl rfl rfl

set_option maxHeartbeats 4000000 in
set_option maxRecDepth 100000 in
theorem l40 {w : World} {A : Nat → Prop} {n p NW : Nat} {v : Value} {m : MS} (h : MRep w A n (NW) 2 v m) (hn1 : 1 ≤ NW) (hA : ∀ k, w.heap.size ≤ k → A k) (hp : p < n) (hn : n ≤ 4) (hl : m.at_ p = 4) {K : Nat} (hK : Split.pl (m.ow p 0) (m.ow p 1) = K) (hK2 : 2 * K + 1 < NW) (hNW : NW ≤ 1000) (hr0 : 0 ≤ m.ow p 0) (hc0 : 0 ≤ m.ow p 1) (hrc : m.ow p 0 + m.ow p 1 ≤ 3) (hx : m.wd (2 * K) = (p : Int) + 1) :
    Calls Tryd.prog 46 #[v, .int .i64 p] w (Next A n (NW) 2 (to1 m p (5)) w) := by
  obtain ⟨b, rfl, h⟩ := h
  have HC := Lib.hid ((boxed w n (NW) b).cx h hA (by omega) (by omega))
  have hpn : (p : Int) < n := by omega
  have hn0 : (1 : Int) ≤ n := by omega
  have Hl := Lib.hid hl
  have HK := Lib.hid hK
  clear hK
  have t0 : (m.wd (2 * K) != (p : Int) + 1) = false := by first | (simp; done) | (simp; omega) | omega
  clear hx
  clear h hA hl
  unfold MB.val
  go_enter Tryd.func46, Tryd.ntmps46
  go_upto_region 1 with fail
  generalize (w.alloc (.cells #[.int .i64 n, .slice (some ⟨b.bW, 0, none⟩) (NW) b.cW, .slice (some ⟨b.bA, 0, none⟩) n b.cA, .slice (some ⟨b.bO, 0, none⟩) n b.cO] 27)).alloc
    (.cells #[.int .i64 0, .slice none 0 0, .slice none 0 0, .slice none 0 0] 27) = wx at HC ⊢
  have cL := HC.out.line p hp
  rw [Hl.out] at cL
  have d0 := HC.out.c0
  have d1 := HC.out.c1
  have d2 := HC.out.c2
  have d3 := HC.out.c3
  have r0 := HC.out.row p hp
  have r1 := HC.out.num p 0 hp (by omega)
  have r2 := HC.out.num p 1 hp (by omega)
  have r3 := HC.out.word (2 * K) (by omega)
  go_wp2_with fail
  refine (place_at HK.out hr0 hc0 hrc).mono ?_
  rintro e wp ⟨rfl, rfl⟩
  go_wp2_with fail
  refine (to_any (p := p) rfl ⟨b, rfl, HC.out.mach⟩ HC.out.new (by omega) (by omega) hp).mono ?_
  rintro e w1 ⟨_, rfl, ⟨b', rfl, hm'⟩, hbel⟩
  replace HC := Lib.hid (HC.out.below hbel)
  have q0 := HC.out.o0
  have q1 := HC.out.o1
  have q2 := HC.out.o2
  have q3 := HC.out.o3
  have f2 := HC.out.f 0
  have f3 := HC.out.f 1
  have f4 := HC.out.f 2
  have f5 := HC.out.f 3
  unfold MB.val
  clear hbel
  go_wp2_with fail
  exact HC.out.ret hm' rfl rfl rfl

set_option maxHeartbeats 4000000 in
set_option maxRecDepth 100000 in
theorem l5 {w : World} {A : Nat → Prop} {n p NW : Nat} {v : Value} {m : MS} (h : MRep w A n (NW) 2 v m) (hn1 : 1 ≤ NW) (hA : ∀ k, w.heap.size ≤ k → A k) (hp : p < n) (hn : n ≤ 4) (hl : m.at_ p = 5) {K : Nat} (hK : Split.pl (m.ow p 0) (m.ow p 1) = K) (hK2 : 2 * K + 1 < NW) (hNW : NW ≤ 1000) (hr0 : 0 ≤ m.ow p 0) (hc0 : 0 ≤ m.ow p 1) (hrc : m.ow p 0 + m.ow p 1 ≤ 3)  :
    Calls Tryd.prog 46 #[v, .int .i64 p] w (Next A n (NW) 2 m w) := by
  obtain ⟨b, rfl, h⟩ := h
  have HC := Lib.hid ((boxed w n (NW) b).cx h hA (by omega) (by omega))
  have hpn : (p : Int) < n := by omega
  have hn0 : (1 : Int) ≤ n := by omega
  have Hl := Lib.hid hl
  have HK := Lib.hid hK
  clear hK
  clear h hA hl
  unfold MB.val
  go_enter Tryd.func46, Tryd.ntmps46
  go_upto_region 1 with fail
  generalize (w.alloc (.cells #[.int .i64 n, .slice (some ⟨b.bW, 0, none⟩) (NW) b.cW, .slice (some ⟨b.bA, 0, none⟩) n b.cA, .slice (some ⟨b.bO, 0, none⟩) n b.cO] 27)).alloc
    (.cells #[.int .i64 0, .slice none 0 0, .slice none 0 0, .slice none 0 0] 27) = wx at HC ⊢
  have cL := HC.out.line p hp
  rw [Hl.out] at cL
  have d0 := HC.out.c0
  have d1 := HC.out.c1
  have d2 := HC.out.c2
  have d3 := HC.out.c3
  have r0 := HC.out.row p hp
  have r1 := HC.out.num p 0 hp (by omega)
  have r2 := HC.out.num p 1 hp (by omega)
  go_wp2_with fail
  refine (place_at HK.out hr0 hc0 hrc).mono ?_
  rintro e wp ⟨rfl, rfl⟩
  have q0 := HC.out.o0
  have q1 := HC.out.o1
  have q2 := HC.out.o2
  have q3 := HC.out.o3
  have f2 := HC.out.f 0
  have f3 := HC.out.f 1
  have f4 := HC.out.f 2
  have f5 := HC.out.f 3
  go_wp2_with fail
  exact HC.out.ret HC.out.mach rfl rfl rfl
end Go.Proofs.YtgkfgijmccojjaaDoor.MSplit
