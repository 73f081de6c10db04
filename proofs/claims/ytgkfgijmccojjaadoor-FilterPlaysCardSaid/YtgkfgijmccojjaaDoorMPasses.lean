import Derived.Test.YtgkfgijmccojjaaDoorMach
namespace Go.Proofs.YtgkfgijmccojjaaDoor
open Go.RowKit
set_option linter.unusedVariables false

def passes1 (n : Nat) (m : MS) (p : Nat) : MS := to1 (own1 (own1 m p 0 (m.ow p 0 + 1)) p 1 0) p (if (n : Int) ≤ m.ow p 0 + 1 then 5 else 1)

set_option maxHeartbeats 4000000 in
set_option maxRecDepth 100000 in
theorem passes_hi {w : World} {A : Nat → Prop} {n nw p j : Nat} {v : Value} {m : MS} {I : Int} (hI : I = (p : Int)) (h : MRep w A n nw 2 v m) (hA : ∀ k, w.heap.size ≤ k → A k) (h1 : 1 ≤ nw) (hn0 : 1 ≤ n) (hn : n ≤ 4) (hp : p < n) (hj : m.ow p 0 = (j : Int)) (hjn : j ≤ 4) (hge : (n : Int) ≤ (j : Int) + 1) :
    Calls Tryd.prog 85 #[v, .int .i64 I] w (Next A n nw 2 (to1 (own1 (own1 m p 0 ((j : Int) + 1)) p 1 0) p 5) w) := by
  subst hI
  obtain ⟨b, rfl, h⟩ := h
  have HC := Lib.hid ((boxed w n nw b).cx h hA (by omega) (by omega))
  have hpn : (p : Int) < n := by omega
  have Hj := Lib.hid hj
  have t0 : decide ((n : Int) ≤ (j : Int) + 1) = true := by simpa using hge
  have t1 : decide (n ≤ j + 1) = true := by simp; omega
  clear h hA hj hge
  unfold MB.val
  go_enter Tryd.func85, Tryd.ntmps85
  go_upto_region 1 with fail
  generalize (w.alloc (.cells #[.int .i64 n, .slice (some ⟨b.bW, 0, none⟩) nw b.cW, .slice (some ⟨b.bA, 0, none⟩) n b.cA, .slice (some ⟨b.bO, 0, none⟩) n b.cO] 27)).alloc
    (.cells #[.int .i64 0, .slice none 0 0, .slice none 0 0, .slice none 0 0] 27) = wx at HC ⊢
  have d0 := HC.out.c0
  have d1 := HC.out.c1
  have d2 := HC.out.c2
  have d3 := HC.out.c3
  have r0 := HC.out.row p hp
  have r1 := HC.out.num p 0 hp (by omega)
  rw [Hj.out] at r1
  go_wp2_with fail
  refine (own_any rfl (i := 0) rfl ⟨b, rfl, HC.out.mach⟩ HC.out.new (by omega) (by omega) (by omega) hp (by omega)).mono ?_
  rintro e w1 ⟨v1, rfl, h1', hbel⟩
  replace HC := Lib.hid (HC.out.below hbel)
  clear hbel
  go_wp2_with fail
  refine (own_any rfl (i := 1) rfl h1' HC.out.new (by omega) (by omega) (by omega) hp (by omega)).mono ?_
  rintro e w2 ⟨_, rfl, ⟨b1, rfl, hm1⟩, hbel⟩
  replace HC := Lib.hid (HC.out.below hbel)
  have d0 := HC.out.c0
  have d1 := HC.out.c1
  have d2 := HC.out.c2
  have d3 := HC.out.c3
  have f0 := HC.out.fb 0
  have f1 := HC.out.fb 1
  have f2 := HC.out.fb 2
  have f3 := HC.out.fb 3
  unfold MB.val
  clear hbel
  go_wp2_with fail
  replace HC := Lib.hid (HC.out.rebox hm1)
  refine (to_any (p := p) rfl ⟨b1, rfl, HC.out.mach⟩ HC.out.new (by omega) (by omega) hp).mono ?_
  rintro e w3 ⟨_, rfl, ⟨b', rfl, hm'⟩, hbel⟩
  replace HC := Lib.hid (HC.out.below hbel)
  have q0 := HC.out.o0
  have q1 := HC.out.o1
  have q2 := HC.out.o2
  have q3 := HC.out.o3
  have f2 := HC.out.f 0
  have f3 := HC.out.f 1
  have f4 := HC.out.f 2
  have f5 := HC.out.f 3
  unfold MB.val
  clear hbel
  go_wp2_with fail
  exact HC.out.ret hm' rfl rfl rfl

set_option maxHeartbeats 4000000 in
set_option maxRecDepth 100000 in
theorem passes_lo {w : World} {A : Nat → Prop} {n nw p j : Nat} {v : Value} {m : MS} {I : Int} (hI : I = (p : Int)) (h : MRep w A n nw 2 v m) (hA : ∀ k, w.heap.size ≤ k → A k) (h1 : 1 ≤ nw) (hn0 : 1 ≤ n) (hn : n ≤ 4) (hp : p < n) (hj : m.ow p 0 = (j : Int)) (hjn : j ≤ 4) (hge : ¬ (n : Int) ≤ (j : Int) + 1) :
    Calls Tryd.prog 85 #[v, .int .i64 I] w (Next A n nw 2 (to1 (own1 (own1 m p 0 ((j : Int) + 1)) p 1 0) p 1) w) := by
  subst hI
  obtain ⟨b, rfl, h⟩ := h
  have HC := Lib.hid ((boxed w n nw b).cx h hA (by omega) (by omega))
  have hpn : (p : Int) < n := by omega
  have Hj := Lib.hid hj
  have t0 : decide ((n : Int) ≤ (j : Int) + 1) = false := by simpa using hge
  have t1 : decide (n ≤ j + 1) = false := by simp; omega
  clear h hA hj hge
  unfold MB.val
  go_enter Tryd.func85, Tryd.ntmps85
  go_upto_region 1 with fail
  generalize (w.alloc (.cells #[.int .i64 n, .slice (some ⟨b.bW, 0, none⟩) nw b.cW, .slice (some ⟨b.bA, 0, none⟩) n b.cA, .slice (some ⟨b.bO, 0, none⟩) n b.cO] 27)).alloc
    (.cells #[.int .i64 0, .slice none 0 0, .slice none 0 0, .slice none 0 0] 27) = wx at HC ⊢
  have d0 := HC.out.c0
  have d1 := HC.out.c1
  have d2 := HC.out.c2
  have d3 := HC.out.c3
  have r0 := HC.out.row p hp
  have r1 := HC.out.num p 0 hp (by omega)
  rw [Hj.out] at r1
  go_wp2_with fail
  refine (own_any rfl (i := 0) rfl ⟨b, rfl, HC.out.mach⟩ HC.out.new (by omega) (by omega) (by omega) hp (by omega)).mono ?_
  rintro e w1 ⟨v1, rfl, h1', hbel⟩
  replace HC := Lib.hid (HC.out.below hbel)
  clear hbel
  go_wp2_with fail
  refine (own_any rfl (i := 1) rfl h1' HC.out.new (by omega) (by omega) (by omega) hp (by omega)).mono ?_
  rintro e w2 ⟨_, rfl, ⟨b1, rfl, hm1⟩, hbel⟩
  replace HC := Lib.hid (HC.out.below hbel)
  have d0 := HC.out.c0
  have d1 := HC.out.c1
  have d2 := HC.out.c2
  have d3 := HC.out.c3
  have f0 := HC.out.fb 0
  have f1 := HC.out.fb 1
  have f2 := HC.out.fb 2
  have f3 := HC.out.fb 3
  unfold MB.val
  clear hbel
  go_wp2_with fail
  replace HC := Lib.hid (HC.out.rebox hm1)
  refine (to_any (p := p) rfl ⟨b1, rfl, HC.out.mach⟩ HC.out.new (by omega) (by omega) hp).mono ?_
  rintro e w3 ⟨_, rfl, ⟨b', rfl, hm'⟩, hbel⟩
  replace HC := Lib.hid (HC.out.below hbel)
  have q0 := HC.out.o0
  have q1 := HC.out.o1
  have q2 := HC.out.o2
  have q3 := HC.out.o3
  have f2 := HC.out.f 0
  have f3 := HC.out.f 1
  have f4 := HC.out.f 2
  have f5 := HC.out.f 3
  unfold MB.val
  clear hbel
  go_wp2_with fail
  exact HC.out.ret hm' rfl rfl rfl

theorem passes_any {w : World} {A : Nat → Prop} {n nw p j : Nat} {v : Value} {m : MS} {I : Int} (hI : I = (p : Int)) (h : MRep w A n nw 2 v m) (hA : ∀ k, w.heap.size ≤ k → A k) (h1 : 1 ≤ nw) (hn0 : 1 ≤ n) (hn : n ≤ 4) (hp : p < n) (hj : m.ow p 0 = (j : Int)) (hjn : j ≤ 4) :
    Calls Tryd.prog 85 #[v, .int .i64 I] w (Next A n nw 2 (passes1 n m p) w) := by
  unfold passes1
  rw [hj]
  by_cases hge : (n : Int) ≤ (j : Int) + 1
  · rw [if_pos hge]; exact passes_hi hI h hA h1 hn0 hn hp hj hjn hge
  · rw [if_neg hge]; exact passes_lo hI h hA h1 hn0 hn hp hj hjn hge
end Go.Proofs.YtgkfgijmccojjaaDoor
