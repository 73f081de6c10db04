import Derived.Test.YtaodmfmpdcamkaaTopCount0
import Derived.Test.YtaodmfmpdcamkaaTopCount1
import Derived.Test.YtaodmfmpdcamkaaTopCount2
import Derived.Test.YtaodmfmpdcamkaaTopCount3
namespace Go.Proofs.Ytaodmfmpdcamkaa.Count
open Go.RowKit
set_option linter.unusedVariables false

set_option maxHeartbeats 4000000 in
set_option maxRecDepth 100000 in
/-- At another kind. -/
theorem other_walk (kd : Int) (hk : kd < 0 ∨ 3 < kd) (n : Nat) (hn1 : 1 ≤ n) (hn4 : n ≤ 4) (v : Value) (w : World) :
    Calls Try.prog 3 #[.int .i64 kd, .int .i64 n, v] w fun e w' => e = .returned (.bool true) ∧ Below w.heap.size w w' := by
  have HK := Lib.hid hk
  clear hk
  go_enter Try.func3, Try.ntmps3
  go_wp2_with fail
  refine (Ticket.new_any 1 (by omega) (by omega) _).mono ?_
  rintro e u1 ⟨LT, fbT, rfl, hT, hbT, hfT⟩
  go_wp2_with fail
  refine (Ticket.step_of (n := 1) (fb := fbT) (p := 0) (r := .nilIface) (s' := Ticket.step 1 (Ticket.first 1) 0) hT (Ticket.Reach.first 1 (by omega) (by omega)) (by omega) rfl rfl).mono ?_
  rintro e u2 ⟨rfl, hT2, hoT⟩
  have hbT2 := hbT.trans (hoT.below (fun k hk => (hfT k hk).1))
  clear hT hbT hfT hoT
  go_wp2_with fail
  refine (Ticket.at_of (hn := by omega) (p := 0) (k := 2) hT2 rfl).mono ?_
  rintro e u3 ⟨rfl, rfl⟩
  clear hT2
  go_wp2_with fail
  refine (Bakery.new_any n hn1 hn4 _).mono ?_
  rintro e v0 ⟨L0, fb0, rfl, h0, b0, f0⟩
  go_wp2_with fail
  refine (Mcs.new_any n hn1 hn4 _).mono ?_
  rintro e v1 ⟨L1, fb1, rfl, h1, b1, f1⟩
  go_wp2_with fail
  refine (Clh.new_any n hn1 hn4 _).mono ?_
  rintro e v2 ⟨L2, fb2, rfl, h2, b2, f2⟩
  go_wp2_with fail
  refine (Filter.new_any n hn1 hn4 _).mono ?_
  rintro e v3 ⟨L3, fb3, rfl, h3, b3, f3⟩
  have z0 := hbT2.size
  have z1 := b0.size
  have z2 := b1.size
  have z3 := b2.size
  have hbel : Below w.heap.size w v3 := (((hbT2.trans (b0.mono z0)).trans (b1.mono (by omega))).trans (b2.mono (by omega))).trans (b3.mono (by omega))
  clear h0 h1 h2 h3 b0 b1 b2 b3 f0 f1 f2 f3 z0 z1 z2 z3 hbT2
  go_wp2_with fail
  refine (inT_no (by have := HK.out; omega)).mono ?_
  rintro e v4 ⟨rfl, rfl⟩
  go_wp2_with fail
  go_ret
  exact ⟨rfl, hbel⟩

set_option maxHeartbeats 4000000 in
set_option maxRecDepth 100000 in
theorem bad (kd n : Int) (h : n < 1 ∨ 4 < n) (v : Value) (w : World) :
    Calls Try.prog 3 #[.int .i64 kd, .int .i64 n, v] w fun e w' => e = .returned (.bool true) ∧ Below w.heap.size w w' := by
  have HN := Lib.hid h
  have hd : n < 1 ∨ (1 ≤ n ∧ 4 < n) := by omega
  clear h
  go_enter Try.func3, Try.ntmps3
  go_wp2_with fail
  refine (Ticket.new_any 1 (by omega) (by omega) _).mono ?_
  rintro e u1 ⟨LT, fbT, rfl, hT, hbT, hfT⟩
  go_wp2_with fail
  refine (Ticket.step_of (n := 1) (fb := fbT) (p := 0) (r := .nilIface) (s' := Ticket.step 1 (Ticket.first 1) 0) hT (Ticket.Reach.first 1 (by omega) (by omega)) (by omega) rfl rfl).mono ?_
  rintro e u2 ⟨rfl, hT2, hoT⟩
  have hbT2 := hbT.trans (hoT.below (fun k hk => (hfT k hk).1))
  clear hT hbT hfT hoT
  go_wp2_with fail
  refine (Ticket.at_of (hn := by omega) (p := 0) (k := 2) hT2 rfl).mono ?_
  rintro e u3 ⟨rfl, rfl⟩
  clear hT2
  go_wp2_with fail
  refine (Bakery.new_no n HN.out _).mono ?_
  rintro e v0 ⟨rfl, rfl⟩
  go_wp2_with fail
  refine (Mcs.new_no n HN.out _).mono ?_
  rintro e v1 ⟨rfl, rfl⟩
  go_wp2_with fail
  refine (Clh.new_no n HN.out _).mono ?_
  rintro e v2 ⟨rfl, rfl⟩
  go_wp2_with fail
  refine (Filter.new_no n HN.out _).mono ?_
  rintro e v3 ⟨rfl, rfl⟩
  rcases hd with hd | ⟨hd, hd2⟩
  · clear HN
    go_wp2_with fail
    go_ret
    exact ⟨rfl, hbT2⟩
  · clear HN
    go_wp2_with fail
    go_ret
    exact ⟨rfl, hbT2⟩

theorem count_any (kd n : Int) (a0 : Option Addr) (len0 cap0 : Nat) (z0 : List Int) (w : World) (w0 : IsRow .i64 w a0 len0 cap0 z0) :
    Calls Try.prog 3 #[.int .i64 kd, .int .i64 n, .slice a0 len0 cap0] w fun e w' => e = .returned (.bool true) ∧ Below w.heap.size w w' := by
  by_cases h : 1 ≤ n ∧ n ≤ 4
  · obtain ⟨m, rfl⟩ := Int.eq_ofNat_of_zero_le (show 0 ≤ n by omega)
    by_cases hk : kd < 0 ∨ 3 < kd
    · exact other_walk kd hk m (by omega) (by omega) _ w
    · obtain rfl | rfl | rfl | rfl : kd = 0 ∨ kd = 1 ∨ kd = 2 ∨ kd = 3 := by omega
      · exact Count0.walk m (by omega) (by omega) a0 len0 cap0 z0 w w0
      · exact Count1.walk m (by omega) (by omega) a0 len0 cap0 z0 w w0
      · exact Count2.walk m (by omega) (by omega) a0 len0 cap0 z0 w w0
      · exact Count3.walk m (by omega) (by omega) a0 len0 cap0 z0 w w0
  · exact bad kd n (by omega) _ w
end Go.Proofs.Ytaodmfmpdcamkaa.Count
