import Derived.Test.YtimbdjmplcgilaaScRaces
import Derived.Test.YtimbdjmplcgilaaScFactP
import Derived.Test.YtimbdjmplcgilaaSame
namespace Go.Proofs.Ytimbdjmplcgilaa.Sc
open Go.RowKit Pr SortFn
set_option linter.unusedVariables false

theorem nums_new (w : World) (z : List Int) (T : TypeId) (hz : z.length ≤ maxLen) : Nums (w.alloc (.cells (ints z).toArray T)) (.slice (some ⟨w.heap.size, 0, none⟩) z.length z.length) z := by
  have hN := Blk.new w (ints z).toArray T
  refine ⟨_, _, rfl, hz, fun k hk => ⟨w.heap.size, 0, rfl, ⟨hN.lt, Nat.le_refl _⟩, ?_⟩⟩
  rw [hN.cell]; simp [ints, List.getD_eq_getElem?_getD, hk]
set_option maxHeartbeats 2000000 in
set_option maxRecDepth 100000 in
theorem both_any {w : World} : Calls Try.prog 23 #[] w fun e w' => ∃ a cap, e = .returned (.slice a 6 cap) ∧ Nums w' (.slice a 6 cap) [1, 0, 1, 0, 1, 1] ∧ Below w.heap.size w w' := by
  have HN := Lib.hid (nums_new w [1, 0, 1, 0, 1, 1] 3 (by simp [maxLen]))
  have HB : Hid (Below w.heap.size w (w.alloc (.cells (ints [1, 0, 1, 0, 1, 1]).toArray 3))) := (Below.refl _ _).alloc (Nat.le_refl _) _
  go_enter Try.func23, Try.ntmps23
  go_wp2_with fail
  go_ret
  exact ⟨_, _, rfl, HN.out, HB.out⟩

set_option maxHeartbeats 4000000 in
set_option maxRecDepth 100000 in
theorem scFact_any {w : World} : Calls Try.prog 12 #[] w fun e w' => e = .returned (.bool true) ∧ Below w.heap.size w w' := by
  go_enter Try.func12, Try.ntmps12
  go_wp2_with fail
  refine dekker_any.mono ?_
  rintro e w1 ⟨u, rfl, hp, hb⟩
  have HP := Lib.hid hp
  have HB := Lib.hid hb
  clear hp hb
  go_wp2_with fail
  refine (results_any HP.out).mono ?_
  rintro e w2 ⟨hT, hb2⟩
  cases hT with
  | err h => exact absurd dk_check h
  | @ok v R h hM hR hl =>
    have hR' := dk_res hR
    subst hR'
    have HM := Lib.hid hM
    replace HB := Lib.hid (HB.out.trans (hb2.mono HB.out.size))
    clear h hM hR hl hb2 HP
    go_wp2_with fail
    refine dekker_any.mono ?_
    rintro e w3 ⟨u, rfl, hp, hb⟩
    have HP := Lib.hid hp
    replace HM := Lib.hid (HM.out.below hb)
    replace HB := Lib.hid (HB.out.trans (hb.mono HB.out.size))
    clear hp hb
    go_wp2_with fail
    refine (races_any HP.out).mono ?_
    rintro e w4 ⟨hT, hb⟩
    cases hT with
    | err h => exact absurd dk_check h
    | no h hn => exact absurd dk_races hn
    | yes h hy =>
      replace HM := Lib.hid (HM.out.below hb)
      replace HB := Lib.hid (HB.out.trans (hb.mono HB.out.size))
      clear h hy hb HP
      obtain ⟨a, cap, rfl, -⟩ := HM.out
      go_wp2_with fail
      refine both_any.mono ?_
      rintro e w5 ⟨a2, cap2, rfl, hn, hb⟩
      replace HM := Lib.hid (HM.out.below hb)
      replace HB := Lib.hid (HB.out.trans (hb.mono HB.out.size))
      have HN := Lib.hid hn
      clear hn hb
      go_wp2_with fail
      refine (has_any HM.out HN.out).mono ?_
      rintro e w6 ⟨rfl, m, rfl⟩
      have ed : decide ([1, 0, 1, 0, 1, 1] ∈ [[1, 0, 1, 1, 1, 1], [1, 1, 1, 0, 1, 1], [(1 : Int), 1, 1, 1, 1, 1]]) = false := by decide
      rw [ed]
      go_wp2_with fail
      go_ret
      exact ⟨rfl, Below.todrewN HB.out m⟩
theorem run_inl {words : Int} {p : List (List Ln)} {z : List Int} {c : Int} (h : run words p z = .inl c) : c ≠ 0 := by
  unfold run at h
  split at h
  · rename_i hc; cases h; exact hc
  · split at h
    · cases h; decide
    · split at h
      · cases h; decide
      · cases h
theorem below_q {w : World} {q n : Nat} {v1 v2 : Value} {a b : List Int} (h1 : Nums w v1 a) (h2 : Nums w v2 b) {r : Bool} (hr : belowL a b = r) :
    Calls Try.prog 18 #[v1, v2] (w.drewN (q + n)) fun e w'' => e = .returned (.bool r) ∧ ∃ m, w'' = w.drewN (q + m) := by
  subst hr
  refine (below_any (w := w.drewN (q + n)) h1 h2).mono ?_
  rintro e w'' ⟨rfl, m, rfl⟩
  exact ⟨rfl, n + m, by rw [World.drewN_drewN, Nat.add_assoc]⟩

set_option maxHeartbeats 4000000 in
set_option maxRecDepth 100000 in
theorem law_has {w : World} {words : Int} {u v : Value} {p : List (List Ln)} {z : List Int} (hp : IsProg w u p) (hz : Nums w v z) :
    Calls Try.prog 6 #[.agg #[.int .i64 words, u], v] w fun e w' => e = .returned (.bool true) ∧ Below w.heap.size w w' := by
  have HP := Lib.hid hp
  have HZ := Lib.hid hz
  have HC := Lib.hid (cbox w words u)
  obtain ⟨a, cap, rfl, hl, -⟩ := hp
  obtain ⟨az, capz, rfl, hlz, -⟩ := hz
  unfold maxLen at hl hlz
  go_enter Try.func6, Try.ntmps6
  go_upto_region 1 with fail
  generalize w.alloc (.cells #[.int .i64 words, .slice a p.length cap] 26) = wx at HC ⊢
  go_wp2_with fail
  refine scFact_any.mono ?_
  rintro e w1 ⟨rfl, hb1⟩
  replace HC := Lib.hid (HC.out.below hb1)
  clear hb1
  have b0 : w1.cell? ⟨w.heap.size, 0, none⟩ = some (.int .i64 words) := HC.out.box.cell 0
  have b1 : w1.cell? ⟨w.heap.size, 1, none⟩ = some (.slice a p.length cap) := HC.out.box.cell 1
  go_wp2_with fail
  refine (results_any (HP.out.below HC.out.bel)).mono ?_
  rintro e w2 ⟨hT, hb2⟩
  replace HC := Lib.hid (HC.out.below hb2)
  clear b0 b1 hb2
  cases hT with
  | err h =>
    clear h
    go_wp2_with fail
    go_ret
    exact ⟨rfl, HC.out.bel⟩
  | @ok x R hck hM hR hlen =>
    have HCK := Lib.hid hck
    have HM := Lib.hid hM
    have HR := Lib.hid hR
    obtain ⟨ar, capr, rfl, -, -⟩ := hM
    clear hck hR
    go_wp2_with fail
    go_loopg [8] (R.length + 1) (fun g i wr => ∃ k q : Nat, 1 ≤ k ∧ R.length + 1 - k ≤ g ∧ k ≤ R.length + 1 ∧ i = .int .i64 k ∧ wr = w2.drewN q)
    case atStart => exact ⟨1, 0, by omega, by omega, by omega, rfl, rfl⟩
    case round =>
      obtain ⟨k, q, h1, hg, hle, rfl, rfl⟩ := hrel
      have HG := Lib.hid hg
      clear hg
      by_cases hkn : k < R.length
      · have hkI : (k : Int) < R.length := by omega
        obtain ⟨a1, cap1, e1, -, hx1⟩ := HM.out
        obtain ⟨b1, o1, y1, rfl, -, c1, hy1⟩ := hx1 k hkn
        cases e1
        obtain ⟨b0, o0, y0, e0, -, c0, hy0⟩ := hx1 (k - 1) (by omega)
        cases e0
        clear hx1
        have HY1 := Lib.hid hy1
        have HY0 := Lib.hid hy0
        have HBL : Hid (belowL (R.getD (k - 1) []) (R.getD k []) = true) := by
          have := HR.out.below (i := k - 1) (by omega)
          show _ = _
          rw [show k - 1 + 1 = k by omega] at this
          exact this
        have k0 : 1 ≤ (k : Int) := by omega
        have k1 : (k : Int) - 1 = ((k - 1 : Nat) : Int) := by omega
        have k2 : IntKind.i64.wrap ((k - 1 : Nat) : Int) = ((k - 1 : Nat) : Int) := IntWalk.i64_in _ (by omega)
        have k3 : ((k - 1 : Nat) : Int) < R.length := by omega
        clear hy1 hy0
        go_wp2_with fail
        go_quiet ((go_at_call 18; exact below_q HY0.out HY1.out HBL.out))
        go_wp2_with fail
        go_roundg (R.length + 1 - (k + 1))
        case measure => have := HG.out; omega
        case rel => exact ⟨k + 1, q + nq, by omega, by omega, by omega, by go_num, by first | rfl | exact World.drewN_drewN _ _ _⟩
      · have hkI : decide ((k : Int) < R.length) = false := by simp; omega
        have b0 : (w2.drewN q).cell? ⟨w.heap.size, 0, none⟩ = some (.int .i64 words) := HC.out.box.cell 0
        have b1 : (w2.drewN q).cell? ⟨w.heap.size, 1, none⟩ = some (.slice a p.length cap) := HC.out.box.cell 1
        have HBD : Hid (Below w.heap.size w (w2.drewN q)) := Below.todrewN HC.out.bel q
        have HMD : Hid (Mat (w2.drewN q) (.slice ar R.length capr) R) := HM.out
        clear HM HC
        generalize w2.drewN q = w3 at b0 b1 HBD HMD ⊢
        go_wp2_with fail
        refine (run_any (HP.out.below HBD.out) (HZ.out.below HBD.out)).mono ?_
        rintro e w4 ⟨hb4, hr⟩
        have HB4 := Lib.hid (HBD.out.trans (hb4.mono HBD.out.size))
        have HM4 := Lib.hid (HMD.out.below hb4)
        clear b0 b1 hb4
        cases hrun : run words p z with
        | inl c =>
          rw [hrun] at hr
          simp only at hr
          subst hr
          have hc0 := run_inl hrun
          have ev : errVal c = .iface 81 (.int .i64 c) := by simp [errVal, hc0]
          rw [ev]
          clear ev hc0 hrun
          go_wp2_with fail
          go_ret
          exact ⟨rfl, HB4.out⟩
        | inr A =>
          rw [hrun] at hr
          simp only at hr
          obtain ⟨x, rfl, hg⟩ := hr
          have hen := run_ends hrun
          have hal : A.length ≤ maxLen := by
            have := ends_len hen
            have hf := fine_of HCK.out
            have h3 := hf.n
            have h4 := hf.w
            unfold maxLen
            omega
          have HN := Lib.hid (hg.nums hal)
          have HD : Hid (decide (A ∈ R) = true) := by show _ = _; simpa using (HR.out.mem A).2 hen
          obtain ⟨aa, ca, rfl, -⟩ := HN.out
          clear hg hen hal hrun
          go_wp2_with fail
          refine (has_any HM4.out HN.out).mono ?_
          rintro e w5 ⟨rfl, m, rfl⟩
          rw [HD.out]
          go_wp2_with fail
          go_ret
          exact ⟨rfl, Below.todrewN HB4.out m⟩
end Go.Proofs.Ytimbdjmplcgilaa.Sc
