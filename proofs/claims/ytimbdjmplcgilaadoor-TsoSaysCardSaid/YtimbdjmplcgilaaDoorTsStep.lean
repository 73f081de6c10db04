import Derived.Test.YtimbdjmplcgilaaDoorTsSeen
import Derived.Test.YtimbdjmplcgilaaDoorTsLine
import Derived.Test.YtimbdjmplcgilaaDoorPrCheck
import Derived.Deep.RegionWith
import Derived.BigRegion
namespace Go.Proofs.YtimbdjmplcgilaaDoor.Tso
open Go.RowKit Pr
set_option linter.unusedVariables false

theorem og_then {s : List Nat} {a wx w1 : World} (h : OnlyG s a wx) (k : Below wx.heap.size wx w1) : OnlyG s a w1 :=
  ⟨k.os.trans h.os, k.tape.trans h.tape, k.output.trans h.output, Nat.le_trans h.size_le k.size, fun b hb hs => (k.block b (Nat.lt_of_lt_of_le hb h.size_le)).trans (h.block b hb hs)⟩
theorem og_both {s : List Nat} {a wx w1 : World} (h : OnlyG s a wx) (k : OnlyG s wx w1) : OnlyG s a w1 :=
  ⟨k.os.trans h.os, k.tape.trans h.tape, k.output.trans h.output, Nat.le_trans h.size_le k.size_le, fun b hb hs => (k.block b (Nat.lt_of_lt_of_le hb h.size_le) hs).trans (h.block b hb hs)⟩
/-- The line that is next lies in a box of its own, the state as it was. -/
structure Ahead (w wx : World) (L c : Nat) (s : TS) (l : Ln) : Prop where
  og : OnlyG [L] w wx
  ne : c ≠ L
  box : Blk wx c #[.int .i64 l.k, .int .i64 l.r, .int .i64 l.w, .int .i64 l.v] 40
  st : TAt wx L s
theorem ahead_new {w wx w1 : World} {L : Nat} {s : TS} (og : OnlyG [L] w wx) (ht : TAt wx L s) (hb : Below wx.drew.heap.size wx.drew w1) (l : Ln) :
    Ahead w (w1.alloc (.cells #[.int .i64 l.k, .int .i64 l.r, .int .i64 l.w, .int .i64 l.v] 40)) L w1.heap.size s l := by
  have hlt := ht.lt
  have hsz : wx.heap.size ≤ w1.heap.size := hb.size
  have h1 : TAt w1 L s := ht.keep (hb.block _ hlt)
  exact ⟨(og_then og.drew hb).alloc _, by omega, Blk.new _ _ _, h1.keep (RowKit.Below.heap_alloc _ _ _ (by omega))⟩
theorem ahead_old {w wx w1 : World} {L : Nat} {s : TS} {T : TypeId} {z : Array Value} (og : OnlyG [L] w wx) (ht : TAt wx L s) (hb : Below (wx.alloc (.cells z T)).drew.heap.size (wx.alloc (.cells z T)).drew w1) {x0 x1 x2 x3 : Value} (hk : Blk w1 wx.heap.size #[x0, x1, x2, x3] 40) (l : Ln) :
    Ahead w ((((w1.setCell ⟨wx.heap.size, 0, none⟩ (.int .i64 l.k)).setCell ⟨wx.heap.size, 1, none⟩ (.int .i64 l.r)).setCell ⟨wx.heap.size, 2, none⟩ (.int .i64 l.w)).setCell ⟨wx.heap.size, 3, none⟩ (.int .i64 l.v)) L wx.heap.size s l := by
  have hlt := ht.lt
  have hne : wx.heap.size ≠ L := by omega
  have h0 : TAt (wx.alloc (.cells z T)) L s := ht.keep (RowKit.Below.heap_alloc _ _ _ hlt)
  have h1 : TAt w1 L s := h0.keep (hb.block _ (by have := h0.lt; exact this))
  have hge : w.heap.size ≤ wx.heap.size := og.size_le
  have ho := og_then (og.alloc (.cells z T)).drew hb
  exact ⟨(((ho.setNew hge _ _).setNew hge _ _).setNew hge _ _).setNew hge _ _, hne, out4 hk _ _ _ _, (((Row.other h1 _ (.inl hne)).other _ (.inl hne)).other _ (.inl hne)).other _ (.inl hne)⟩
theorem nextYes {w : World} {L h : Nat} {u : Value} {words : Int} {p : List (List Ln)} {f : St} (hp : IsProg w u p) (hs : StAt w L f) (hh : h < p.length) (h4 : h < 4) (h0 : 0 ≤ f h ∧ f h ≤ 10) (hmr : more p f h = true) {l : Ln} (hl : line p f h = l) :
    Calls Tryd.prog 27 #[.pointer (some ⟨L, 0, none⟩), .agg #[.int .i64 words, u], .int .i64 h] w fun e w' =>
      e = .returned (.tuple #[.agg #[.int .i64 l.k, .int .i64 l.r, .int .i64 l.w, .int .i64 l.v], .bool true]) ∧ Below w.heap.size w w' := by
  subst hl; exact next_yes hp hs hh h4 h0 hmr
theorem nextNo {w : World} {L h : Nat} {u : Value} {words : Int} {p : List (List Ln)} {f : St} (hp : IsProg w u p) (hs : StAt w L f) (hh : h < p.length) (h4 : h < 4) (h0 : 0 ≤ f h ∧ f h ≤ 10) (hmr : more p f h = false) :
    Calls Tryd.prog 27 #[.pointer (some ⟨L, 0, none⟩), .agg #[.int .i64 words, u], .int .i64 h] w fun e w' =>
      e = .returned (.tuple #[.agg #[.int .i64 0, .int .i64 0, .int .i64 0, .int .i64 0], .bool false]) ∧ Below w.heap.size w w' := next_no hp hs hh h4 h0 hmr
set_option maxHeartbeats 4000000 in
set_option maxRecDepth 100000 in
theorem step_no {w : World} {L h : Nat} {u : Value} {words : Int} {p : List (List Ln)} {s : TS} (hp : IsProg w u p) (hs : TAt w L s) (hh : h < p.length) (h4 : h < 4) (h0 : 0 ≤ (s.l h).at' ∧ (s.l h).at' ≤ 10) (hmr : mor p h (s.l h) = false) :
    Calls Tryd.prog 37 #[.pointer (some ⟨L, 0, none⟩), .agg #[.int .i64 words, u], .int .i64 h] w fun e w' =>
      e = .returned (.bool false) ∧ OnlyG [L] w w' := by
  have HP := Lib.hid hp
  have HS := Lib.hid hs
  have HLT := Lib.hid hs.lt
  have HC := Lib.hid (cbox w words u)
  obtain ⟨a, cap, rfl, hl, -⟩ := hp
  unfold maxLen at hl
  clear hs
  go_enter Tryd.func37, Tryd.ntmps37
  go_upto_region 1 with fail
  have HX : Hid (OnlyG [L] w (w.alloc (.cells #[.int .i64 words, .slice a p.length cap] 24))) := (OnlyG.refl _ _).alloc _
  generalize w.alloc (.cells #[.int .i64 words, .slice a p.length cap] 24) = wx at HC HX ⊢
  have b0 : wx.cell? ⟨w.heap.size, 0, none⟩ = some (.int .i64 words) := HC.out.box.cell 0
  have b1 : wx.cell? ⟨w.heap.size, 1, none⟩ = some (.slice a p.length cap) := HC.out.box.cell 1
  have HTX : Hid (TAt wx L s) := HS.out.keep (HC.out.bel.block _ HLT.out)
  have HSX : Hid (StAt wx L (enc s)) := HTX.out.st
  have HM : Hid (more p (enc s) h = false) := by show _ = _; rw [← mor_of p h (x := s.l h) (enc_at s h4).symm]; exact hmr
  have HAT : Hid (0 ≤ enc s h ∧ enc s h ≤ 10) := by show _ ∧ _; rw [enc_at s h4]; exact h0
  have HPX : Hid (IsProg wx (.slice a p.length cap) p) := HP.out.below HC.out.bel
  have HP1 : Hid (IsProg wx.drew (.slice a p.length cap) p) := HPX.out
  have HS1 : Hid (StAt wx.drew L (enc s)) := HSX.out
  have HZ : Hid (Blk (wx.alloc (.cells #[.int .i64 0, .int .i64 0, .int .i64 0, .int .i64 0] 40)).drew wx.heap.size #[.int .i64 0, .int .i64 0, .int .i64 0, .int .i64 0] 40) := (Blk.new wx #[.int .i64 0, .int .i64 0, .int .i64 0, .int .i64 0] 40).drew
  have HZL : Hid (wx.heap.size < (wx.alloc (.cells #[.int .i64 0, .int .i64 0, .int .i64 0, .int .i64 0] 40)).drew.heap.size) := HZ.out.lt
  have HB : Hid (Below wx.heap.size wx (wx.alloc (.cells #[.int .i64 0, .int .i64 0, .int .i64 0, .int .i64 0] 40))) := (Below.refl _ _).alloc (Nat.le_refl _) _
  have HLX : Hid (L < wx.heap.size) := Nat.lt_of_lt_of_le HLT.out HC.out.bel.size
  have HSX2 : Hid (StAt (wx.alloc (.cells #[.int .i64 0, .int .i64 0, .int .i64 0, .int .i64 0] 40)) L (enc s)) := (HTX.out.keep (HB.out.block _ HLX.out)).st
  have HP2 : Hid (IsProg (wx.alloc (.cells #[.int .i64 0, .int .i64 0, .int .i64 0, .int .i64 0] 40)).drew (.slice a p.length cap) p) := by
    have := (HP.out.below HC.out.bel).below HB.out
    exact this
  have HS2 : Hid (StAt (wx.alloc (.cells #[.int .i64 0, .int .i64 0, .int .i64 0, .int .i64 0] 40)).drew L (enc s)) := HSX2.out
  have q0 : (wx.alloc (.cells #[.int .i64 0, .int .i64 0, .int .i64 0, .int .i64 0] 40)).drew.cell? ⟨w.heap.size, 0, none⟩ = some (.int .i64 words) := (HC.out.alloc _).box.cell 0
  have q1 : (wx.alloc (.cells #[.int .i64 0, .int .i64 0, .int .i64 0, .int .i64 0] 40)).drew.cell? ⟨w.heap.size, 1, none⟩ = some (.slice a p.length cap) := (HC.out.alloc _).box.cell 1
  go_cut [7, 8] from 9 to 18 (fun s7 s8 wz => ∃ c, s7 = .pointer (some ⟨c, 0, none⟩) ∧ s8 = .bool false ∧ Ahead w wz L c s Ln.zero)
  case first =>
    go_region_with (go_at_call 27; first | (refine (nextNo HP1.out HS1.out hh h4 HAT.out HM.out).mono ?_; rintro e w1 ⟨rfl, hb⟩) | (refine (nextNo HP2.out HS2.out hh h4 HAT.out HM.out).mono ?_; rintro e w1 ⟨rfl, hb⟩; have hz := HZ.out.below hb HZL.out; have n0 := hz.cell 0; have n1 := hz.cell 1; have n2 := hz.cell 2; have n3 := hz.cell 3; have f0 := hz.free 0; have f1 := hz.free 1; have f2 := hz.free 2; have f3 := hz.free 3))
    · go_wp2_with fail
      go_meet
      exact ⟨_, rfl, rfl, ahead_new HX.out HTX.out hb Ln.zero⟩
    · go_wp2_with fail
      go_meet
      exact ⟨_, rfl, rfl, ahead_old HX.out HTX.out hb hz Ln.zero⟩
    · go_wp2_with fail
      go_meet
      exact ⟨_, rfl, rfl, ahead_old HX.out HTX.out hb hz Ln.zero⟩
  case rest =>
    obtain ⟨c, rfl, rfl, hA⟩ := hcut
    have HA := Lib.hid hA
    clear hA b0 b1 q0 q1 HP HS HLT HC HX HTX HSX HM HAT HPX HP1 HS1 HZ HZL HB HLX HSX2 HP2 HS2
    have c0 := HA.out.st.cell (show 56 + h < 60 by omega)
    have h4I : (h : Int) < 4 := by omega
    go_wp2_with fail
    go_ret
    exact ⟨rfl, HA.out.og⟩
set_option maxHeartbeats 4000000 in
set_option maxRecDepth 100000 in
theorem step_yes {w : World} {L h : Nat} {u : Value} {words : Int} {p : List (List Ln)} {s : TS} (hp : IsProg w u p) (hs : TAt w L s) (hh : h < p.length) (h4 : h < 4) (h0 : 0 ≤ (s.l h).at' ∧ (s.l h).at' ≤ 10) (hw : words ≤ 4) (hb5 : (s.l h).b.length ≤ 5) (hb4 : (nxt p h (s.l h)).k = 2 → (s.l h).b.length < 5) (hmr : mor p h (s.l h) = true) {l : Ln} (hlv : nxt p h (s.l h) = l) (hg : Pr.Good words l) :
    Calls Tryd.prog 37 #[.pointer (some ⟨L, 0, none⟩), .agg #[.int .i64 words, u], .int .i64 h] w fun e w' =>
      e = .returned (.bool (can p h (s.l h))) ∧ (can p h (s.l h) = true → TAt w' L (step p s h)) ∧ OnlyG [L] w w' := by
  have HP := Lib.hid hp
  have HS := Lib.hid hs
  have HLT := Lib.hid hs.lt
  have HC := Lib.hid (cbox w words u)
  obtain ⟨a, cap, rfl, hl, -⟩ := hp
  unfold maxLen at hl
  clear hs
  go_enter Tryd.func37, Tryd.ntmps37
  go_upto_region 1 with fail
  have HX : Hid (OnlyG [L] w (w.alloc (.cells #[.int .i64 words, .slice a p.length cap] 24))) := (OnlyG.refl _ _).alloc _
  generalize w.alloc (.cells #[.int .i64 words, .slice a p.length cap] 24) = wx at HC HX ⊢
  have b0 : wx.cell? ⟨w.heap.size, 0, none⟩ = some (.int .i64 words) := HC.out.box.cell 0
  have b1 : wx.cell? ⟨w.heap.size, 1, none⟩ = some (.slice a p.length cap) := HC.out.box.cell 1
  have HTX : Hid (TAt wx L s) := HS.out.keep (HC.out.bel.block _ HLT.out)
  have HSX : Hid (StAt wx L (enc s)) := HTX.out.st
  have HM : Hid (more p (enc s) h = true) := by show _ = _; rw [← mor_of p h (x := s.l h) (enc_at s h4).symm]; exact hmr
  have HLN : Hid (line p (enc s) h = l) := by show _ = _; rw [← nxt_of p h (x := s.l h) (enc_at s h4).symm]; exact hlv
  have HLV := Lib.hid hlv
  have HG := Lib.hid hg
  clear hlv hg
  have HAT : Hid (0 ≤ enc s h ∧ enc s h ≤ 10) := by show _ ∧ _; rw [enc_at s h4]; exact h0
  have HPX : Hid (IsProg wx (.slice a p.length cap) p) := HP.out.below HC.out.bel
  have HP1 : Hid (IsProg wx.drew (.slice a p.length cap) p) := HPX.out
  have HS1 : Hid (StAt wx.drew L (enc s)) := HSX.out
  have HZ : Hid (Blk (wx.alloc (.cells #[.int .i64 0, .int .i64 0, .int .i64 0, .int .i64 0] 40)).drew wx.heap.size #[.int .i64 0, .int .i64 0, .int .i64 0, .int .i64 0] 40) := (Blk.new wx #[.int .i64 0, .int .i64 0, .int .i64 0, .int .i64 0] 40).drew
  have HZL : Hid (wx.heap.size < (wx.alloc (.cells #[.int .i64 0, .int .i64 0, .int .i64 0, .int .i64 0] 40)).drew.heap.size) := HZ.out.lt
  have HB : Hid (Below wx.heap.size wx (wx.alloc (.cells #[.int .i64 0, .int .i64 0, .int .i64 0, .int .i64 0] 40))) := (Below.refl _ _).alloc (Nat.le_refl _) _
  have HLX : Hid (L < wx.heap.size) := Nat.lt_of_lt_of_le HLT.out HC.out.bel.size
  have HSX2 : Hid (StAt (wx.alloc (.cells #[.int .i64 0, .int .i64 0, .int .i64 0, .int .i64 0] 40)) L (enc s)) := (HTX.out.keep (HB.out.block _ HLX.out)).st
  have HP2 : Hid (IsProg (wx.alloc (.cells #[.int .i64 0, .int .i64 0, .int .i64 0, .int .i64 0] 40)).drew (.slice a p.length cap) p) := by
    have := (HP.out.below HC.out.bel).below HB.out
    exact this
  have HS2 : Hid (StAt (wx.alloc (.cells #[.int .i64 0, .int .i64 0, .int .i64 0, .int .i64 0] 40)).drew L (enc s)) := HSX2.out
  have q0 : (wx.alloc (.cells #[.int .i64 0, .int .i64 0, .int .i64 0, .int .i64 0] 40)).drew.cell? ⟨w.heap.size, 0, none⟩ = some (.int .i64 words) := (HC.out.alloc _).box.cell 0
  have q1 : (wx.alloc (.cells #[.int .i64 0, .int .i64 0, .int .i64 0, .int .i64 0] 40)).drew.cell? ⟨w.heap.size, 1, none⟩ = some (.slice a p.length cap) := (HC.out.alloc _).box.cell 1
  go_cut [7, 8] from 9 to 18 (fun s7 s8 wz => ∃ c, s7 = .pointer (some ⟨c, 0, none⟩) ∧ s8 = .bool true ∧ Ahead w wz L c s l)
  case first =>
    go_region_with (go_at_call 27; first | (refine (nextYes HP1.out HS1.out hh h4 HAT.out HM.out HLN.out).mono ?_; rintro e w1 ⟨rfl, hb⟩) | (refine (nextYes HP2.out HS2.out hh h4 HAT.out HM.out HLN.out).mono ?_; rintro e w1 ⟨rfl, hb⟩; have hz := HZ.out.below hb HZL.out; have n0 := hz.cell 0; have n1 := hz.cell 1; have n2 := hz.cell 2; have n3 := hz.cell 3; have f0 := hz.free 0; have f1 := hz.free 1; have f2 := hz.free 2; have f3 := hz.free 3))
    · go_wp2_with fail
      go_meet
      exact ⟨_, rfl, rfl, ahead_new HX.out HTX.out hb l⟩
    · go_wp2_with fail
      go_meet
      exact ⟨_, rfl, rfl, ahead_old HX.out HTX.out hb hz l⟩
    · go_wp2_with fail
      go_meet
      exact ⟨_, rfl, rfl, ahead_old HX.out HTX.out hb hz l⟩
  case rest =>
    obtain ⟨c, rfl, rfl, hA⟩ := hcut
    have HA := Lib.hid hA
    clear hA b0 b1 q0 q1 HP HS HLT HC HX HTX HSX HM HLN HAT HPX HP1 HS1 HZ HZL HB HLX HSX2 HP2 HS2
    have c0 := HA.out.st.cell (show 56 + h < 60 by omega)
    rw [enc_many s h4] at c0
    have h4I : (h : Int) < 4 := by omega
    have l0 : wc.cell? ⟨c, 0, none⟩ = some (.int .i64 l.k) := HA.out.box.cell 0
    obtain ⟨bb, hbb⟩ : ∃ bb, can p h (s.l h) = bb := ⟨_, rfl⟩
    have HBB := Lib.hid hbb
    have hcv : can p h (s.l h) = ((s.l h).b.isEmpty || !(l.k == 3 || l.k == 4)) := by unfold can; rw [hmr, HLV.out, Bool.true_and]
    have HCV : Hid (bb = ((s.l h).b.isEmpty || !(l.k == 3 || l.k == 4))) := by show _ = _; rw [← hcv, hbb]
    clear hbb hcv hmr
    go_upto_region 2 with fail
    go_cut [38] from 18 to 39 (fun s38 wz => s38 = .bool (!bb) ∧ wz = wc)
    case first =>
      by_cases hbe : (s.l h).b = []
      · have z : ((s.l h).b.length : Int) = 0 := by rw [hbe]; rfl
        have HV : Hid (bb = true) := by show _ = _; rw [HCV.out, hbe]; rfl
        rw [z] at c0
        clear z hbe
        go_wp2_with fail
        go_meet
        exact ⟨by rw [HV.out]; rfl, rfl⟩
      · have z : 0 < ((s.l h).b.length : Int) := by
          have : (s.l h).b.length ≠ 0 := by simpa using hbe
          omega
        have HE : Hid ((s.l h).b.isEmpty = false) := by show _ = _; simpa using hbe
        clear hbe
        by_cases k3 : l.k = 3
        · have HV : Hid (bb = false) := by show _ = _; rw [HCV.out, HE.out, k3]; rfl
          rw [k3] at l0
          clear k3
          go_wp2_with fail
          go_meet
          exact ⟨by rw [HV.out]; rfl, rfl⟩
        · by_cases k4 : l.k = 4
          · have HV : Hid (bb = false) := by show _ = _; rw [HCV.out, HE.out, k4]; rfl
            rw [k4] at l0
            clear k3 k4
            go_wp2_with fail
            go_meet
            exact ⟨by rw [HV.out]; rfl, rfl⟩
          · have HV : Hid (bb = true) := by show _ = _; rw [HCV.out, HE.out]; simp [k3, k4]
            have z3 : (l.k == 3) = false := by simpa using k3
            have z4 : (l.k == 4) = false := by simpa using k4
            go_wp2_with fail
            go_meet
            exact ⟨by rw [HV.out]; rfl, rfl⟩
    case rest =>
      obtain ⟨rfl, rfl⟩ := hcut
      cases bb with
      | false =>
        clear HCV
        go_wp2_with fail
        go_ret
        exact ⟨by rw [HBB.out]; rfl, fun hx => absurd (HBB.out.symm.trans hx) (by simp), HA.out.og⟩
      | true =>
        clear HCV c0
        have HC0 : Hid (wc.cell? ⟨L, 56 + h, none⟩ = some (.int .i64 ((s.l h).b.length : Int))) := by
          have := HA.out.st.cell (show 56 + h < 60 by omega)
          rw [enc_many s h4] at this
          exact this
        have HAT : Hid (0 ≤ (s.l h).at' ∧ (s.l h).at' ≤ 10) := h0
        have ca := HA.out.st.cell (show h < 60 by omega)
        have ga := HA.out.st.free (show h < 60 by omega)
        rw [enc_at s h4] at ca
        have h0a := h0.1
        have h0b := h0.2
        clear h0
        have hreg : 60 ≥ 4 + h * 2 + 2 := by omega
        by_cases k1 : l.k = 1
        · rw [k1] at l0
          have hgw := HG.out.w (by omega) (by omega)
          have hgr := HG.out.r (by omega)
          obtain ⟨wd, hwd⟩ : ∃ wd : Nat, l.w = (wd : Int) := ⟨l.w.toNat, by omega⟩
          obtain ⟨R, hR⟩ : ∃ R : Nat, l.r = (R : Int) := ⟨l.r.toNat, by omega⟩
          have hw4 : wd < 4 := by omega
          have hR2 : R < 2 := by omega
          have HK1 : Hid ((nxt p h (s.l h)).k = 1) := by show _ = _; rw [HLV.out]; exact k1
          have HWD := Lib.hid hwd
          have HRR := Lib.hid hR
          have HENC : Hid (upd (enc (began s h)) (4 + h * 2 + R) (look ((began s h).l h).b ((began s h).m wd) (wd : Int)) = enc (step p s h)) := by
            have := enc_load (words := words) (p := p) h4 HK1.out
            rw [HLV.out] at this
            have e1 : reg h l = 4 + h * 2 + R := by unfold reg; rw [hR]; split <;> omega
            rw [e1, hwd, Int.toNat_natCast] at this
            exact this
          clear hgw hgr k1 hwd hR
          go_upto_region 7 with fail
          go_region
          go_upto_region 8 with fail
          have hS2 : TAt (wc.setCell ⟨L, h, none⟩ (.int .i64 ((s.l h).at' + 1))).drew L (began s h) := by
            have := (Row.set HA.out.st (i := h) (by omega) (fun j _ e => e) ((s.l h).at' + 1)).drew
            exact Row.eq this (fun j hj => by rw [began_enc s h4])
          have hX2 : OnlyG [L] w (wc.setCell ⟨L, h, none⟩ (.int .i64 ((s.l h).at' + 1))).drew := (HA.out.og.set (b := L) (by simp) h (.int .i64 ((s.l h).at' + 1))).drew
          have hB2 := (HA.out.box.other (b' := L) HA.out.ne.symm h (.int .i64 ((s.l h).at' + 1))).drew
          have HNE := Lib.hid HA.out.ne
          generalize (wc.setCell ⟨L, h, none⟩ (.int .i64 ((s.l h).at' + 1))).drew = w2 at hS2 hX2 hB2 ⊢
          clear HA HC0 ca ga l0
          have l1 : w2.cell? ⟨c, 1, none⟩ = some (.int .i64 (R : Int)) := by
            have : w2.cell? ⟨c, 1, none⟩ = some (.int .i64 l.r) := hB2.cell 1
            rw [HRR.out] at this; exact this
          have l2 : w2.cell? ⟨c, 2, none⟩ = some (.int .i64 (wd : Int)) := by
            have : w2.cell? ⟨c, 2, none⟩ = some (.int .i64 l.w) := hB2.cell 2
            rw [HWD.out] at this; exact this
          have HBB2 := Lib.hid hB2
          have HS2 : Hid (TAt w2.drew L (began s h)) := hS2
          have HX2 := Lib.hid hX2
          have HLT2 : Hid (c < w2.drew.heap.size) := hB2.lt
          have HLT3 : Hid (L < w2.drew.heap.size) := hS2.lt
          have HB5 : Hid (((began s h).l h).b.length ≤ 5) := by show _ ≤ _; rw [began_b]; exact hb5
          have hR2I : (R : Int) < 2 := by omega
          have hw4I : (wd : Int) < 4 := by omega
          clear hS2 hX2 hB2
          go_region_with (go_at_call 50; refine (seen_any HS2.out h4 hw4 HB5.out).mono ?_; rintro e w3 ⟨rfl, hb⟩; have m1 : w3.cell? ⟨c, 1, none⟩ = some (.int .i64 (R : Int)) := (hb.cell (p := ⟨c, 1, none⟩) HLT2.out).trans l1; have hs3 := HS2.out.keep (hb.block _ HLT3.out); have m2 := hs3.cell (show 4 + h * 2 + R < 60 by omega); have m3 := hs3.free (show 4 + h * 2 + R < 60 by omega))
          all_goals (go_wp2_with fail; go_ret; exact ⟨by rw [HBB.out]; rfl, fun _ => Row.eq (Row.set hs3 (i := 4 + h * 2 + R) (by omega) (fun j _ e => e) (look ((began s h).l h).b ((began s h).m wd) (wd : Int))) (fun j hj => by rw [HENC.out]), (og_then HX2.out.drew hb).set (by simp) _ _⟩)
        · have z1 : (l.k == 1) = false := by simpa using k1
          by_cases k2 : l.k = 2
          · rw [k2] at l0
            have hgw := HG.out.w (by omega) (by omega)
            have hgr := HG.out.r (by omega)
            obtain ⟨R, hR⟩ : ∃ R : Nat, l.r = (R : Int) := ⟨l.r.toNat, by omega⟩
            have hR2 : R < 2 := by omega
            have hn5 := hb4 (by rw [HLV.out]; exact k2)
            obtain ⟨n, hn⟩ : ∃ n, (s.l h).b.length = n := ⟨_, rfl⟩
            have e1 : reg h l = 4 + h * 2 + R := by unfold reg; rw [hR]; split <;> omega
            have HENC : Hid (upd (upd (upd (enc (began s h)) (16 + h * 10 + n * 2) l.w) (16 + h * 10 + n * 2 + 1) (rg (s.l h) l)) (56 + h) ((n : Int) + 1) = enc (step p s h)) := by
              have := enc_store (p := p) h4 hn5 (by rw [HLV.out]; exact k2)
              rw [HLV.out, hn] at this
              exact this
            have HRG : Hid (enc (began s h) (4 + h * 2 + R) = rg (s.l h) l) := by
              show _ = _
              rw [← began_enc s h4, upd_other (by omega), ← e1]; exact enc_reg s h4 l
            have HMN : Hid (enc (began s h) (56 + h) = (n : Int)) := by
              show _ = _
              rw [enc_many _ h4, began_b, hn]
            rw [hn] at hn5
            have HRR := Lib.hid hR
            clear hgw hgr k1 k2 hR e1 hb4 hb5 hn HC0
            go_upto_region 10 with fail
            go_region
            go_upto_region 11 with fail
            have hS2 : TAt (wc.setCell ⟨L, h, none⟩ (.int .i64 ((s.l h).at' + 1))).drew L (began s h) := by
              have := (Row.set HA.out.st (i := h) (by omega) (fun j _ e => e) ((s.l h).at' + 1)).drew
              exact Row.eq this (fun j hj => by rw [began_enc s h4])
            have hX2 : OnlyG [L] w (wc.setCell ⟨L, h, none⟩ (.int .i64 ((s.l h).at' + 1))).drew := (HA.out.og.set (b := L) (by simp) h (.int .i64 ((s.l h).at' + 1))).drew
            have hB2 := (HA.out.box.other (b' := L) HA.out.ne.symm h (.int .i64 ((s.l h).at' + 1))).drew
            generalize (wc.setCell ⟨L, h, none⟩ (.int .i64 ((s.l h).at' + 1))).drew = w2 at hS2 hX2 hB2 ⊢
            clear HA ca ga l0
            have l1 : w2.cell? ⟨c, 1, none⟩ = some (.int .i64 (R : Int)) := by
              have : w2.cell? ⟨c, 1, none⟩ = some (.int .i64 l.r) := hB2.cell 1
              rw [HRR.out] at this; exact this
            have l2 : w2.cell? ⟨c, 2, none⟩ = some (.int .i64 l.w) := hB2.cell 2
            have m0 := hS2.cell (show 56 + h < 60 by omega)
            rw [HMN.out] at m0
            have m1 := hS2.cell (show 4 + h * 2 + R < 60 by omega)
            rw [HRG.out] at m1
            have m2 := hS2.cell (show 16 + h * 10 + n * 2 < 60 by omega)
            have m3 := hS2.cell (show 16 + h * 10 + n * 2 + 1 < 60 by omega)
            have g2 := hS2.free (show 16 + h * 10 + n * 2 < 60 by omega)
            have g3 := hS2.free (show 16 + h * 10 + n * 2 + 1 < 60 by omega)
            have hR2I : (R : Int) < 2 := by omega
            have hn5I : (n : Int) < 5 := by omega
            have HS2 := Lib.hid hS2
            have HX2 := Lib.hid hX2
            clear hS2 hX2 hB2
            go_region
            go_upto_region 12 with fail
            have hS3 := ((Row.set HS2.out (i := 16 + h * 10 + n * 2) (by omega) (fun j _ e => e) l.w).set (i := 16 + h * 10 + n * 2 + 1) (by omega) (fun j _ e => e) (rg (s.l h) l)).drew
            have hX3 := ((HX2.out.set (b := L) (by simp) (16 + h * 10 + n * 2) (.int .i64 l.w)).set (b := L) (by simp) (16 + h * 10 + n * 2 + 1) (.int .i64 (rg (s.l h) l))).drew
            clear HS2 HX2 l1 l2 m0 m1 m2 m3 g2 g3
            generalize ((w2.setCell ⟨L, 16 + h * 10 + n * 2, none⟩ (.int .i64 l.w)).setCell ⟨L, 16 + h * 10 + n * 2 + 1, none⟩ (.int .i64 (rg (s.l h) l))).drew = w3 at hS3 hX3 ⊢
            have m0 := (hS3 (56 + h) (by omega)).1
            have g0 := (hS3 (56 + h) (by omega)).2
            simp only at m0 g0
            rw [upd_other (by omega), upd_other (by omega), HMN.out] at m0
            have HS3 := Lib.hid hS3
            have HX3 := Lib.hid hX3
            clear hS3 hX3
            go_region
            go_wp2_with fail
            go_ret
            exact ⟨by rw [HBB.out]; rfl, fun _ => Row.eq (Row.set HS3.out (i := 56 + h) (by omega) (fun j _ e => e) ((n : Int) + 1)).drew (fun j hj => by rw [HENC.out]), (HX3.out.set (by simp) _ _).drew⟩
          · have z2 : (l.k == 2) = false := by simpa using k2
            have HK1 : Hid (l.k ≠ 1) := k1
            have HK2 : Hid (l.k ≠ 2) := k2
            have HTA := Lib.hid HA.out.st
            have HE : Hid (0 ≤ enc s h ∧ enc s h ≤ 10) := by show _ ∧ _; rw [enc_at s h4]; exact HAT.out
            have HD : Hid (done (enc s) h l = enc (step p s h)) := by
              have := enc_do (p := p) (words := words) (s := s) h4 (by rw [HLV.out]; exact HG.out) hw (by rw [HLV.out]; exact k1) (by rw [HLV.out]; exact k2)
              rw [HLV.out] at this
              exact this
            have l1 : wc.cell? ⟨c, 1, none⟩ = some (.int .i64 l.r) := HA.out.box.cell 1
            have l2 : wc.cell? ⟨c, 2, none⟩ = some (.int .i64 l.w) := HA.out.box.cell 2
            have l3 : wc.cell? ⟨c, 3, none⟩ = some (.int .i64 l.v) := HA.out.box.cell 3
            have HDO : Hid (StN 60 wc.drew L (enc s)) := HA.out.st
            clear k1 k2 HC0 ca ga
            go_upto_region 5 with fail
            go_region_with (go_at_call 28; refine (do_any (l := l) (n := 60) (by decide) HG.out hw HDO.out h4 HE.out).mono ?_; rintro e w3 ⟨rfl, hst, hog⟩)
            all_goals (go_wp2_with fail; go_ret; exact ⟨by rw [HBB.out]; rfl, fun _ => Row.eq hst (fun j hj => by rw [HD.out]), og_both HA.out.og.drew hog⟩)
end Go.Proofs.YtimbdjmplcgilaaDoor.Tso
