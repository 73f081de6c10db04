import Derived.Test.YtpdhnmkhobfnbaaBase
import Derived.Test.YtpdhnmkhobfnbaaWorkPlain
import Derived.Handy
import Derived.Deep.Cut
import Derived.Deep.RegionHeld3
namespace Go.Proofs.Ytpdhnmkhobfnbaa.Work
open Go.RowKit
set_option linter.unusedVariables false

theorem upd_id (f : Nat → Int) (i : Nat) : upd f i (f i) = f := upd_self f i rfl
def cells (s : St) (n bH cap : Nat) : Array Value := #[.int .i64 (s.pc 0), .int .i64 (s.pc 1), .int .i64 (s.pc 2), .int .i64 (s.pc 3), .int .i64 (s.pc 4), .int .i64 (s.pc 5), .int .i64 (s.pc 6), .int .i64 (s.pc 7), .int .i64 s.tp, .int .i64 s.bt, .slice (some ⟨bH, 0, none⟩) n cap]

/-- What a walk of Step keeps: the call began in w; the hand's pointer lies in block N. -/
structure Dx (w : World) (N n L bH cap p : Nat) (s : St) (wx : World) : Prop where
  only : OnlyG [L, bH] w wx
  own : wx.cell? ⟨N, 0, none⟩ = some (.pointer (some ⟨bH, p * 4, none⟩))
  ne : L ≠ N ∧ bH ≠ N ∧ L ≠ bH
  blk : Blk wx L (cells s n bH cap) 38
  rL : Row wx bH n (fun j => j * 4) s.ln
  rV : Row wx bH n (fun j => j * 4 + 1) s.vl
  rT : Row wx bH n (fun j => j * 4 + 2) s.ht
  rB : Row wx bH n (fun j => j * 4 + 3) s.hb
section
variable {w wx : World} {N n L bH cap p : Nat} {s : St} (h : Dx w N n L bH cap p s wx)
include h
theorem Dx.drewN (k : Nat) : Dx w N n L bH cap p s (wx.drewN k) := ⟨h.only.drewN k, h.own, h.ne, h.blk, h.rL, h.rV, h.rT, h.rB⟩
theorem Dx.drew : Dx w N n L bH cap p s wx.drew := ⟨h.only.drew, h.own, h.ne, h.blk, h.rL, h.rV, h.rT, h.rB⟩
theorem Dx.top : wx.cell? ⟨L, 8, none⟩ = some (.int .i64 s.tp) := h.blk.cell 8
theorem Dx.bot : wx.cell? ⟨L, 9, none⟩ = some (.int .i64 s.bt) := h.blk.cell 9
theorem Dx.sl : wx.cell? ⟨L, 10, none⟩ = some (.slice (some ⟨bH, 0, none⟩) n cap) := h.blk.cell 10
theorem Dx.pcs (k : Nat) (hk : k < 8) : wx.cell? ⟨L, k, none⟩ = some (.int .i64 (s.pc k)) := by
  obtain rfl | rfl | rfl | rfl | rfl | rfl | rfl | rfl : k = 0 ∨ k = 1 ∨ k = 2 ∨ k = 3 ∨ k = 4 ∨ k = 5 ∨ k = 6 ∨ k = 7 := by omega
  · exact h.blk.cell 0
  · exact h.blk.cell 1
  · exact h.blk.cell 2
  · exact h.blk.cell 3
  · exact h.blk.cell 4
  · exact h.blk.cell 5
  · exact h.blk.cell 6
  · exact h.blk.cell 7
theorem Dx.ownSet (b o : Nat) (hb : b = L ∨ b = bH) (v : Value) : (wx.setCell ⟨b, o, none⟩ v).cell? ⟨N, 0, none⟩ = some (.pointer (some ⟨bH, p * 4, none⟩)) := by
  rw [World.cell?_setCell_other]
  · exact h.own
  · intro x
    have := congrArg Addr.block x
    have := h.ne
    simp at * <;> omega
theorem Dx.setTop (v : Int) : Dx w N n L bH cap p { s with tp := v } (wx.setCell ⟨L, 8, none⟩ (.int .i64 v)) :=
  ⟨h.only.set (by simp) _ _, h.ownSet L 8 (.inl rfl) _, h.ne, (h.blk.set 8 _).eq (by simp [cells]), h.rL.other _ (.inl h.ne.2.2), h.rV.other _ (.inl h.ne.2.2), h.rT.other _ (.inl h.ne.2.2), h.rB.other _ (.inl h.ne.2.2)⟩
theorem Dx.setBot (v : Int) : Dx w N n L bH cap p { s with bt := v } (wx.setCell ⟨L, 9, none⟩ (.int .i64 v)) :=
  ⟨h.only.set (by simp) _ _, h.ownSet L 9 (.inl rfl) _, h.ne, (h.blk.set 9 _).eq (by simp [cells]), h.rL.other _ (.inl h.ne.2.2), h.rV.other _ (.inl h.ne.2.2), h.rT.other _ (.inl h.ne.2.2), h.rB.other _ (.inl h.ne.2.2)⟩
theorem Dx.setPlace (k : Nat) (hk : k < 8) (v : Int) : Dx w N n L bH cap p { s with pc := upd s.pc k v } (wx.setCell ⟨L, k, none⟩ (.int .i64 v)) := by
  refine ⟨h.only.set (by simp) _ _, h.ownSet L k (.inl rfl) _, h.ne, (h.blk.set k _).eq ?_, h.rL.other _ (.inl h.ne.2.2), h.rV.other _ (.inl h.ne.2.2), h.rT.other _ (.inl h.ne.2.2), h.rB.other _ (.inl h.ne.2.2)⟩
  obtain rfl | rfl | rfl | rfl | rfl | rfl | rfl | rfl : k = 0 ∨ k = 1 ∨ k = 2 ∨ k = 3 ∨ k = 4 ∨ k = 5 ∨ k = 6 ∨ k = 7 := by omega
  all_goals simp [cells, upd]
theorem Dx.setLn (hp : p < n) (v : Int) : Dx w N n L bH cap p { s with ln := upd s.ln p v } (wx.setCell ⟨bH, p * 4, none⟩ (.int .i64 v)) :=
  ⟨h.only.set (by simp) _ _, h.ownSet bH _ (.inr rfl) _, h.ne, h.blk.other (fun e => h.ne.2.2 e.symm) _ _, h.rL.set (i := p) hp (fun j _ e => by omega) v, h.rV.other _ (.inr fun j _ => by omega), h.rT.other _ (.inr fun j _ => by omega), h.rB.other _ (.inr fun j _ => by omega)⟩
theorem Dx.setVl (hp : p < n) (v : Int) : Dx w N n L bH cap p { s with vl := upd s.vl p v } (wx.setCell ⟨bH, p * 4 + 1, none⟩ (.int .i64 v)) :=
  ⟨h.only.set (by simp) _ _, h.ownSet bH _ (.inr rfl) _, h.ne, h.blk.other (fun e => h.ne.2.2 e.symm) _ _, h.rL.other _ (.inr fun j _ => by omega), h.rV.set (i := p) hp (fun j _ e => by omega) v, h.rT.other _ (.inr fun j _ => by omega), h.rB.other _ (.inr fun j _ => by omega)⟩
theorem Dx.setHt (hp : p < n) (v : Int) : Dx w N n L bH cap p { s with ht := upd s.ht p v } (wx.setCell ⟨bH, p * 4 + 2, none⟩ (.int .i64 v)) :=
  ⟨h.only.set (by simp) _ _, h.ownSet bH _ (.inr rfl) _, h.ne, h.blk.other (fun e => h.ne.2.2 e.symm) _ _, h.rL.other _ (.inr fun j _ => by omega), h.rV.other _ (.inr fun j _ => by omega), h.rT.set (i := p) hp (fun j _ e => by omega) v, h.rB.other _ (.inr fun j _ => by omega)⟩
theorem Dx.setHb (hp : p < n) (v : Int) : Dx w N n L bH cap p { s with hb := upd s.hb p v } (wx.setCell ⟨bH, p * 4 + 3, none⟩ (.int .i64 v)) :=
  ⟨h.only.set (by simp) _ _, h.ownSet bH _ (.inr rfl) _, h.ne, h.blk.other (fun e => h.ne.2.2 e.symm) _ _, h.rL.other _ (.inr fun j _ => by omega), h.rV.other _ (.inr fun j _ => by omega), h.rT.other _ (.inr fun j _ => by omega), h.rB.set (i := p) hp (fun j _ e => by omega) v⟩
theorem Dx.re {s' : St} (e : s = s') : Dx w N n L bH cap p s' wx := e ▸ h
end

/-- The deque lies at block L, in the state s. -/
def Rep (w : World) (n L : Nat) (fb : List Nat) (s : St) : Prop :=
  ∃ bH cap, fb = [L, bH] ∧ n ≤ cap ∧ L ≠ bH ∧ Blk w L (cells s n bH cap) 38 ∧
    Row w bH n (fun j => j * 4) s.ln ∧ Row w bH n (fun j => j * 4 + 1) s.vl ∧ Row w bH n (fun j => j * 4 + 2) s.ht ∧ Row w bH n (fun j => j * 4 + 3) s.hb
theorem Rep.keep {w w' : World} {n L : Nat} {fb : List Nat} {s : St} (h : Rep w n L fb s) (hk : ∀ k ∈ fb, w'.heap[k]? = w.heap[k]?) : Rep w' n L fb s := by
  obtain ⟨bH, cap, rfl, hcap, hLH, hB, rL, rV, rT, rB⟩ := h
  refine ⟨bH, cap, rfl, hcap, hLH, ?_, rL.keep (hk _ (by simp)), rV.keep (hk _ (by simp)), rT.keep (hk _ (by simp)), rB.keep (hk _ (by simp))⟩
  unfold Blk at *
  rw [hk L (by simp)]; exact hB
theorem Dx.rep {w wx : World} {N n L bH cap p : Nat} {s : St} (h : Dx w N n L bH cap p s wx) (hcap : n ≤ cap) : Rep wx n L [L, bH] s :=
  ⟨bH, cap, rfl, hcap, h.ne.2.2, h.blk, h.rL, h.rV, h.rT, h.rB⟩
theorem Dx.start {w : World} {n L bH cap p : Nat} {s : St} {T : TypeId} (hp : p < n) (hLH : L ≠ bH) (hB : Blk w L (cells s n bH cap) 38) (rL : Row w bH n (fun j => j * 4) s.ln) (rV : Row w bH n (fun j => j * 4 + 1) s.vl) (rT : Row w bH n (fun j => j * 4 + 2) s.ht) (rB : Row w bH n (fun j => j * 4 + 3) s.hb) :
    Dx w w.heap.size n L bH cap p s (w.alloc (.cells #[.pointer (some ⟨bH, p * 4, none⟩)] T)) := by
  have hL := hB.lt
  have hH := World.block_lt_of_cell? (w := w) (a := ⟨bH, p * 4, none⟩) (rL p hp).1
  simp only at hH
  exact ⟨(OnlyG.refl _ _).alloc _, (World.cell?_alloc_at _ _ _ _ rfl).trans rfl, ⟨Nat.ne_of_lt hL, Nat.ne_of_lt hH, hLH⟩, hB.alloc _, rL.alloc hH _, rV.alloc hH _, rT.alloc hH _, rB.alloc hH _⟩
/-- What Step gives. -/
def Post (n L : Nat) (fb : List Nat) (w : World) (d : Bool) (g : Int) (s : St) (e : Ending) (w' : World) : Prop :=
  e = .returned (.tuple #[.bool d, .int .i64 g, .nilIface]) ∧ Rep w' n L fb s ∧ OnlyG fb w w'

theorem within_yes {n l h : Int} {w : World} (h1 : l ≤ n) (h2 : n ≤ h) :
    Calls Try.prog 12 #[.int .i64 n, .int .i64 l, .int .i64 h] w fun e w' => e = .returned (.bool true) ∧ w = w' := by
  go_enter Try.func12, Try.ntmps12
  go_wp2
  go_ret
  exact ⟨rfl, rfl⟩
theorem within_no {n l h : Int} {w : World} (h1 : n < l ∨ h < n) :
    Calls Try.prog 12 #[.int .i64 n, .int .i64 l, .int .i64 h] w fun e w' => e = .returned (.bool false) ∧ w = w' := by
  by_cases g : n < l
  · clear h1
    go_enter Try.func12, Try.ntmps12
    go_wp2
    go_ret
    exact ⟨rfl, rfl⟩
  · have g1 : l ≤ n := by omega
    have g2 : decide (n ≤ h) = false := by simp; omega
    clear h1 g
    go_enter Try.func12, Try.ntmps12
    go_wp2
    go_ret
    exact ⟨rfl, rfl⟩
set_option maxRecDepth 100000 in
theorem place_at {w : World} {L k : Nat} {K : Int} (hK : K = (k : Int)) (h8 : k < 8) :
    Calls Try.prog 15 #[.pointer (some ⟨L, 0, none⟩), .int .i64 K] w fun e w' => e = .returned (.pointer (some ⟨L, k, none⟩)) ∧ w = w' := by
  subst hK
  have h1 : (k : Int) < 8 := by omega
  have h2 : (k : Int) % 8 = (k : Int) := by omega
  have h3 : Int.tmod (k : Int) 8 = (k : Int) := Int.tmod_eq_of_lt (by omega) h1
  go_enter Try.func15, Try.ntmps15
  go_wp2
  go_ret
  exact ⟨rfl, rfl⟩
theorem cas_yes {w : World} {a : Addr} {o v : Int} (hc : w.cell? a = some (.int .i64 o)) (hf : w.frozen? a = false) :
    Calls Try.prog 16 #[.pointer (some a), .int .i64 o, .int .i64 v] w fun e w' => e = .returned (.bool true) ∧ w' = w.setCell a (.int .i64 v) := by
  have e0 : (o != o) = false := by simp
  go_enter Try.func16, Try.ntmps16
  go_wp2
  go_ret
  exact ⟨rfl, rfl⟩
theorem cas_no {w : World} {a : Addr} {o u v : Int} (hc : w.cell? a = some (.int .i64 u)) (hn : ¬ u = o) :
    Calls Try.prog 16 #[.pointer (some a), .int .i64 o, .int .i64 v] w fun e w' => e = .returned (.bool false) ∧ w' = w := by
  have e0 : (u != o) = true := by simpa using hn
  clear hn
  go_enter Try.func16, Try.ntmps16
  go_wp2
  go_ret
  exact ⟨rfl, rfl⟩
set_option maxHeartbeats 1000000 in
set_option maxRecDepth 100000 in
theorem done_any {w wx : World} {N n L bH cap p : Nat} {s : St} {v : Int} (h : Dx w N n L bH cap p s wx) (hp : p < n) :
    Calls Try.prog 14 #[.int .i64 v, .pointer (some ⟨N, 0, none⟩)] wx fun e w' => e = .returned (.tuple #[.bool true, .int .i64 v, .nilIface]) ∧ Dx w N n L bH cap p (rest s p) w' := by
  have cN := h.own
  have e0 := (h.rL p hp).1
  have e1 := (h.rV p hp).1
  have e2 := (h.rT p hp).1
  have e3 := (h.rB p hp).1
  have f0 := (h.rL p hp).2
  have f1 := (h.rV p hp).2
  have f2 := (h.rT p hp).2
  have f3 := (h.rB p hp).2
  simp only at e0 e1 e2 e3 f0 f1 f2 f3
  have H := Lib.hid h
  clear h
  go_enter Try.func14, Try.ntmps14
  go_wp2
  go_ret3
  exact ⟨rfl, (((H.out.setLn hp 0).setVl hp 0).setHt hp 0).setHb hp 0⟩
end Go.Proofs.Ytpdhnmkhobfnbaa.Work
