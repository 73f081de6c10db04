import Derived.Test.YtimbdjmplcgilaaDoorTsDo
namespace Go.Proofs.YtimbdjmplcgilaaDoor.Tso
open Go.RowKit Pr
set_option linter.unusedVariables false
set_option linter.unusedSimpArgs false

/-- A state lies in a block. -/
def TAt (w : World) (L : Nat) (s : TS) : Prop := StN 60 w L (enc s)
theorem TAt.keep {w w' : World} {L : Nat} {s : TS} (h : TAt w L s) (k : w'.heap[L]? = w.heap[L]?) : TAt w' L s := Row.keep h k
theorem TAt.lt {w : World} {L : Nat} {s : TS} (h : TAt w L s) : L < w.heap.size := World.block_lt_of_cell? (w := w) (a := ⟨L, 0, none⟩) (h 0 (by omega)).1
theorem TAt.cell {w : World} {L : Nat} {s : TS} (h : TAt w L s) {j : Nat} (hj : j < 60) : w.cell? ⟨L, j, none⟩ = some (.int .i64 (enc s j)) := (h j hj).1
theorem TAt.free {w : World} {L : Nat} {s : TS} (h : TAt w L s) {j : Nat} (hj : j < 60) : w.frozen? ⟨L, j, none⟩ = false := (h j hj).2
theorem TAt.st {w : World} {L : Nat} {s : TS} (h : TAt w L s) : StAt w L (enc s) := fun j hj => h j (by omega)
theorem look_take (b : List (Int × Int)) (d w : Int) {k : Nat} (hk : k < b.length) : look (b.take (k + 1)) d w = if (b.getD k (0, 0)).1 = w then (b.getD k (0, 0)).2 else look (b.take k) d w := by
  rw [List.take_add_one, List.getElem?_eq_getElem hk]
  simp only [Option.toList_some]
  rw [look_snoc]
  simp [List.getD_eq_getElem?_getD, hk]

set_option maxHeartbeats 4000000 in
set_option maxRecDepth 100000 in
theorem seen_any {w : World} {L h wd : Nat} {s : TS} (hs : TAt w L s) (h4 : h < 4) (hw : wd < 4) (hb : (s.l h).b.length ≤ 5) :
    Calls Tryd.prog 50 #[.pointer (some ⟨L, 0, none⟩), .int .i64 h, .int .i64 wd] w fun e w' =>
      e = .returned (.int .i64 (look (s.l h).b (s.m wd) wd)) ∧ Below w.heap.size w w' := by
  have HS := Lib.hid hs
  have HLT := Lib.hid hs.lt
  have c0 := hs.cell (show 56 + h < 60 by omega)
  rw [enc_many s h4] at c0
  have h4I : (h : Int) < 4 := by omega
  have hwI : (wd : Int) < 4 := by omega
  have hbI : ((s.l h).b.length : Int) ≤ 5 := by omega
  clear hs
  go_enter Tryd.func50, Tryd.ntmps50
  go_wp2_with fail
  go_loopg [7] 6 (fun g i wr => ∃ (k : Nat), k ≤ (s.l h).b.length ∧ k + 1 ≤ g ∧ i = .int .i64 ((k : Int) - 1) ∧ look (s.l h).b (s.m wd) wd = look ((s.l h).b.take k) (s.m wd) wd ∧ Below w.heap.size w wr)
  case atStart => exact ⟨(s.l h).b.length, Nat.le_refl _, by omega, rfl, by rw [List.take_length], Below.refl _ _⟩
  case round =>
    clear c0
    obtain ⟨k, hk, hkg, rfl, hlook, hbel⟩ := hrel
    have HKG := Lib.hid hkg
    have HLK := Lib.hid hlook
    have HB := Lib.hid hbel
    have hsr := HS.out.keep (hbel.block _ HLT.out)
    clear hkg hlook hbel
    cases k with
    | zero =>
      have c1 := hsr.cell (show 12 + wd < 60 by omega)
      rw [enc_word s hw] at c1
      have e : look (s.l h).b (s.m wd) wd = s.m wd := by rw [HLK.out]; rfl
      clear hsr
      go_wp2_with fail
      go_ret
      refine ⟨?_, HB.out⟩
      rw [e]; rfl
    | succ k =>
      have c1 := hsr.cell (show 16 + h * 10 + k * 2 < 60 by omega)
      have c2 := hsr.cell (show 16 + h * 10 + k * 2 + 1 < 60 by omega)
      rw [enc_bw s h4 (by omega)] at c1
      rw [enc_bv s h4 (by omega)] at c2
      have hk5 : (k : Int) < 5 := by omega
      have hlt := look_take (s.l h).b (s.m wd) wd (k := k) (by omega)
      have HLT2 := Lib.hid hlt
      clear hsr hlt
      generalize hx : (s.l h).b.getD k (0, 0) = x at *
      obtain ⟨x1, x2⟩ := x
      simp only at c1 c2
      by_cases e : x1 = (wd : Int)
      · subst e
        have e2 : Hid (look (s.l h).b (s.m wd) wd = x2) := by show _ = _; rw [HLK.out, HLT2.out, if_pos rfl]
        go_wp2_with fail
        go_ret
        refine ⟨?_, HB.out.alloc HB.out.size _⟩
        rw [e2.out]; rfl
      · have z : (x1 == (wd : Int)) = false := by simpa using e
        have e2 : look (s.l h).b (s.m wd) wd = look ((s.l h).b.take k) (s.m wd) wd := by rw [HLK.out, HLT2.out, if_neg e]
        have HE := Lib.hid e2
        clear e e2
        go_wp2_with fail
        go_roundg (k + 1)
        case measure => have := HKG.out; omega
        case rel => exact ⟨k, by omega, by omega, by go_num, HE.out, HB.out.alloc HB.out.size _⟩
end Go.Proofs.YtimbdjmplcgilaaDoor.Tso
