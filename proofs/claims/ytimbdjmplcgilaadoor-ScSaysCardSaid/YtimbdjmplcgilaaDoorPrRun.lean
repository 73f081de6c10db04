import Derived.Test.YtimbdjmplcgilaaDoorPrRes
import Derived.Test.YtimbdjmplcgilaaDoorPrPlain2
namespace Go.Proofs.YtimbdjmplcgilaaDoor.Pr
open Go.RowKit
set_option linter.unusedVariables false

/-- A slice of numbers. -/
def Nums (w : World) (v : Value) (z : List Int) : Prop :=
  ∃ a cap, v = .slice a z.length cap ∧ z.length ≤ maxLen ∧ ∀ k, k < z.length → ∃ b o, a = some ⟨b, o, none⟩ ∧ (b < w.heap.size ∧ z.length ≤ cap) ∧ w.cell? ⟨b, o + k, none⟩ = some (.int .i64 (z.getD k 0))
theorem Nums.below {w w' : World} {v : Value} {z : List Int} (h : Nums w v z) (k : Below w.heap.size w w') : Nums w' v z := by
  obtain ⟨a, cap, rfl, hl, hj⟩ := h
  refine ⟨a, cap, rfl, hl, fun j hj' => ?_⟩
  obtain ⟨b, o, rfl, hb, hx⟩ := hj j hj'
  exact ⟨b, o, rfl, ⟨Nat.lt_of_lt_of_le hb.1 k.size, hb.2⟩, by rw [k.cell (p := ⟨b, o + j, none⟩) hb.1]; exact hx⟩
theorem nums_nil (w : World) : Nums w (.slice none 0 0) [] := ⟨none, 0, rfl, by simp, fun k hk => by simp at hk⟩
theorem nums_row {w : World} {a : Option Addr} {len cap : Nat} {zs : List Int} (h : IsRow .i64 w a len cap zs) : ∃ z, Nums w (.slice a len cap) z := by
  rcases h with ⟨rfl, rfl, rfl, rfl⟩ | ⟨⟨b, o, spot⟩, rfl, h1, h2, h3, h4, h5⟩
  · exact ⟨[], nums_nil w⟩
  · have hl : (zs.take len).length = len := by simp; omega
    refine ⟨zs.take len, some ⟨b, o, spot⟩, cap, by rw [hl], by rw [hl]; omega, fun k hk => ?_⟩
    rw [hl] at hk
    have hc := h4 k (by omega)
    have h0 := h4 0 (by omega)
    have hspot : spot = none := by simpa [Addr.add] using World.cell?_spot h0
    subst hspot
    have e : (Addr.add ⟨b, o, none⟩ k) = ⟨b, o + k, none⟩ := by
      unfold Addr.add; split
      · subst_vars; rfl
      · rfl
    rw [e] at hc
    refine ⟨b, o, rfl, ⟨World.block_lt_of_cell? (w := w) (a := ⟨b, o + k, none⟩) hc, by omega⟩, ?_⟩
    rw [hc]
    simp [List.getD_eq_getElem?_getD, hk]
theorem Gave.nums {R : List Int} {w w' : World} {v : Value} (h : Gave R w v w') (hl : R.length ≤ maxLen) : Nums w' v R := by
  obtain ⟨g, cap, rfl, hg, hlt, hr⟩ := h
  exact ⟨_, cap, rfl, hl, fun k hk => ⟨g, 0, rfl, ⟨hlt, hg.2⟩, by have := (hr k hk).1; simpa using this⟩⟩

theorem next_any {w : World} {L h : Nat} {u : Value} {words : Int} {p : List (List Ln)} {f : St} (hp : IsProg w u p) (hs : StAt w L f) (hh : h < p.length) (h4 : h < 4) (h0 : 0 ≤ f h ∧ f h ≤ 10) :
    Calls Tryd.prog 27 #[.pointer (some ⟨L, 0, none⟩), .agg #[.int .i64 words, u], .int .i64 h] w fun e w' =>
      ∃ (lv : Ln) (b : Bool), e = .returned (.tuple #[.agg #[.int .i64 lv.k, .int .i64 lv.r, .int .i64 lv.w, .int .i64 lv.v], .bool b]) ∧ more p f h = b ∧ (b = true → lv = line p f h) ∧ Below w.heap.size w w' := by
  cases hm : more p f h with
  | true => exact (next_yes hp hs hh h4 h0 hm).mono fun e w' q => ⟨_, true, q.1, rfl, fun _ => rfl, q.2⟩
  | false => exact (next_no hp hs hh h4 h0 hm).mono fun e w' q => ⟨_, false, q.1, rfl, fun x => absurd x (by simp), q.2⟩

/-- The walk of Run, amid: the box, and the state. -/
structure RX (w : World) (words : Int) (u : Value) (p : List (List Ln)) (L : Nat) (f : St) (wr : World) : Prop where
  bel : Below w.heap.size w wr
  box : Blk wr w.heap.size #[.int .i64 words, u] 24
  hL : w.heap.size < L ∧ L < wr.heap.size
  st : StAt wr L f
  pg : IsProg wr u p
theorem RX.below {w wr w' : World} {words : Int} {u : Value} {p : List (List Ln)} {L : Nat} {f : St} (h : RX w words u p L f wr) (k : Below wr.heap.size wr w') : RX w words u p L f w' :=
  ⟨h.bel.trans (k.mono h.bel.size), h.box.below k (by have := h.hL; omega), ⟨h.hL.1, Nat.lt_of_lt_of_le h.hL.2 k.size⟩, h.st.keep (k.block _ h.hL.2), h.pg.below k⟩
theorem RX.alloc {w wr : World} {words : Int} {u : Value} {p : List (List Ln)} {L : Nat} {f : St} (h : RX w words u p L f wr) (o : Obj) : RX w words u p L f (wr.alloc o) := h.below ((Below.refl _ _).alloc (Nat.le_refl _) o)
theorem RX.did {w wr w' : World} {words : Int} {u : Value} {p : List (List Ln)} {L : Nat} {f g : St} (hp : IsProg w u p) (h : RX w words u p L f wr) (k : OnlyG [L] wr w') (hs : StAt w' L g) : RX w words u p L g w' := by
  have hb : Below w.heap.size w w' := h.bel.trans (k.below (by intro x hx; simp at hx; have := h.hL; omega) h.bel.size)
  exact ⟨hb, k.blk (by have := h.hL; simp; omega) h.box, ⟨h.hL.1, Nat.lt_of_lt_of_le h.hL.2 k.size_le⟩, hs, hp.below hb⟩

theorem RX.put4 {w wr : World} {words : Int} {u : Value} {p : List (List Ln)} {L B : Nat} {f : St} (hp : IsProg w u p) (h : RX w words u p L f wr) (hB : w.heap.size < B) (hBL : B ≠ L) (v0 v1 v2 v3 : Value) :
    RX w words u p L f ((((wr.setCell ⟨B, 0, none⟩ v0).setCell ⟨B, 1, none⟩ v1).setCell ⟨B, 2, none⟩ v2).setCell ⟨B, 3, none⟩ v3) := by
  have hb := bel4 (c := B) h.bel (by omega) v0 v1 v2 v3
  have hne : B ≠ w.heap.size := by omega
  exact ⟨hb, (((h.box.other hne 0 v0).other hne 1 v1).other hne 2 v2).other hne 3 v3, ⟨h.hL.1, by simpa using h.hL.2⟩,
    (((h.st.other v0 (.inl hBL)).other v1 (.inl hBL)).other v2 (.inl hBL)).other v3 (.inl hBL), hp.below hb⟩

def Ran (words : Int) (p : List (List Ln)) (z : List Int) (w : World) (e : Ending) (w' : World) : Prop :=
  Below w.heap.size w w' ∧ match run words p z with
    | .inl c => e = .returned (.tuple #[.slice none 0 0, errVal c])
    | .inr R => ∃ v, e = .returned (.tuple #[v, .nilIface]) ∧ Gave R w v w'
theorem Ran.err {words : Int} {p : List (List Ln)} {z : List Int} {w w' : World} {c : Int} (h : run words p z = .inl c) (hb : Below w.heap.size w w') : Ran words p z w (.returned (.tuple #[.slice none 0 0, errVal c])) w' := by
  refine ⟨hb, ?_⟩
  rw [h]
theorem Ran.ok {words : Int} {p : List (List Ln)} {z R : List Int} {w w' : World} {v : Value} (h : run words p z = .inr R) (hb : Below w.heap.size w w') (hg : Gave R w v w') : Ran words p z w (.returned (.tuple #[v, .nilIface])) w' := by
  refine ⟨hb, ?_⟩
  rw [h]
  exact ⟨v, rfl, hg⟩

end Go.Proofs.YtimbdjmplcgilaaDoor.Pr
