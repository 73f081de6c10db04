import Derived.Test.YtimbdjmplcgilaaDoorRfAdd
import Derived.Test.YtimbdjmplcgilaaDoorRfW
import Derived.Test.YtimbdjmplcgilaaDoorRfSc
namespace Go.Proofs.YtimbdjmplcgilaaDoor.Rf
open Go.RowKit Pr SortFn
open Tso (TS vec dec enc)
set_option linter.unusedVariables false
set_option linter.unusedSimpArgs false

/-! Sixty numbers, and the forty-six of the document. -/
def r46 (v : List Int) : List Int := list46 (row (dec v))
theorem r46_vec {words : Int} {p : List (List Ln)} (hn : p.length ≤ 3) {s : TS} (h : Tso.Ok words p s) : r46 (vec s) = list46 (row s) := by
  unfold r46; rw [Tso.dec_vec hn h]
theorem r46_len (v : List Int) : (r46 v).length = 46 := list46_len _
theorem r46_inj {W : Bool} {words : Int} {p : List (List Ln)} (hf : Fine words p) {a b : List Int} (ha : Bfs.Reach (vec TS.zero) (succ W p) a) (hb : Bfs.Reach (vec TS.zero) (succ W p) b) (h : r46 a = r46 b) : a = b := by
  obtain ⟨s, hs, rfl⟩ := (reach_iff hf).1 ha
  obtain ⟨t, ht, rfl⟩ := (reach_iff hf).1 hb
  rw [r46_vec hf.n.2 (hs.ok hf), r46_vec hf.n.2 (ht.ok hf)] at h
  rw [row_inj hf.n.2 (hs.ok hf) (ht.ok hf) (fun j hj => by rw [← list46_get (row s) hj, h, list46_get (row t) hj])]
theorem map_add {W : Bool} {words : Int} {p : List (List Ln)} (hf : Fine words p) {ss : List (List Int)} {b : List Int} (hs : ∀ a ∈ ss, Bfs.Reach (vec TS.zero) (succ W p) a) (hb : Bfs.Reach (vec TS.zero) (succ W p) b) :
    Bfs.add (ss.map r46) (r46 b) = (Bfs.add ss b).map r46 := by
  have key : r46 b ∈ ss.map r46 ↔ b ∈ ss := by
    constructor
    · intro h
      obtain ⟨a, ha, e⟩ := List.mem_map.1 h
      rw [← r46_inj hf (hs a ha) hb e]; exact ha
    · exact fun h => List.mem_map.2 ⟨b, h, rfl⟩
  unfold Bfs.add
  by_cases h : b ∈ ss
  · rw [if_pos h, if_pos (key.2 h)]
  · rw [if_neg h, if_neg (fun x => h (key.1 x)), List.map_append]; rfl
theorem rregs_row (s : TS) : ∀ k, k ≤ 3 → rregs (row s) k = regs (enc s) k
  | 0, _ => rfl
  | k + 1, hk => by
    rw [rregs_succ, rregs_row s k (by omega), regs_succ, row_r0 s (by omega), row_r1 s (by omega), Tso.enc_r0 s (by omega), Tso.enc_r1 s (by omega)]
    simp
theorem rresult_row {words : Int} {p : List (List Ln)} (hn : p.length ≤ 3) (hw : words ≤ 4) (s : TS) : rresult words p (row s) = result words p (enc s) := by
  unfold rresult result
  rw [rregs_row s _ hn]
  congr 1
  refine List.map_congr_left (fun j hj => ?_)
  have := List.mem_range.1 hj
  rw [row_word s (by omega), Tso.enc_word s (by omega)]
theorem rcases46 {P : Nat → Prop} (h : ∀ j, j < 46 → P j) (h2 : ∀ j, 46 ≤ j → P j) : ∀ j, P j := fun j => by
  by_cases e : j < 46
  · exact h j e
  · exact h2 j (by omega)
theorem row_zero : row TS.zero = fun _ => 0 := by
  funext j
  by_cases hj : j < 46
  · rcases rcases hj with ⟨h, hh, rfl | rfl | rfl⟩ | ⟨w, hw, rfl⟩ | ⟨h, hh, rfl⟩ | ⟨h, i, hh, hi, rfl | rfl⟩
    · rw [row_at _ hh]; rfl
    · rw [row_r0 _ hh]; rfl
    · rw [row_r1 _ hh]; rfl
    · rw [row_word _ hw]; rfl
    · rw [row_many _ hh]; rfl
    · rw [row_bw _ hh hi]; simp [TS.zero, Tso.Loc.zero]
    · rw [row_bv _ hh hi]; simp [TS.zero, Tso.Loc.zero]
  · rw [row_out _ (by omega)]
end Go.Proofs.YtimbdjmplcgilaaDoor.Rf
namespace Go.Proofs.YtimbdjmplcgilaaDoor.Rf
open Go.RowKit Pr SortFn
open Tso (TS vec dec enc)
set_option linter.unusedVariables false
set_option linter.unusedSimpArgs false

def nilsN (n : Nat) : Array Value := (List.replicate n (Value.slice none 0 0)).toArray
theorem nilsN_get {n k : Nat} (h : k < n) : (nilsN n)[k]? = some (.slice none 0 0) := by simp [nilsN, h]
theorem infoRows : (Tryd.prog.info? 43).map (fun i => (i.zero, i.size, i.bytes)) = some (some (.slice none 0 0), 1, 24) := by kernel_rfl
theorem made_nils (n : Nat) : madeCells #[Value.slice none 0 0] n = nilsN n := by
  unfold madeCells nilsN
  apply Array.ext (by simp)
  intro i h1 h2
  simp [Nat.mod_one]
theorem make_rows (w : World) : (Instr.makeSlice 42 (.int .i64 1009) (.int .i64 1009)).run Tryd.prog w = .ok (.slice (some ⟨w.heap.size, 0, none⟩) 1009 1009) (w.alloc (.cells (nilsN 1009) 43)) := by
  obtain ⟨i0, hi, hz0, hz1, hz2⟩ := info_parts infoRows
  have h := run_make (P := Tryd.prog) w 42 43 i0 (.slice none 0 0) Tryd.underlying42 hi hz0 .i64 .i64 1009 1009 (by omega) (by omega) (by rw [hz2]; omega) (by omega)
  rw [h]
  have e : madeCells (Value.slice none 0 0).cells ((1009 : Int).toNat * i0.size) = nilsN 1009 := by rw [hz1]; exact made_nils 1009
  rw [e]
  rfl
/-- At first nothing is found. -/
theorem found_zero {w wy : World} {F RB : Nat} (hF : Blk wy F #[.slice (some ⟨RB, 0, none⟩) 1009 1009, .slice none 0 0] 45) (hR : Blk wy RB (nilsN 1009) 43) (h1 : w.heap.size ≤ F) (h2 : w.heap.size ≤ RB) (hne : F ≠ RB) :
    FAt wy w.heap.size F RB (fun b => if b = F then 2000 else if b = RB then 2001 else 0) [] := by
  have hFl := hF.lt
  have hRl := hR.lt
  have hnil : ∀ tag, OutS wy w.heap.size tag (.slice none 0 0) [] [] := fun tag => ⟨World.ownsRow_nil _ _ _ _, rfl, fun j x l hx hl => by simp at hx⟩
  refine ⟨⟨h1, h2, by omega⟩, fun b hb => ?_, by simp, by simp [hne.symm], _, [], fun _ => .slice none 0 0, fun _ => [], fun _ => [], hF, hnil _, fun b hb => by simp [Value.ownBlock] at hb, fun k hk => ⟨?_, hR.free k, hnil _, fun b hb => by simp [Value.ownBlock] at hb, Nat.le_refl _, fun x => by simp⟩⟩
  · show (if b = F then 2000 else if b = RB then 2001 else 0) = 0
    rw [if_neg (by omega), if_neg (by omega)]
  · rw [hR.cell]; exact nilsN_get hk
theorem out_same {w w' : World} {base : Nat} {S S' : List Nat} {v : Value} {R : List (List Int)} {vals : List Value} (h : OutAt w base S v R vals) (hs : w.heap.size ≤ w'.heap.size) (hv : ∀ b, v.ownBlock = some b → w'.heap[b]? = w.heap[b]? ∧ b ∉ S')
    (he : ∀ x ∈ vals, ∀ b, x.ownBlock = some b → b < w.heap.size → w'.heap[b]? = w.heap[b]? ∧ b ∉ S') : OutAt w' base S' v R vals := by
  refine ⟨?_, h.len, fun b hb => (hv b hb).2, fun j x l hx hl => ?_⟩
  · obtain ⟨h1, h2⟩ := h.own
    refine ⟨h1, ?_⟩
    rcases h2 with ⟨e, e2⟩ | ⟨g0, cap, cur, e, h2, h3, r⟩
    · exact .inl ⟨e, e2⟩
    · refine .inr ⟨g0, cap, cur, e, h2, ?_, r⟩
      subst e
      rw [(hv g0 rfl).1]; exact h3
  · obtain ⟨a1, a2⟩ := h.row j x l hx hl
    have hm : x ∈ vals := List.mem_of_getElem? hx
    refine ⟨?_, fun b hb => ⟨(he x hm b hb (a2 b hb).2.2).2, (a2 b hb).2.1, Nat.lt_of_lt_of_le (a2 b hb).2.2 hs⟩⟩
    obtain ⟨a, cap, rfl, hlm, hj⟩ := a1
    refine ⟨a, cap, rfl, hlm, fun i hi => ?_⟩
    obtain ⟨b, o, rfl, hb, hc⟩ := hj i hi
    exact ⟨b, o, rfl, ⟨Nat.lt_of_lt_of_le hb.1 hs, hb.2⟩, by rw [World.cell?_of_block (w := w) (he _ hm b rfl hb.1).1]; exact hc⟩
/-- Amid the search. -/
structure RX (w : World) (words : Int) (u : Value) (F RB : Nat) (tag : Nat → Nat) (ss : List (List Int)) (v : Value) (R : List (List Int)) (wr : World) : Prop where
  bel : Below w.heap.size w wr
  box : Blk wr w.heap.size #[.int .i64 words, u] 24
  bt : tag w.heap.size = 0
  f : FAt wr w.heap.size F RB tag (ss.map r46)
  out : ∃ base vals, OutAt wr base [] v R vals ∧ (∀ b, v.ownBlock = some b → tag b = 0) ∧ ∀ x ∈ vals, ∀ b, x.ownBlock = some b → tag b = 0
theorem RX.below {w wr w' : World} {words : Int} {u : Value} {F RB : Nat} {tag : Nat → Nat} {ss : List (List Int)} {v : Value} {R : List (List Int)} (h : RX w words u F RB tag ss v R wr) (k : Below wr.heap.size wr w') : RX w words u F RB tag ss v R w' := by
  obtain ⟨base, vals, ho, h1, h2⟩ := h.out
  have hbl := h.box.lt
  exact ⟨h.bel.trans (k.mono h.bel.size), h.box.below k hbl, h.bt, h.f.below k, base, vals, out_same ho k.size (fun b hb => ⟨k.block b (ho.own.lt b hb).2, by simp⟩) (fun x _ b _ hb => ⟨k.block b hb, by simp⟩), h1, h2⟩
theorem RX.add {w wr w' : World} {words : Int} {u : Value} {F RB : Nat} {tag tag' : Nat → Nat} {ss ss' : List (List Int)} {v : Value} {R : List (List Int)} (h : RX w words u F RB tag ss v R wr) (hf : FAt w' w.heap.size F RB tag' (ss'.map r46)) (k : Added wr w.heap.size tag tag' w') (hs : wr.heap.size ≤ w'.heap.size) : RX w words u F RB tag' ss' v R w' := by
  obtain ⟨base, vals, ho, h1, h2⟩ := h.out
  have hbl := h.box.lt
  have lt : ∀ x ∈ vals, ∀ b, x.ownBlock = some b → b < wr.heap.size := fun x hx b hb => by
    obtain ⟨j, hj, e⟩ := List.mem_iff_getElem.1 hx
    obtain ⟨l, hl⟩ : ∃ l, R[j]? = some l := ⟨_, List.getElem?_eq_getElem (by rw [← ho.len]; exact hj)⟩
    exact ((ho.row j x l (by rw [List.getElem?_eq_getElem hj, e]) hl).2 b hb).2.2
  refine ⟨h.bel.trans k.bel, ?_, (k.zero _ hbl h.bt).2, hf, base, vals, out_same ho hs (fun b hb => ⟨(k.zero b (ho.own.lt b hb).2 (h1 b hb)).1, by simp⟩) (fun x hx b hb hbl => ⟨(k.zero b hbl (h2 x hx b hb)).1, by simp⟩), fun b hb => (k.zero b (ho.own.lt b hb).2 (h1 b hb)).2, fun x hx b hb => (k.zero b (lt x hx b hb) (h2 x hx b hb)).2⟩
  have := h.box
  unfold Blk at *
  rw [(k.zero _ hbl h.bt).1]; exact this
/-- The blocks that what is found owns. -/
def tagged (tag : Nat → Nat) (n : Nat) : List Nat := (List.range n).filter (fun b => tag b != 0)
theorem not_tagged {tag : Nat → Nat} {n b : Nat} (hb : b < n) : b ∉ tagged tag n ↔ tag b = 0 := by
  simp [tagged, hb]
theorem RX.away {w wr : World} {words : Int} {u : Value} {F RB : Nat} {tag : Nat → Nat} {ss : List (List Int)} {v : Value} {R : List (List Int)} (h : RX w words u F RB tag ss v R wr) : ∃ base vals, OutAt wr base (tagged tag wr.heap.size) v R vals := by
  obtain ⟨base, vals, ho, h1, h2⟩ := h.out
  exact ⟨base, vals, out_same ho (Nat.le_refl _) (fun b hb => ⟨rfl, (not_tagged (ho.own.lt b hb).2).2 (h1 b hb)⟩) (fun x hx b hb hbl => ⟨rfl, (not_tagged hbl).2 (h2 x hx b hb)⟩)⟩
theorem RX.put {w wr w' : World} {words : Int} {u : Value} {F RB : Nat} {tag : Nat → Nat} {ss : List (List Int)} {v v' : Value} {R R' : List (List Int)} {vals : List Value} (h : RX w words u F RB tag ss v R wr) (ho : OutAt w' wr.heap.size (tagged tag wr.heap.size) v' R' vals) (k : Below wr.heap.size wr w') : RX w words u F RB tag ss v' R' w' := by
  have h0 := h.below k
  have tg : ∀ b, b ∉ tagged tag wr.heap.size → tag b = 0 := fun b hb => by
    by_cases e : b < wr.heap.size
    · exact (not_tagged e).1 hb
    · exact h.f.fresh b (by omega)
  refine ⟨h0.bel, h0.box, h0.bt, h0.f, wr.heap.size, vals, out_same ho (Nat.le_refl _) (fun b hb => ⟨rfl, by simp⟩) (fun x hx b hb _ => ⟨rfl, by simp⟩), fun b hb => tg b (ho.out b hb), fun x hx b hb => ?_⟩
  obtain ⟨j, hj, e⟩ := List.mem_iff_getElem.1 hx
  obtain ⟨l, hl⟩ : ∃ l, R'[j]? = some l := ⟨_, List.getElem?_eq_getElem (by rw [← ho.len]; exact hj)⟩
  exact tg b ((ho.row j x l (by rw [List.getElem?_eq_getElem hj, e]) hl).2 b hb).1
theorem got_rvl {w w' : World} {f : St} {x : Value} (h : Got f w x w') : RVL w' x (list46 f) ∧ (∃ b, x.ownBlock = some b ∧ w.heap.size ≤ b ∧ b < w'.heap.size) := by
  obtain ⟨g, cap, rfl, h1, h2, h3, h4⟩ := h
  exact ⟨⟨g, cap, rfl, h1, h3, h4.eq (fun j hj => (list46_get f hj).symm)⟩, g, rfl, h2, h3⟩
theorem RVL.rv {w : World} {x : Value} {f : St} (h : RVL w x (list46 f)) : RV w x f := by
  obtain ⟨g, cap, rfl, h1, h2, h3⟩ := h
  exact ⟨g, cap, rfl, h1, h2, h3.eq (fun j hj => list46_get f hj)⟩
theorem RX.list {w wr : World} {words : Int} {u : Value} {F RB : Nat} {tag : Nat → Nat} {ss : List (List Int)} {v : Value} {R : List (List Int)} (h : RX w words u F RB tag ss v R wr) : ∃ al cl, wr.cell? ⟨F, 1, none⟩ = some (.slice al ss.length cl) := by
  obtain ⟨vl, lv, vr, br, lr, hB, hL, -, -⟩ := h.f.ex
  obtain ⟨al, cl, rfl⟩ := own_shape hL.own
  have c1 := hB.cell 1
  simp only [List.getElem?_toArray, List.getElem?_cons_zero, List.getElem?_cons_succ, List.length_map] at c1
  exact ⟨al, cl, c1⟩
/-- The state that is taken. -/
theorem RX.state {w wr : World} {words : Int} {u : Value} {F RB : Nat} {tag : Nat → Nat} {ss : List (List Int)} {v : Value} {R : List (List Int)} (h : RX w words u F RB tag ss v R wr) {i : Nat} (hi : i < ss.length) :
    ∃ gl cl gx cx, wr.cell? ⟨F, 1, none⟩ = some (.slice (some ⟨gl, 0, none⟩) ss.length cl) ∧ gl < wr.heap.size ∧ wr.cell? ⟨gl, i, none⟩ = some (.slice (some ⟨gx, 0, none⟩) 46 cx) ∧ RV wr (.slice (some ⟨gx, 0, none⟩) 46 cx) (row (dec (ss.getD i []))) ∧ tag gx = 0 := by
  obtain ⟨vl, lv, vr, br, lr, hB, hL, -, -⟩ := h.f.ex
  have hi' : i < (ss.map r46).length := by rw [List.length_map]; exact hi
  obtain ⟨al, cl, rfl⟩ := own_shape hL.own
  obtain ⟨g, y, rfl, hg, hc, hy, h46⟩ := outS_cell hL hi'
  have e : (ss.map r46).getD i [] = list46 (row (dec (ss.getD i []))) := by
    rw [List.getD_eq_getElem?_getD, List.getElem?_map, List.getD_eq_getElem?_getD, List.getElem?_eq_getElem hi]; rfl
  rw [e] at hy
  have hrv := hy.rv
  obtain ⟨gx, cx, rfl, -⟩ := hy
  have c1 := hB.cell 1
  simp only [List.getElem?_toArray, List.getElem?_cons_zero, List.getElem?_cons_succ, List.length_map] at c1
  refine ⟨g, cl, gx, cx, c1, hg, hc, hrv, ?_⟩
  obtain ⟨x, hx⟩ : ∃ x, lv[i]? = some x := ⟨_, List.getElem?_eq_getElem (by rw [hL.len]; exact hi')⟩
  obtain ⟨l, hl⟩ : ∃ l, (ss.map r46)[i]? = some l := ⟨_, List.getElem?_eq_getElem hi'⟩
  obtain ⟨-, -, a3⟩ := hL.row i x l hx hl
  obtain ⟨g', cap', cur, e, hg', hb', hc', hs', ht'⟩ := own_slice hL.own (by omega)
  cases e
  have : some x = some (Value.slice (some ⟨gx, 0, none⟩) 46 cx) := by
    rw [← hc, hb'.cell, ← hx, ← ht', List.getElem?_take_of_lt (by omega)]
    simp
  cases this
  exact (a3 gx rfl).1
/-- A state that is reached is added. -/
theorem add_state {W : Bool} {words : Int} {p : List (List Ln)} (hf : Fine words p) {w wr w6 : World} {u : Value} {F RB i gx cx : Nat} {tag : Nat → Nat} {ss : List (List Int)} {v x : Value} {R : List (List Int)} {t : TS} {f : St}
    (h : RX w words u F RB tag ss v R wr) (hI : Bfs.Inv (vec TS.zero) (succ W p) ss i) (ht : ReachW W p t) (hg : Got (row t) wr x w6) (hb : Below wr.heap.size wr w6) (hrv : RV wr (.slice (some ⟨gx, 0, none⟩) 46 cx) f) (hgx : tag gx = 0) :
    Calls Tryd.prog 15 #[.pointer (some ⟨F, 0, none⟩), x] w6 fun e w' => e = .returned (.tuple #[]) ∧ ∃ tag', RX w words u F RB tag' (Bfs.add ss (vec t)) v R w' ∧ RV w' (.slice (some ⟨gx, 0, none⟩) 46 cx) f ∧ tag' gx = 0 := by
  obtain ⟨hx, bx, hbx, hbx1, hbx2⟩ := got_rvl hg
  have h6 := h.below hb
  have hrv6 := hrv.below hb
  have hlt : gx < w6.heap.size := by obtain ⟨g, c, e, -, hg, -⟩ := hrv6; cases e; exact hg
  have hbd := row_bd hf (reachW_tso ht).1
  have hsl := bound hf hI
  refine (add_any h6.f hx (fun b hb => by rw [hbx] at hb; have e := Option.some.inj hb; subst e; exact ⟨h.f.fresh bx hbx1, hbx2⟩) (list46_len _) (fun y hy => by
    obtain ⟨j, hj, rfl⟩ := List.mem_map.1 hy
    exact hbd j (by simpa using hj)) (by rw [List.length_map]; omega)).mono ?_
  rintro e w' ⟨rfl, tag', hf', ha⟩
  have hs : w6.heap.size ≤ w'.heap.size := ha.bel.size
  have hz := ha.zero gx hlt hgx
  refine ⟨rfl, tag', h6.add ?_ ha hs, ?_, hz.2⟩
  · rw [← r46_vec hf.n.2 (ht.ok hf)] at hf'
    rw [← map_add hf hI.reach ((reach_iff hf).2 ⟨t, ht, rfl⟩)]
    exact hf'
  · obtain ⟨g, c, e, h1, h2, h3⟩ := hrv6
    cases e
    exact ⟨_, _, rfl, h1, Nat.lt_of_lt_of_le h2 hs, fun k hk => ⟨by rw [World.cell?_of_block (w := w6) hz.1]; exact (h3 k hk).1, by rw [World.frozen?_of_block (w := w6) hz.1]; exact (h3 k hk).2⟩⟩
end Go.Proofs.YtimbdjmplcgilaaDoor.Rf
