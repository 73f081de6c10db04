import Derived.Test.YtimbdjmplcgilaaDoorSortFn
import Derived.Test.YtimbdjmplcgilaaDoorSortLay
import Derived.Lib.SliceRun
import Derived.IntWalk
namespace Go.Proofs.YtimbdjmplcgilaaDoor.SortFn
open Go.RowKit Pr
open Bfs (cmpL ltL once)
open Go.Sort (Holds)
set_option linter.unusedVariables false

/-- A row of numbers behind a slice value that lies elsewhere than in block g. -/
structure Elt (w : World) (g : Nat) where
  val : Value
  l : List Int
  nums : Nums w val l
  ne : ∀ b, val.ownBlock = some b → b ≠ g
instance (w : World) (g : Nat) : Inhabited (Elt w g) := ⟨⟨.slice none 0 0, [], nums_nil w, fun b h => by simp [Value.ownBlock] at h⟩⟩
/-- A row of numbers stays where only block g, and what is new, is turned. -/
theorem Nums.aside {w w' : World} {g : Nat} {v : Value} {l : List Int} (h : Nums w v l) (hne : ∀ b, v.ownBlock = some b → b ≠ g) (k : OnlyG [g] w w') : Nums w' v l := by
  obtain ⟨a, cap, rfl, hl, hj⟩ := h
  refine ⟨a, cap, rfl, hl, fun j hj' => ?_⟩
  obtain ⟨b, o, rfl, hb, hx⟩ := hj j hj'
  refine ⟨b, o, rfl, ⟨Nat.lt_of_lt_of_le hb.1 k.size_le, hb.2⟩, ?_⟩
  rw [World.cell?_of_block (w := w) (k.block b hb.1 (by have := hne b rfl; simpa using this))]
  exact hx
theorem Elt.at {w w' : World} {g : Nat} (x : Elt w g) (k : OnlyG [g] w w') : Nums w' x.val x.l := Nums.aside x.nums x.ne k
theorem elt_cell {w : World} {g : Nat} (x : Elt w g) : x.val.oneCell' = true := by
  obtain ⟨a, cap, e, -⟩ := x.nums
  rw [e]; rfl
theorem swo_elt (w : World) (g : Nat) : Go.Sort.SWO (ltOf fun (x y : Elt w g) => cmpL x.l y.l) where
  irrefl x := Bfs.ltL_irrefl x.l
  trans x y z h1 h2 := Bfs.ltL_trans h1 h2
  ntrans x y z h1 h2 := by
    have a1 : ltL x.l y.l = false := h1
    have a2 : ltL y.l z.l = false := h2
    show ltL x.l z.l = false
    cases h : ltL x.l z.l with
    | false => rfl
    | true =>
      cases h3 : ltL y.l x.l with
      | true => rw [Bfs.ltL_trans h3 h] at a2; cases a2
      | false =>
        have e := Bfs.ltL_total a1 h3
        rw [e] at h; rw [h] at a2; cases a2
theorem sorted_only {w : World} {g n : Nat} (dk : Array (Elt w g)) (os : Array Obj) : OnlyG [g] w (sortWorld (fun x : Elt w g => x.val) w g 0 n dk os) := by
  refine ⟨rfl, rfl, rfl, ?_, fun k h0 hk => ?_⟩
  · show w.heap.size ≤ _
    simp [sortWorld, Go.Sort.grow, Go.Sort.putRow, Go.Sort.mapBlock, Go.Sort.ahead]
  · unfold sortWorld
    rw [Go.Sort.heap_grow_old _ _ (by simpa [Go.Sort.putRow, Go.Sort.mapBlock, Go.Sort.ahead] using h0)]
    have hne : ¬ g = k := by simp at hk; omega
    simp [Go.Sort.putRow, Go.Sort.mapBlock, Go.Sort.ahead, Array.getElem?_modify, hne]
theorem cmp_reads {w : World} {g n : Nat} : CmpReads Tryd.prog 45 #[] (fun x : Elt w g => x.val) (fun x y => cmpL x.l y.l) g 0 n w := by
  intro m os dk hs x y
  refine (compare_any (x.at (sorted_only dk os)) (y.at (sorted_only dk os))).mono ?_
  rintro e w' ⟨rfl, rfl⟩
  exact ⟨rfl, 0, rfl⟩
theorem sort_any {w : World} {g cap : Nat} (xs : Array (Elt w g)) (hH : Holds (fun x : Elt w g => x.val) w g 0 xs) (hg : g < w.heap.size) (hsz : xs.size < 4611686018427387904) :
    Calls Tryd.prog 44 #[.slice (some ⟨g, 0, none⟩) xs.size cap, .func (.func 45) #[] #[]] w fun e w' =>
      e = .returned (.tuple #[]) ∧ ∃ ys : Array (Elt w g), ys.size = xs.size ∧ ys.toList.Perm xs.toList ∧ (ys.toList.map Elt.l).Pairwise (fun a b => ltL b a = false) ∧ Holds (fun x : Elt w g => x.val) w' g 0 ys ∧ OnlyG [g] w w' := by
  have eg : ∀ args w, (callFunc 45 args).run Tryd.prog w = .ok (.enter 45 args) w := enters_of Tryd.func45 (by kernel_rfl) rfl
  refine (SortLay.slices_SortFunc (fun x : Elt w g => x.val) (fun x => elt_cell x) (fun x y => cmpL x.l y.l) (swo_elt w g) 45 #[] g 0 cap xs w eg cmp_reads.lays hH hg hsz).mono ?_
  rintro e w' ⟨rfl, ys, n, os, ⟨hs, -, hp⟩, hso, rfl⟩
  refine ⟨rfl, ys, hs, ?_, ?_, ?_, sorted_only ys os⟩
  · have e1 : ys.extract 0 xs.size = ys := by rw [← hs]; simp
    have e2 : xs.extract 0 xs.size = xs := by simp
    rw [e1, e2] at hp
    exact hp
  · rw [List.pairwise_map, List.pairwise_iff_getElem]
    intro i j hi hj hij
    have := hso i j (Nat.zero_le _) hij (by simpa [hs] using hj)
    simp only [Array.length_toList] at hi hj
    rw [getElem!_pos ys j hj, getElem!_pos ys i hi] at this
    simp only [Array.getElem_toList]
    exact this
  · exact holds_sortWorld _ w g 0 n xs ys os hg hH hs
end Go.Proofs.YtimbdjmplcgilaaDoor.SortFn
namespace Go.Proofs.YtimbdjmplcgilaaDoor.SortFn
open Go.RowKit Pr
open Bfs (cmpL ltL once)
open Go.Sort (Holds)
set_option linter.unusedVariables false

theorem once_snoc : ∀ (L : List (List Int)) (x y : List Int), once (L ++ [x] ++ [y]) = if x = y then once (L ++ [x]) else once (L ++ [x]) ++ [y]
  | [], x, y => by
    by_cases h : x = y
    · simp [once, h]
    · simp [once, h]
  | [a], x, y => by
    have := once_snoc [] x y
    simp only [List.nil_append] at this
    show once (a :: x :: [y]) = _
    rw [once]
    by_cases h : a = x
    · subst h
      rw [if_pos rfl]
      show once ([a] ++ [y]) = _
      rw [this]
      by_cases h2 : a = y
      · subst h2; simp [once]
      · simp [once, h2]
    · rw [if_neg h]
      show a :: once ([x] ++ [y]) = _
      rw [this]
      by_cases h2 : x = y
      · subst h2; simp [once, h]
      · simp [once, h, h2]
  | a :: b :: r, x, y => by
    have ih := once_snoc (b :: r) x y
    simp only [List.cons_append] at ih ⊢
    rw [once, once]
    by_cases h : a = b
    · rw [if_pos h, if_pos h]; exact ih
    · rw [if_neg h, if_neg h, ih]
      by_cases h2 : x = y
      · simp [h2]
      · simp [h2]
/-- The rows of the first m. -/
def pre {w : World} {g : Nat} (d : Array (Elt w g)) (m : Nat) : List (List Int) := (d.toList.take m).map Elt.l
theorem pre_succ {w : World} {g : Nat} {d : Array (Elt w g)} {m : Nat} (h : m < d.size) : pre d (m + 1) = pre d m ++ [(d[m]!).l] := by
  unfold pre
  rw [List.take_succ_eq_append_getElem (by simpa using h), List.map_append, getElem!_pos d m h]
  simp
theorem once_pre {w : World} {g : Nat} {d : Array (Elt w g)} {m : Nat} (h : m < d.size) (h1 : 1 ≤ m) : once (pre d (m + 1)) = if (d[m - 1]!).l = (d[m]!).l then once (pre d m) else once (pre d m) ++ [(d[m]!).l] := by
  obtain ⟨k, rfl⟩ : ∃ k, m = k + 1 := ⟨m - 1, by omega⟩
  rw [pre_succ h, pre_succ (show k < d.size by omega), show k + 1 - 1 = k by omega]
  exact once_snoc _ _ _
/-- The walk of CompactFunc behind the first two alike: the first kk are done, from m - 1 on nothing is turned. -/
structure CI {w : World} {g : Nat} (d : Array (Elt w g)) (m kk : Nat) (dk : Array (Elt w g)) : Prop where
  size : dk.size = d.size
  lt : kk < m
  high : ∀ j, m - 1 ≤ j → j < d.size → dk[j]! = d[j]!
  low : pre dk kk = once (pre d m)
theorem CI.skip {w : World} {g : Nat} {d dk : Array (Elt w g)} {m kk : Nat} (h : CI d m kk dk) (hm : m < d.size) (h1 : 1 ≤ m) (e : (d[m - 1]!).l = (d[m]!).l) : CI d (m + 1) kk dk :=
  ⟨h.size, by have := h.lt; omega, fun j hj hj' => h.high j (by omega) hj', by rw [once_pre hm h1, if_pos e]; exact h.low⟩
theorem CI.put {w : World} {g : Nat} {d dk : Array (Elt w g)} {m kk : Nat} (h : CI d m kk dk) (hm : m < d.size) (h1 : 1 ≤ m) (e : (d[m - 1]!).l ≠ (d[m]!).l) : CI d (m + 1) (kk + 1) (dk.setIfInBounds kk d[m]!) := by
  have hlt := h.lt
  have hs := h.size
  have hk : kk < dk.size := by omega
  refine ⟨by simpa using hs, by omega, fun j hj hj' => ?_, ?_⟩
  · rw [Go.Sort.getElem!_set_other _ _ _ _ (by omega)]
    exact h.high j (by omega) hj'
  · rw [pre_succ (by simpa using hk), Go.Sort.getElem!_set_same _ _ _ hk, once_pre hm h1, if_neg e, ← h.low]
    congr 1
    unfold pre
    rw [Array.toList_setIfInBounds, List.take_set_of_le (Nat.le_refl _)]
/-- A slice of rows of numbers. -/
def Mat (w : World) (v : Value) (M : List (List Int)) : Prop :=
  ∃ a cap, v = .slice a M.length cap ∧ M.length ≤ maxLen ∧ ∀ i, i < M.length → ∃ b o x, a = some ⟨b, o, none⟩ ∧ b < w.heap.size ∧ w.cell? ⟨b, o + i, none⟩ = some x ∧ Nums w x (M.getD i [])
theorem Mat.below {w w' : World} {v : Value} {M : List (List Int)} (h : Mat w v M) (k : Below w.heap.size w w') : Mat w' v M := by
  obtain ⟨a, cap, rfl, hl, hj⟩ := h
  refine ⟨a, cap, rfl, hl, fun j hj' => ?_⟩
  obtain ⟨b, o, x, rfl, hb, hx, hn⟩ := hj j hj'
  exact ⟨b, o, x, rfl, Nat.lt_of_lt_of_le hb k.size, by rw [k.cell (p := ⟨b, o + j, none⟩) hb]; exact hx, hn.below k⟩
theorem mat_nil (w : World) : Mat w (.slice none 0 0) [] := ⟨none, 0, rfl, by simp, fun k hk => by simp at hk⟩
/-- The first kk of a row of rows. -/
theorem mat_of {w w' : World} {g cap kk : Nat} {dk : Array (Elt w g)} {M : List (List Int)} (hH : ∀ j, j < kk → w'.cell? ⟨g, 0 + j, none⟩ = some (dk[j]!).val) (ho : OnlyG [g] w w') (hg : g < w.heap.size) (hk : kk ≤ dk.size) (hl : dk.size ≤ maxLen) (hM : pre dk kk = M) :
    M.length = kk ∧ Mat w' (.slice (some ⟨g, 0, none⟩) kk cap) M := by
  have hlen : M.length = kk := by rw [← hM]; simp [pre]; omega
  refine ⟨hlen, some ⟨g, 0, none⟩, cap, by rw [hlen], by omega, fun i hi => ?_⟩
  rw [hlen] at hi
  refine ⟨g, 0, (dk[i]!).val, rfl, Nat.lt_of_lt_of_le hg ho.size_le, hH i hi, ?_⟩
  have e : M.getD i [] = (dk[i]!).l := by
    rw [← hM, getElem!_pos dk i (by omega)]
    simp [pre, List.getD_eq_getElem?_getD, hi, show i < dk.size by omega]
  rw [e]
  exact (dk[i]!).at ho
theorem holds_set {w : World} {g : Nat} {wr : World} {dk : Array (Elt w g)} {kk : Nat} (x : Elt w g) (hH : Holds (fun x : Elt w g => x.val) wr g 0 dk) (hk : kk < dk.size) :
    Holds (fun x : Elt w g => x.val) (wr.setCell ⟨g, kk, none⟩ x.val) g 0 (dk.setIfInBounds kk x) := by
  intro j hj
  have hj' : j < dk.size := by simpa using hj
  refine ⟨?_, by rw [World.frozen?_setCell]; exact (hH j hj').2⟩
  by_cases e : j = kk
  · subst e
    rw [Go.Sort.getElem!_set_same _ _ _ hk, Nat.zero_add]
    exact World.cell?_setCell_same _ _ _ (by have := (hH j hj').1; simpa using this)
  · rw [Go.Sort.getElem!_set_other _ _ _ _ e, World.cell?_setCell_other]
    · exact (hH j hj').1
    · intro x; have := congrArg Addr.off x; simp at this; omega
theorem zeroS (w : World) : (zeroValue 47).run Tryd.prog w = .ok (.slice none 0 0) w := by kernel_rfl
theorem equal_q {w : World} {n : Nat} {v1 v2 : Value} {a b : List Int} (h1 : Nums w v1 a) (h2 : Nums w v2 b) {r : Bool} (hr : decide (a = b) = r) :
    Calls Tryd.prog 47 #[v1, v2] (w.drewN n) fun e w'' => e = .returned (.bool r) ∧ ∃ m, w'' = w.drewN m :=
  Calls.quiet_of (by subst hr; exact equal_any (w := w.drewN n) h1 h2)
theorem equal_qq {w : World} {q n : Nat} {v1 v2 : Value} {a b : List Int} (h1 : Nums w v1 a) (h2 : Nums w v2 b) {r : Bool} (hr : decide (a = b) = r) :
    Calls Tryd.prog 47 #[v1, v2] (w.drewN (q + n)) fun e w'' => e = .returned (.bool r) ∧ ∃ m, w'' = w.drewN (q + m) := by
  subst hr
  refine (equal_any (w := w.drewN (q + n)) h1 h2).mono ?_
  rintro e w'' ⟨rfl, m, rfl⟩
  exact ⟨rfl, n + m, by rw [World.drewN_drewN, Nat.add_assoc]⟩

theorem OnlyG.setCells {w : World} {g : Nat} : ∀ (l : List Value) (o : Nat) (wr : World), OnlyG [g] w wr → OnlyG [g] w (wr.setCells g o l)
  | [], _, _, h => h
  | v :: r, o, wr, h => OnlyG.setCells r (o + 1) _ (h.set (by simp) o v)

set_option maxHeartbeats 4000000 in
set_option maxRecDepth 100000 in
theorem compact_any {w : World} {g cap : Nat} (d : Array (Elt w g)) (hH : Holds (fun x : Elt w g => x.val) w g 0 d) (hg : g < w.heap.size) (hsz : d.size < 1000000000000) (hcap : d.size ≤ cap) :
    Calls Tryd.prog 46 #[.slice (some ⟨g, 0, none⟩) d.size cap, .func (.func 47) #[] #[]] w fun e w' =>
      ∃ v, e = .returned v ∧ Mat w' v (once (pre d d.size)) ∧ OnlyG [g] w w' := by
  have hml : d.size ≤ maxLen := by unfold maxLen; omega
  have same : ∀ q, once (pre d d.size) = pre d d.size → Mat (w.drewN q) (.slice (some ⟨g, 0, none⟩) d.size cap) (once (pre d d.size)) := fun q e => by
    have := (mat_of (w' := w.drewN q) (cap := cap) (kk := d.size) (M := pre d d.size) (fun j hj => (hH j hj).1) ((OnlyG.refl _ _).drewN q) hg (Nat.le_refl _) hml rfl).2
    rw [e]; exact this
  have HS := Lib.hid same
  have HML := Lib.hid hml
  clear same hml
  by_cases h2 : d.size < 2
  · have h2I : (d.size : Int) < 2 := by omega
    clear hH
    go_enter Tryd.func46, Tryd.ntmps46
    go_wp2_with fail
    go_ret
    refine ⟨_, rfl, HS.out 0 ?_, OnlyG.refl _ _⟩
    match hp : pre d d.size with
    | [] => rfl
    | [a] => rfl
    | a :: b :: r =>
      have := congrArg List.length hp
      simp [pre] at this
      omega
  · have h2I : decide ((d.size : Int) < 2) = false := by simp; omega
    have HH := Lib.hid hH
    clear hH
    go_enter Tryd.func46, Tryd.ntmps46
    go_wp2_with fail
    go_loopg [5] d.size (fun gg s5 wr => ∃ k q : Nat, 1 ≤ k ∧ k ≤ d.size ∧ d.size - k ≤ gg ∧ s5 = .int .i64 k ∧ wr = w.drewN q ∧ once (pre d k) = pre d k)
    case atStart => exact ⟨1, 0, Nat.le_refl _, by omega, by omega, rfl, rfl, by
      rw [pre_succ (m := 0) (by omega)]; rfl⟩
    case round =>
      obtain ⟨k, q, hk1, hk, hgg, rfl, rfl, hall⟩ := hrel
      have HALL := Lib.hid hall
      clear hall
      by_cases hlt : k < d.size
      · have hltI : (k : Int) < d.size := by omega
        have hk1I : (1 : Int) ≤ k := by omega
        have c1 : w.cell? ⟨g, 0 + k, none⟩ = some (d[k]!).val := (HH.out k hlt).1
        have c0 : w.cell? ⟨g, 0 + (k - 1), none⟩ = some (d[k - 1]!).val := (HH.out (k - 1) (by omega)).1
        rw [Nat.zero_add] at c0 c1
        have hn1 : Nums w (d[k]!).val (d[k]!).l := (d[k]!).nums
        have hn0 : Nums w (d[k - 1]!).val (d[k - 1]!).l := (d[k - 1]!).nums
        have HP := Lib.hid (once_pre hlt hk1)
        obtain ⟨x1, hx1⟩ : ∃ x, (d[k]!).val = x := ⟨_, rfl⟩
        obtain ⟨x0, hx0⟩ : ∃ x, (d[k - 1]!).val = x := ⟨_, rfl⟩
        rw [hx1] at c1 hn1
        rw [hx0] at c0 hn0
        have HN1 := Lib.hid hn1
        have HN0 := Lib.hid hn0
        clear hn1 hn0 hx1 hx0
        have k1 : (k : Int) - 1 = ((k - 1 : Nat) : Int) := by omega
        have k2 : IntKind.i64.wrap ((k - 1 : Nat) : Int) = ((k - 1 : Nat) : Int) := IntWalk.i64_in _ (by omega)
        have k3 : ((k - 1 : Nat) : Int) < d.size := by omega
        by_cases hdup : (d[k - 1]!).l = (d[k]!).l
        · have HD : Hid (decide ((d[k]!).l = (d[k - 1]!).l) = true) := by show _ = _; simp [hdup]
          have HDP := Lib.hid hdup
          clear hdup
          go_wp2_with fail
          go_quiet ((go_at_call 47; exact equal_qq HN1.out HN0.out HD.out))
          have HW : Hid (OnlyG [g] w ((w.drewN q).drewN nq)) := ((OnlyG.refl _ _).drewN q).drewN nq
          have HHW : Hid (Holds (fun x : Elt w g => x.val) ((w.drewN q).drewN nq) g 0 d) := HH.out
          have HCI : Hid (CI d (k + 1) k d) := ⟨rfl, by omega, fun _ _ _ => rfl, by rw [HP.out, if_pos HDP.out, HALL.out]⟩
          have hkI : (k : Int) ≤ d.size := by omega
          clear c0 c1 HN0 HN1 HD HP HALL k1 k2 k3
          generalize (w.drewN q).drewN nq = w0 at HW HHW ⊢
          go_wp2_with fail
          go_loopg [5, 7] d.size (fun gg s5 s7 wr => ∃ (kk k2 : Nat) (dk : Array (Elt w g)), s5 = .int .i64 kk ∧ s7 = .int .i64 k2 ∧ 1 ≤ k2 ∧ k + k2 ≤ d.size ∧ d.size - (k + k2) ≤ gg ∧ OnlyG [g] w wr ∧ Holds (fun x : Elt w g => x.val) wr g 0 dk ∧ CI d (k + k2) kk dk)
          case atStart => exact ⟨k, 1, d, rfl, rfl, Nat.le_refl _, by omega, by omega, HW.out, HHW.out, HCI.out⟩
          case round =>
            clear HW HHW HCI
            obtain ⟨kk, k2, dk, rfl, rfl, h1, hle, hg2, hW, hHk, hI⟩ := hrel
            have HW := Lib.hid hW
            have HHK := Lib.hid hHk
            have HI := Lib.hid hI
            have hkk := hI.lt
            have hds := hI.size
            clear hW hHk hI
            by_cases hlt2 : k + k2 < d.size
            · have cm : wr.cell? ⟨g, 0 + (k + k2), none⟩ = some (dk[k + k2]!).val := (HHK.out (k + k2) (by omega)).1
              have cp : wr.cell? ⟨g, 0 + (k + k2 - 1), none⟩ = some (dk[k + k2 - 1]!).val := (HHK.out (k + k2 - 1) (by omega)).1
              have ck : wr.cell? ⟨g, 0 + kk, none⟩ = some (dk[kk]!).val := (HHK.out kk (by omega)).1
              have fk : wr.frozen? ⟨g, 0 + kk, none⟩ = false := (HHK.out kk (by omega)).2
              rw [HI.out.high (k + k2) (by omega) (by omega), Nat.zero_add] at cm
              rw [HI.out.high (k + k2 - 1) (by omega) (by omega), Nat.zero_add, show k + k2 - 1 = k + (k2 - 1) by omega] at cp
              rw [Nat.zero_add] at ck fk
              have hn1 : Nums wr (d[k + k2]!).val (d[k + k2]!).l := (d[k + k2]!).at HW.out
              have hn0 : Nums wr (d[k + (k2 - 1)]!).val (d[k + (k2 - 1)]!).l := (d[k + (k2 - 1)]!).at HW.out
              obtain ⟨x1, hx1⟩ : ∃ x, (d[k + k2]!).val = x := ⟨_, rfl⟩
              obtain ⟨x0, hx0⟩ : ∃ x, (d[k + (k2 - 1)]!).val = x := ⟨_, rfl⟩
              obtain ⟨old, hold⟩ : ∃ x, (dk[kk]!).val = x := ⟨_, rfl⟩
              rw [hx1] at cm hn1
              rw [hx0] at cp hn0
              rw [hold] at ck
              have HX1 := Lib.hid hx1
              have HN1 := Lib.hid hn1
              have HN0 := Lib.hid hn0
              have HE0 : Hid (k + k2 - 1 = k + (k2 - 1)) := by show _ = _; omega
              clear hn1 hn0 hx1 hx0 hold
              have l1 : (k2 : Int) < ((d.size - k : Nat) : Int) := by omega
              have l2 : (k2 : Int) - 1 = ((k2 - 1 : Nat) : Int) := by omega
              have l3 : IntKind.i64.wrap ((k2 - 1 : Nat) : Int) = ((k2 - 1 : Nat) : Int) := IntWalk.i64_in _ (by omega)
              have l4 : ((k2 - 1 : Nat) : Int) < ((d.size - k : Nat) : Int) := by omega
              have l5 : (kk : Int) < d.size := by omega
              by_cases hs : (d[k + (k2 - 1)]!).l = (d[k + k2]!).l
              · have HD : Hid (decide ((d[k + k2]!).l = (d[k + (k2 - 1)]!).l) = true) := by show _ = _; simp [hs]
                have HSK : Hid (CI d (k + (k2 + 1)) kk dk) := HI.out.skip hlt2 (by omega) (by rw [HE0.out]; exact hs)
                clear hs
                go_wp2_with fail
                go_quiet ((go_at_call 47; exact equal_q HN1.out HN0.out HD.out))
                go_wp2_with fail
                go_roundg (d.size - (k + (k2 + 1)))
                case measure => omega
                case rel => exact ⟨kk, k2 + 1, dk, rfl, by go_num, by omega, by omega, Nat.le_refl _, HW.out.drewN nq, HHK.out, HSK.out⟩
              · have HD : Hid (decide ((d[k + k2]!).l = (d[k + (k2 - 1)]!).l) = false) := by
                  show _ = _
                  simp only [decide_eq_false_iff_not]
                  exact fun e => hs e.symm
                have HSK : Hid (CI d (k + (k2 + 1)) (kk + 1) (dk.setIfInBounds kk d[k + k2]!)) := HI.out.put hlt2 (by omega) (by rw [HE0.out]; exact hs)
                clear hs
                go_wp2_with fail
                go_quiet ((go_at_call 47; exact equal_q HN1.out HN0.out HD.out))
                obtain ⟨aa, cc, rfl, -⟩ := HN1.out
                generalize (d[k + k2]!).l.length = ll at *
                go_wp2_with fail
                go_roundg (d.size - (k + (k2 + 1)))
                case measure => omega
                case rel => exact ⟨kk + 1, k2 + 1, _, by go_num, by go_num, by omega, by omega, Nat.le_refl _, (HW.out.drewN nq).set (by simp) kk _, by have := holds_set (wr := wr.drewN nq) (d[k + k2]!) HHK.out (show kk < dk.size by omega); rw [HX1.out] at this; exact this, HSK.out⟩
            · have hend : k + k2 = d.size := by omega
              have hcl : ∀ ty, (Builtin.clear_ #[26] ty #[.slice (some ⟨g, kk, none⟩) (d.size - kk) (cap - kk)]).run Tryd.prog wr = .ok (.tuple #[]) (wr.setCells g kk (List.replicate (d.size - kk) (.slice none 0 0))) :=
                fun ty => Lib.run_clear_slice wr _ _ ty _ Tryd.underlying26 zeroS rfl rfl g kk _ _ (by omega) (fun j hj => by have := (HHK.out (kk + j) (by omega)).1; rw [Nat.zero_add] at this; rw [this]; rfl) (fun j hj => by have := (HHK.out (kk + j) (by omega)).2; rw [Nat.zero_add] at this; exact this)
              have l1 : decide ((k2 : Int) < ((d.size - k : Nat) : Int)) = false := by simp; omega
              have l2 : (kk : Int) ≤ d.size := by omega
              have l3 : (kk : Int) ≤ cap := by omega
              go_wp2_with fail
              go_ret
              have hI := HI.out
              rw [hend] at hI
              have ho := OnlyG.setCells (List.replicate (d.size - kk) (.slice none 0 0)) kk _ HW.out
              have hm := mat_of (w' := wr.setCells g kk (List.replicate (d.size - kk) (.slice none 0 0))) (cap := cap) (kk := kk) (fun j hj => by
                rw [World.cell?_setCells_out]
                · exact (HHK.out j (by omega)).1
                · intro _ _; left; simp; omega) ho hg (by omega) (by rw [hds]; exact HML.out) hI.low
              exact ⟨_, rfl, hm.2, ho⟩
        · have HD : Hid (decide ((d[k]!).l = (d[k - 1]!).l) = false) := by
            show _ = _
            simp only [decide_eq_false_iff_not]
            exact fun e => hdup e.symm
          have HNX : Hid (once (pre d (k + 1)) = pre d (k + 1)) := by show _ = _; rw [HP.out, if_neg hdup, HALL.out, ← pre_succ hlt]
          clear hdup
          go_wp2_with fail
          go_quiet ((go_at_call 47; exact equal_qq HN1.out HN0.out HD.out))
          go_wp2_with fail
          go_roundg (d.size - (k + 1))
          case measure => omega
          case rel => exact ⟨k + 1, q + nq, by omega, by omega, Nat.le_refl _, by go_num, rfl, HNX.out⟩
      · obtain rfl : k = d.size := by omega
        go_wp2_with fail
        go_ret
        exact ⟨_, rfl, HS.out q HALL.out, (OnlyG.refl _ _).drewN q⟩
end Go.Proofs.YtimbdjmplcgilaaDoor.SortFn
namespace Go.Proofs.YtimbdjmplcgilaaDoor.SortFn
open Go.RowKit Pr
open Bfs (cmpL ltL once)
open Go.Sort (Holds)
set_option linter.unusedVariables false

theorem once_len : ∀ l : List (List Int), (once l).length ≤ l.length
  | [] => Nat.le_refl _
  | [a] => Nat.le_refl _
  | a :: b :: r => by
    unfold once
    have := once_len (b :: r)
    split
    · simp only [List.length_cons] at this ⊢; omega
    · simp only [List.length_cons] at this ⊢; omega
/-- A row stays where only what is in S is turned. -/
theorem Nums.only {w w' : World} {S : List Nat} {v : Value} {l : List Int} (h : Nums w v l) (hne : ∀ b, v.ownBlock = some b → b ∉ S) (k : OnlyG S w w') : Nums w' v l := by
  obtain ⟨a, cap, rfl, hl, hj⟩ := h
  refine ⟨a, cap, rfl, hl, fun j hj' => ?_⟩
  obtain ⟨b, o, rfl, hb, hx⟩ := hj j hj'
  refine ⟨b, o, rfl, ⟨Nat.lt_of_lt_of_le hb.1 k.size_le, hb.2⟩, ?_⟩
  rw [World.cell?_of_block (w := w) (k.block b hb.1 (hne b rfl))]
  exact hx
/-- A row of rows in new memory, from block base on; its rows lie elsewhere than in it and in S. -/
structure OutAt (w : World) (base : Nat) (S : List Nat) (v : Value) (R : List (List Int)) (vals : List Value) : Prop where
  own : w.ownsRow base 47 1 v R.length vals
  len : vals.length = R.length
  out : ∀ b, v.ownBlock = some b → b ∉ S
  row : ∀ (j : Nat) (x : Value) (l : List Int), vals[j]? = some x → R[j]? = some l → Nums w x l ∧ ∀ b, x.ownBlock = some b → b ∉ S ∧ v.ownBlock ≠ some b ∧ b < w.heap.size
theorem OutAt.nil (w : World) (base : Nat) (S : List Nat) : OutAt w base S (.slice none 0 0) [] [] :=
  ⟨World.ownsRow_nil w base _ _, rfl, fun b h => by simp [Value.ownBlock] at h, fun j x l h => by simp at h⟩
theorem OutAt.add {w w' : World} {base Q B g g' : Nat} {v : Value} {R : List (List Int)} {vals : List Value} (h : OutAt w base [Q, B, g] v R vals) (k : OnlyG [Q, B, g] w w') (hg : g' = g ∨ w.heap.size ≤ g') : OutAt w' base [Q, B, g'] v R vals := by
  obtain ⟨⟨h1, ho⟩, hlen, hout, hrow⟩ := h
  have lt := World.ownsRow.lt ⟨h1, ho⟩
  refine ⟨⟨h1, ?_⟩, hlen, fun b hb => ?_, fun j x l hx hl => ?_⟩
  · rcases ho with ⟨e, e2⟩ | ⟨g0, cap, cur, e, h2, h3, r⟩
    · exact .inl ⟨e, e2⟩
    · refine .inr ⟨g0, cap, cur, e, h2, ?_, r⟩
      subst e
      rw [k.block g0 (lt g0 rfl).2 (hout g0 rfl)]; exact h3
  · have := hout b hb
    have := (lt b hb).2
    simp at *; omega
  · obtain ⟨a1, a2⟩ := hrow j x l hx hl
    refine ⟨Nums.only a1 (fun b hb => (a2 b hb).1) k, fun b hb => ?_⟩
    obtain ⟨b1, b2, b3⟩ := a2 b hb
    refine ⟨?_, b2, Nat.lt_of_lt_of_le b3 k.size_le⟩
    simp at *; omega
theorem OutAt.only {w w' : World} {base Q B g : Nat} {v : Value} {R : List (List Int)} {vals : List Value} (h : OutAt w base [Q, B, g] v R vals) (k : OnlyG [Q, B, g] w w') : OutAt w' base [Q, B, g] v R vals := h.add k (.inl rfl)
theorem onlyG_of {s : List Nat} {w w' : World} (h : Below w.heap.size w w') : OnlyG s w w' := ⟨h.os, h.tape, h.output, h.size, fun k h0 _ => h.block k h0⟩
theorem OutAt.below {w w' : World} {base Q B g : Nat} {v : Value} {R : List (List Int)} {vals : List Value} (h : OutAt w base [Q, B, g] v R vals) (k : Below w.heap.size w w') : OutAt w' base [Q, B, g] v R vals := h.only (onlyG_of k)
theorem OutAt.push {w w1 : World} {base n bx : Nat} {S : List Nat} {v v' x : Value} {R : List (List Int)} {l : List Int} {vals cs : List Value} {T : TypeId} (h : OutAt w base S v R vals) (hS : ∀ b ∈ S, b < w.heap.size)
    (hx : Nums w x l) (hb : x.ownBlock = some bx) (hbS : bx ∉ S) (hbv : v.ownBlock ≠ some bx) (hbl : bx < w.heap.size)
    (hown : w1.ownsRow base 47 1 v' n cs) (hg : (w.alloc (.cells #[x] T)).grownBy w1 v.ownBlock) (hat : v'.ownBlock = v.ownBlock ∨ v'.ownBlock = some (w.alloc (.cells #[x] T)).heap.size) (hn : n = R.length + 1) (hc : cs = vals ++ [x]) :
    OutAt w1 base S v' (R ++ [l]) (vals ++ [x]) := by
  subst hn hc
  have hsz : (w.alloc (.cells #[x] T)).heap.size = w.heap.size + 1 := by simp
  have key : ∀ b, b < w.heap.size → v.ownBlock ≠ some b → w1.heap[b]? = w.heap[b]? := fun b h1 h2 => by
    rw [hg.block b (by omega) (fun e => h2 e.symm)]
    exact Below.heap_alloc _ _ _ h1
  have hsz1 : w.heap.size ≤ w1.heap.size := by have := hg.size; omega
  have nb : ∀ y m, Nums w y m → (∀ b, y.ownBlock = some b → v.ownBlock ≠ some b) → Nums w1 y m := by
    intro y m hy hne
    obtain ⟨a, cap, rfl, hl, hj⟩ := hy
    refine ⟨a, cap, rfl, hl, fun j hj' => ?_⟩
    obtain ⟨b, o, rfl, hb, hx⟩ := hj j hj'
    refine ⟨b, o, rfl, ⟨Nat.lt_of_lt_of_le hb.1 hsz1, hb.2⟩, ?_⟩
    rw [World.cell?_of_block (w := w) (key b hb.1 (hne b rfl))]
    exact hx
  refine ⟨by simpa using hown, by simp [h.len], fun b hb' => ?_, fun j y m hy hm => ?_⟩
  · rcases hat with e | e
    · exact h.out b (by rw [← e]; exact hb')
    · intro hm
      have := hS b hm
      rw [e] at hb'
      simp at hb'; omega
  · have hv : ∀ b, b < w.heap.size → v.ownBlock ≠ some b → v'.ownBlock ≠ some b := fun b h1 h2 e => by
      rcases hat with e2 | e2
      · exact h2 (by rw [← e2]; exact e)
      · rw [e2] at e; simp at e; omega
    by_cases hj : j < R.length
    · rw [List.getElem?_append_left (by rw [h.len]; exact hj)] at hy
      rw [List.getElem?_append_left hj] at hm
      obtain ⟨a1, a2⟩ := h.row j y m hy hm
      refine ⟨nb y m a1 (fun b hb => (a2 b hb).2.1), fun b hb => ?_⟩
      obtain ⟨b1, b2, b3⟩ := a2 b hb
      exact ⟨b1, hv b b3 b2, by omega⟩
    · have hj' : j = R.length := by
        have := (List.getElem?_eq_some_iff.1 hm).1
        simp at this; omega
      subst hj'
      rw [List.getElem?_append_right (by rw [h.len]; exact Nat.le_refl _), h.len] at hy
      rw [List.getElem?_append_right (Nat.le_refl _)] at hm
      simp at hy hm
      subst hy hm
      refine ⟨nb _ _ hx (fun b hb' => by rw [hb] at hb'; cases hb'; exact hbv), fun b hb' => ?_⟩
      rw [hb] at hb'
      cases hb'
      exact ⟨hbS, hv bx hbl hbv, by omega⟩
theorem elts {w : World} {g : Nat} : ∀ (vals : List Value) (R : List (List Int)), vals.length = R.length → (∀ (j : Nat) (x : Value) (l : List Int), vals[j]? = some x → R[j]? = some l → Nums w x l ∧ ∀ b, x.ownBlock = some b → b ≠ g) →
    ∃ es : List (Elt w g), es.map Elt.val = vals ∧ es.map Elt.l = R
  | [], [], _, _ => ⟨[], rfl, rfl⟩
  | x :: vs, l :: R, hl, h => by
    obtain ⟨es, e1, e2⟩ := elts vs R (by simpa using hl) (fun j y m hy hm => h (j + 1) y m (by simpa using hy) (by simpa using hm))
    obtain ⟨a, b⟩ := h 0 x l rfl rfl
    exact ⟨⟨x, l, a, b⟩ :: es, by simp [e1], by simp [e2]⟩
  | [], _ :: _, hl, _ => by simp at hl
  | _ :: _, [], hl, _ => by simp at hl
def Elt.to {w w' : World} {g : Nat} (k : OnlyG [g] w w') (x : Elt w g) : Elt w' g := ⟨x.val, x.l, x.at k, x.ne⟩
theorem holds_to {w w' : World} {g : Nat} (k : OnlyG [g] w w') {ys : Array (Elt w g)} (h : Holds (fun x : Elt w g => x.val) w' g 0 ys) : Holds (fun x : Elt w' g => x.val) w' g 0 (ys.map (Elt.to k)) := by
  intro j hj
  have hj' : j < ys.size := by simpa using hj
  have := h j hj'
  rw [getElem!_pos ys j hj'] at this
  rw [getElem!_pos (ys.map (Elt.to k)) j hj]
  simpa [Elt.to] using this
theorem pre_all {w : World} {g : Nat} (d : Array (Elt w g)) : pre d d.size = d.toList.map Elt.l := by
  unfold pre; rw [List.take_of_length_le (by simp)]

set_option maxHeartbeats 2000000 in
set_option maxRecDepth 100000 in
theorem sorted_any {w : World} {base : Nat} {S : List Nat} {v : Value} {R : List (List Int)} {vals : List Value} (h : OutAt w base S v R vals) (h0 : R.length ≠ 0) (hl : R.length < 1000000000000) (hb : base ≤ w.heap.size) :
    Calls Tryd.prog 30 #[v] w fun e w' => ∃ x M, e = .returned x ∧ Mat w' x M ∧ Bfs.Rise M ∧ (∀ y, y ∈ M ↔ y ∈ R) ∧ M.length ≤ R.length ∧ Below base w w' := by
  obtain ⟨g, cap, cur, rfl, hbg, hblk, hcap, hcs, htk⟩ := own_slice h.own h0
  obtain ⟨es, he1, he2⟩ := elts (w := w) (g := g) vals R h.len (fun j x l hx hr => ⟨(h.row j x l hx hr).1, fun b hb e => ((h.row j x l hx hr).2 b hb).2.1 (by simp [Value.ownBlock, e])⟩)
  have hlen : es.length = R.length := by rw [← he2]; simp
  have hH : Holds (fun x : Elt w g => x.val) w g 0 es.toArray := by
    intro j hj
    have hj' : j < es.length := by simpa using hj
    refine ⟨?_, hblk.free _⟩
    have e1 : (cur.toList.take (R.length * 1))[j]? = some (es[j].val) := by rw [htk, ← he1]; simp [hj']
    rw [List.getElem?_take_of_lt (by omega)] at e1
    rw [hblk.cell, getElem!_pos es.toArray j hj]
    simpa using e1
  have hg := hblk.lt
  have HH := Lib.hid hH
  have HE2 := Lib.hid he2
  have HLN := Lib.hid hlen
  rw [← hlen] at hl hcap ⊢
  have esz : es.length = es.toArray.size := by simp
  clear h hblk hcs htk he1 he2 hH hlen h0
  generalize hes : es.toArray = xs at HH esz
  have HX := Lib.hid hes
  rw [esz] at hl hcap ⊢
  clear hes
  go_enter Tryd.func30, Tryd.ntmps30
  go_wp2_with fail
  refine (sort_any (cap := cap) xs HH.out hg (by omega)).mono ?_
  rintro e w1 ⟨rfl, ys, hs, hp, hso, hY, ho⟩
  have HP := Lib.hid hp
  have HSO := Lib.hid hso
  have HO := Lib.hid ho
  have HHY := Lib.hid (holds_to ho hY)
  have hsd : (ys.map (Elt.to ho)).size = xs.size := by simpa using hs
  have HPR : Hid (pre (ys.map (Elt.to ho)) (ys.map (Elt.to ho)).size = ys.toList.map Elt.l) := by
    show _ = _
    rw [pre_all]; simp [Elt.to, Function.comp_def]
  clear hp hso hY hs
  generalize ys.map (Elt.to ho) = d at HHY hsd HPR
  rw [← hsd] at hl hcap ⊢
  have hg1 : g < w1.heap.size := Nat.lt_of_lt_of_le hg ho.size_le
  have hsx : xs.size = d.size := hsd.symm
  clear ho hsd
  go_wp2_with fail
  refine (compact_any (cap := cap) d HHY.out hg1 hl hcap).mono ?_
  rintro e w2 ⟨x, rfl, hM, ho2⟩
  have HM := Lib.hid hM
  have HO2 := Lib.hid ho2
  clear hM ho2
  go_wp2_with fail
  go_ret
  have hM := HM.out
  rw [HPR.out] at hM
  have hperm : ∀ y, y ∈ ys.toList.map Elt.l ↔ y ∈ R := fun y => by
    rw [← HE2.out]
    have := (HP.out.map Elt.l).mem_iff (a := y)
    rw [← HX.out] at this
    simpa using this
  have hb1 : Below base w w1 := HO.out.below (by simpa using hbg) hb
  refine ⟨_, _, rfl, hM, Bfs.once_rise HSO.out, fun y => by rw [Bfs.mem_once]; exact hperm y, ?_, hb1.trans (HO2.out.below (by simpa using hbg) (Nat.le_trans hb hb1.size))⟩
  have h1 := HP.out.length_eq
  have h2 := once_len (ys.toList.map Elt.l)
  simp only [List.length_map, Array.length_toList] at h1 h2
  omega
end Go.Proofs.YtimbdjmplcgilaaDoor.SortFn
