import Derived.Test.YtgkfgijmccojjaaDoorKit
namespace Go.Proofs.YtgkfgijmccojjaaDoor.Filter
set_option linter.unusedVariables false

/-- The lock of n hands. wd: the words: L of each hand, V of each door; ln, dr, kk: of each hand its line, its door, and whom it looks at. -/
structure St where
  wd : Nat → Int
  ln : Nat → Int
  dr : Nat → Int
  kk : Nat → Int

def first (_ : Nat) : St := { wd := fun _ => 0, ln := fun _ => 1, dr := fun _ => 1, kk := fun _ => 0 }

/-- Where V of a door lies. -/
def vx (n : Nat) (d : Int) : Nat := (min ((n : Int) + d - 1) (2 * n - 1)).toNat
/-- Through the door. -/
def pass (n : Nat) (s : St) (p : Nat) : St :=
  { s with ln := upd s.ln p (if s.dr p + 1 ≥ n then 5 else 1), kk := upd s.kk p 0, dr := upd s.dr p (s.dr p + 1) }

def stepN (n : Nat) (s : St) (p : Nat) : St :=
  if s.ln p = 1 then { s with wd := upd s.wd p (s.dr p), ln := upd s.ln p 2 }
  else if s.ln p = 2 then { s with wd := upd s.wd (vx n (s.dr p)) (p + 1), ln := upd s.ln p 3 }
  else if s.ln p = 3 then (if s.wd (vx n (s.dr p)) = p + 1 then { s with ln := upd s.ln p 4 } else pass n s p)
  else if s.ln p = 4 then
    (if s.kk p ≠ p ∧ s.dr p ≤ s.wd (s.kk p).toNat then { s with ln := upd s.ln p 3, kk := upd s.kk p 0 }
     else if s.kk p + 1 = n then pass n s p
     else { s with kk := upd s.kk p (s.kk p + 1) })
  else if s.ln p = 5 then { s with ln := upd s.ln p 6 }
  else { s with wd := upd s.wd p 0, ln := upd s.ln p 1, dr := upd s.dr p 1, kk := upd s.kk p 0 }

def step (n : Nat) (s : St) (p : Int) : St := if 0 ≤ p ∧ p < n then stepN n s p.toNat else s
def line (n : Nat) (s : St) (p : Int) : Int := if 0 ≤ p ∧ p < n then s.ln p.toNat else 0
def isIn (n : Nat) (s : St) (j : Nat) : Bool := line n s j == 5

/-- At a door, behind line 2. -/
def At (s : St) (j : Int) (h : Nat) : Prop := s.dr h = j ∧ (s.ln h = 3 ∨ s.ln h = 4)
/-- Who wrote last at the door is there. -/
def Guard (n : Nat) (s : St) (j : Int) : Prop := ∃ v : Nat, v < n ∧ s.wd (vx n j) = v + 1 ∧ At s j v

structure Inv (n : Nat) (s : St) : Prop where
  ln : ∀ h, h < n → 1 ≤ s.ln h ∧ s.ln h ≤ 6
  dr : ∀ h, h < n → 1 ≤ s.dr h ∧ (s.ln h ≤ 4 → s.dr h < n ∨ s.dr h = 1) ∧ (5 ≤ s.ln h → s.dr h = max n 2)
  kk : ∀ h, h < n → 0 ≤ s.kk h ∧ s.kk h < n ∧ (s.ln h ≠ 4 → s.kk h = 0)
  wl : ∀ h, h < n → s.wd h = if s.ln h = 1 ∨ 5 ≤ s.ln h then s.dr h - 1 else s.dr h
  look : ∀ (j : Int) (v q : Nat), 1 ≤ j → j < n → v < n → q < n → s.ln v = 4 → s.dr v = j → s.wd (vx n j) = v + 1 → q < s.kk v → q ≠ v → s.dr q < j ∨ (s.dr q = j ∧ s.ln q ≤ 2)
  some : ∀ (j : Int) (v : Nat), 1 ≤ j → j < n → v < n → At s j v → Guard n s j
  two : ∀ (j : Int) (a b : Nat), 1 ≤ j → j < n → a < n → b < n → a ≠ b → j < s.dr a → j < s.dr b → Guard n s j

/-- What every state that a script reaches is. -/
def Reach (n _k : Nat) (s : St) : Prop := 1 ≤ n ∧ n ≤ 4 ∧ Inv n s

theorem Reach.first (n : Nat) (h1 : 1 ≤ n) (h4 : n ≤ 4) : Reach n 0 (Filter.first n) := by
  refine ⟨h1, h4, ?_⟩
  refine { ln := fun h _ => ⟨by simp [Filter.first], by simp [Filter.first]⟩, dr := fun h _ => ⟨by simp [Filter.first], fun _ => .inr rfl, fun x => ?_⟩, kk := fun h _ => ⟨by simp [Filter.first], by simp [Filter.first]; omega, fun _ => rfl⟩, wl := fun h _ => by simp [Filter.first], look := fun j v q _ _ _ _ x => ?_, some := fun j v _ _ _ x => ?_, two := fun j a b h1 _ _ _ _ x => ?_ }
  · simp [Filter.first] at x
  · simp [Filter.first] at x
  · simp [Filter.first, At] at x
  · simp [Filter.first] at x; omega

theorem vx_in {n : Nat} {d : Int} (_ : 1 ≤ d) (_ : d < n ∨ d = 1) (_ : 1 ≤ n) : n ≤ vx n d ∧ vx n d < 2 * n := by
  unfold vx; omega
theorem vx_inj {n : Nat} {d e : Int} (h1 : 1 ≤ d) (hd : d < n) (g1 : 1 ≤ e) (ge : e < n) (h : vx n d = vx n e) : d = e := by
  unfold vx at h; omega

theorem Guard.keep {n : Nat} {s t : St} {j : Int} (h : Guard n s j) (hv : t.wd (vx n j) = s.wd (vx n j)) (ha : ∀ v, v < n → s.wd (vx n j) = v + 1 → At s j v → At t j v) : Guard n t j := by
  obtain ⟨v, h1, h2, h3⟩ := h
  exact ⟨v, h1, hv.trans h2, ha v h1 h2 h3⟩

/-- Whom p found below its door. -/
theorem Inv.low {n : Nat} {s : St} (h : Inv n s) {p q : Nat} (e1 : ¬ (s.kk p ≠ p ∧ s.dr p ≤ s.wd (s.kk p).toNat)) (hq : q < n) (hqp : q ≠ p) (hk : s.kk p = q) (hdn : s.dr p < n) : s.dr q < s.dr p ∨ (s.dr q = s.dr p ∧ s.ln q ≤ 2) := by
  rw [hk] at e1
  have hwq := h.wl q hq
  have hdq := h.dr q hq
  have hlq := h.ln q hq
  have e2 : ¬ s.dr p ≤ s.wd q := fun x => e1 ⟨by omega, x⟩
  by_cases c : s.ln q = 1 ∨ 5 ≤ s.ln q
  · rw [if_pos c] at hwq; omega
  · rw [if_neg c] at hwq; omega
/-- Hand p stays at its door, behind line 2. -/
theorem Inv.stay {n : Nat} {s : St} (h : Inv n s) {p : Nat} {ln kk : Nat → Int} (hp : p < n) (hl : s.ln p = 3 ∨ s.ln p = 4) (hl' : ln p = 3 ∨ ln p = 4)
    (ho : ∀ g, g ≠ p → ln g = s.ln g ∧ kk g = s.kk g) (hk : 0 ≤ kk p ∧ kk p < n) (h0 : ln p ≠ 4 → kk p = 0)
    (hlook : ∀ q : Nat, q < n → q < kk p → 1 ≤ s.dr p → s.dr p < n → s.wd (vx n (s.dr p)) = p + 1 → q ≠ p → s.dr q < s.dr p ∨ (s.dr q = s.dr p ∧ s.ln q ≤ 2)) : Inv n { s with ln := ln, kk := kk } := by
  have hd := h.dr p hp
  have hw := h.wl p hp
  have keep : ∀ (j : Int) (g : Nat), At s j g → At { s with ln := ln, kk := kk } j g := fun j g x => by
    by_cases c : g = p
    · subst c; exact ⟨x.1, hl'⟩
    · exact ⟨x.1, by show ln g = 3 ∨ ln g = 4; rw [(ho g c).1]; exact x.2⟩
  exact {
    ln := fun g hg => by
      by_cases c : g = p
      · subst c; show 1 ≤ ln g ∧ ln g ≤ 6; omega
      · show 1 ≤ ln g ∧ ln g ≤ 6; rw [(ho g c).1]; exact h.ln g hg
    dr := fun g hg => by
      show 1 ≤ s.dr g ∧ (ln g ≤ 4 → s.dr g < n ∨ s.dr g = 1) ∧ (5 ≤ ln g → s.dr g = max n 2)
      by_cases c : g = p
      · subst c; refine ⟨hd.1, fun _ => hd.2.1 (by omega), fun x => by omega⟩
      · rw [(ho g c).1]; exact h.dr g hg
    kk := fun g hg => by
      show 0 ≤ kk g ∧ kk g < n ∧ (ln g ≠ 4 → kk g = 0)
      by_cases c : g = p
      · subst c; exact ⟨hk.1, hk.2, h0⟩
      · rw [(ho g c).1, (ho g c).2]; exact h.kk g hg
    wl := fun g hg => by
      show s.wd g = if ln g = 1 ∨ 5 ≤ ln g then s.dr g - 1 else s.dr g
      by_cases c : g = p
      · subst c; rw [hw, if_neg (by omega), if_neg (by omega)]
      · rw [(ho g c).1]; exact h.wl g hg
    look := fun j v q h1 h2 hv hq e4 ej ew hlt hne => by
      show s.dr q < j ∨ (s.dr q = j ∧ ln q ≤ 2)
      have key : s.dr q < j ∨ (s.dr q = j ∧ s.ln q ≤ 2) := by
        by_cases c : v = p
        · subst c; subst ej; exact hlook q hq hlt h1 h2 ew hne
        · have := ho v c
          exact h.look j v q h1 h2 hv hq (this.1.symm.trans e4) ej ew (by rw [← this.2]; exact hlt) hne
      by_cases d : q = p
      · subst d; omega
      · rw [(ho q d).1]; exact key
    some := fun j v h1 h2 hv ha => by
      have ha' : At s j v := by
        by_cases c : v = p
        · subst c; exact ⟨ha.1, hl⟩
        · exact ⟨ha.1, by have x : ln v = 3 ∨ ln v = 4 := ha.2; rw [(ho v c).1] at x; exact x⟩
      exact (h.some j v h1 h2 hv ha').keep rfl (fun g _ _ x => keep j g x)
    two := fun j a b h1 h2 ha hb hab hja hjb => (h.two j a b h1 h2 ha hb hab hja hjb).keep rfl (fun g _ _ x => keep j g x) }
/-- Hand p, behind all doors, goes on. -/
theorem Inv.out {n : Nat} {s : St} (h : Inv n s) (hn : 1 ≤ n) {p : Nat} {wd ln dr kk : Nat → Int} (hp : p < n) (hl : 5 ≤ s.ln p) (hV : ∀ j : Int, 1 ≤ j → j < n → wd (vx n j) = s.wd (vx n j))
    (ho : ∀ g, g ≠ p → wd g = s.wd g ∧ ln g = s.ln g ∧ dr g = s.dr g ∧ kk g = s.kk g)
    (hc : (ln p = 6 ∧ wd p = s.wd p ∧ dr p = s.dr p ∧ kk p = s.kk p) ∨ (ln p = 1 ∧ wd p = 0 ∧ dr p = 1 ∧ kk p = 0)) : Inv n { wd := wd, ln := ln, dr := dr, kk := kk } := by
  have hd := h.dr p hp
  have hk := h.kk p hp
  have hw := h.wl p hp
  have hll := h.ln p hp
  have keep : ∀ (j : Int) (g : Nat), At s j g → At { wd := wd, ln := ln, dr := dr, kk := kk } j g := fun j g x => by
    have c : g ≠ p := fun c => by subst c; have := x.2; omega
    obtain ⟨-, o2, o3, -⟩ := ho g c
    exact ⟨by show dr g = j; rw [o3]; exact x.1, by show ln g = 3 ∨ ln g = 4; rw [o2]; exact x.2⟩
  exact {
    ln := fun g hg => by
      show 1 ≤ ln g ∧ ln g ≤ 6
      by_cases c : g = p
      · subst c; omega
      · rw [(ho g c).2.1]; exact h.ln g hg
    dr := fun g hg => by
      show 1 ≤ dr g ∧ (ln g ≤ 4 → dr g < n ∨ dr g = 1) ∧ (5 ≤ ln g → dr g = max n 2)
      by_cases c : g = p
      · subst c; omega
      · rw [(ho g c).2.1, (ho g c).2.2.1]; exact h.dr g hg
    kk := fun g hg => by
      show 0 ≤ kk g ∧ kk g < n ∧ (ln g ≠ 4 → kk g = 0)
      by_cases c : g = p
      · subst c; omega
      · rw [(ho g c).2.1, (ho g c).2.2.2]; exact h.kk g hg
    wl := fun g hg => by
      show wd g = if ln g = 1 ∨ 5 ≤ ln g then dr g - 1 else dr g
      by_cases c : g = p
      · subst c; rw [if_pos (by omega)]; rw [if_pos (by omega)] at hw; omega
      · rw [(ho g c).1, (ho g c).2.1, (ho g c).2.2.1]; exact h.wl g hg
    look := fun j v q h1 h2 hv hq e4 ej ew hlt hne => by
      show dr q < j ∨ (dr q = j ∧ ln q ≤ 2)
      have c : v ≠ p := fun c => by subst c; have x : ln v = 4 := e4; omega
      obtain ⟨-, o2, o3, o4⟩ := ho v c
      have key := h.look j v q h1 h2 hv hq (o2.symm.trans e4) (o3.symm.trans ej) ((hV j h1 h2).symm.trans ew) (by rw [← o4]; exact hlt) hne
      by_cases d : q = p
      · subst d; omega
      · rw [(ho q d).2.1, (ho q d).2.2.1]; exact key
    some := fun j v h1 h2 hv ha => by
      have c : v ≠ p := fun c => by subst c; have x : ln v = 3 ∨ ln v = 4 := ha.2; omega
      obtain ⟨-, o2, o3, o4⟩ := ho v c
      have ha' : At s j v := ⟨o3.symm.trans ha.1, by have x : ln v = 3 ∨ ln v = 4 := ha.2; rw [o2] at x; exact x⟩
      exact (h.some j v h1 h2 hv ha').keep (hV j h1 h2) (fun g _ _ x => keep j g x)
    two := fun j a b h1 h2 ha hb hab hja hjb => by
      have x : j < dr a := hja
      have y : j < dr b := hjb
      have key : ∀ a, a < n → j < dr a → j < s.dr a := fun a ha x => by
        by_cases c : a = p
        · subst c; omega
        · rw [(ho a c).2.2.1] at x; exact x
      exact (h.two j a b h1 h2 ha hb hab (key a ha x) (key b hb y)).keep (hV j h1 h2) (fun g _ _ x => keep j g x) }

theorem Inv.through {n : Nat} {s : St} (h : Inv n s) (hn : 1 ≤ n) {p : Nat} (hp : p < n) (hl : s.ln p = 3 ∨ s.ln p = 4)
    (hc : s.dr p < n → s.wd (vx n (s.dr p)) = p + 1 → ∀ q, q < n → q ≠ p → s.dr q < s.dr p ∨ (s.dr q = s.dr p ∧ s.ln q ≤ 2)) : Inv n (pass n s p) := by
  have hd := h.dr p hp
  have hk := h.kk p hp
  have hw := h.wl p hp
  have hln : (pass n s p).ln p = if s.dr p + 1 ≥ n then 5 else 1 := upd_same _ _ _
  have hdr : (pass n s p).dr p = s.dr p + 1 := upd_same _ _ _
  have hlo : ∀ g, g ≠ p → (pass n s p).ln g = s.ln g := fun g c => upd_other c
  have hdo : ∀ g, g ≠ p → (pass n s p).dr g = s.dr g := fun g c => upd_other c
  have hl15 : (pass n s p).ln p = 1 ∨ (pass n s p).ln p = 5 := by rw [hln]; split <;> simp
  have hko : ∀ g, g ≠ p → (pass n s p).kk g = s.kk g := fun g c => upd_other c
  have keep : ∀ j g, g ≠ p → At s j g → At (pass n s p) j g := fun j g c x => by unfold At; rw [hlo g c, hdo g c]; exact x
  have back : ∀ j g, At (pass n s p) j g → g ≠ p ∧ At s j g := by
    intro j g x
    have c : g ≠ p := fun c => by subst c; have := x.2; omega
    unfold At at x; rw [hlo g c, hdo g c] at x; exact ⟨c, x⟩
  exact {
    ln := fun g hg => by
      by_cases c : g = p
      · subst c; omega
      · rw [hlo g c]; exact h.ln g hg
    dr := fun g hg => by
      by_cases c : g = p
      · subst c; rw [hdr, hln]; refine ⟨by omega, ?_, ?_⟩ <;> split <;> omega
      · rw [hlo g c, hdo g c]; exact h.dr g hg
    kk := fun g hg => by
      by_cases c : g = p
      · subst c; refine ⟨?_, ?_, fun _ => ?_⟩ <;> simp only [pass, upd_same] <;> omega
      · rw [hlo g c, hko g c]; exact h.kk g hg
    wl := fun g hg => by
      show s.wd g = _
      by_cases c : g = p
      · subst c; rw [if_pos (by omega), hdr, hw, if_neg (by omega)]; omega
      · rw [hlo g c, hdo g c]; exact h.wl g hg
    look := fun j v q h1 h2 hv hq e4 ej ew hlt hne => by
      have c : v ≠ p := fun c => by subst c; omega
      rw [hlo v c] at e4; rw [hdo v c] at ej; rw [hko v c] at hlt
      have := h.look j v q h1 h2 hv hq e4 ej ew hlt hne
      by_cases d : q = p
      · subst d; rw [hdr, hln]; split <;> omega
      · rw [hlo q d, hdo q d]; exact this
    some := fun j v h1 h2 hv ha => by
      obtain ⟨c, ha'⟩ := back j v ha
      refine (h.some j v h1 h2 hv ha').keep rfl (fun g hg hgw hga => keep j g (fun e => ?_) hga)
      subst e
      have hj := hga.1
      subst hj
      have := hc h2 hgw v hv c
      obtain ⟨x, y⟩ := ha'
      omega
    two := fun j a b h1 h2 ha hb hab hja hjb => by
      have key : ∀ b, b < n → b ≠ p → j < s.dr b → j ≤ s.dr p → Guard n s j → Guard n (pass n s p) j := by
        intro b hb hbp hjb hjp hg
        refine hg.keep rfl (fun g hg hgw hga => keep j g (fun e => ?_) hga)
        subst e
        have hj := hga.1
        subst hj
        have := hc h2 hgw b hb hbp
        omega
      by_cases ca : a = p
      · subst ca
        have cb : b ≠ a := fun e => hab e.symm
        rw [hdr] at hja; rw [hdo b cb] at hjb
        refine key b hb cb hjb (by omega) ?_
        by_cases e : j = s.dr a
        · exact h.some j a h1 h2 ha ⟨e.symm, hl⟩
        · exact h.two j a b h1 h2 ha hb hab (by omega) hjb
      · by_cases cb : b = p
        · subst cb
          rw [hdr] at hjb; rw [hdo a ca] at hja
          refine key a ha ca hja (by omega) ?_
          by_cases e : j = s.dr b
          · exact h.some j b h1 h2 hb ⟨e.symm, hl⟩
          · exact h.two j a b h1 h2 ha hb hab hja (by omega)
        · rw [hdo a ca] at hja; rw [hdo b cb] at hjb
          have hg := h.two j a b h1 h2 ha hb hab hja hjb
          by_cases e : j ≤ s.dr p
          · exact key a ha ca hja e hg
          · exact hg.keep rfl (fun g _ _ hga => keep j g (fun e' => by subst e'; have := hga.1; omega) hga) }

theorem Inv.step {n : Nat} {s : St} (h : Inv n s) (hn : 1 ≤ n) {p : Nat} (hp : p < n) : Inv n (stepN n s p) := by
  have hl := h.ln p hp
  have hd := h.dr p hp
  have hk := h.kk p hp
  have hw := h.wl p hp
  have hcase : s.ln p = 1 ∨ s.ln p = 2 ∨ (s.ln p = 3 ∧ s.wd (vx n (s.dr p)) = p + 1) ∨ (s.ln p = 3 ∧ s.wd (vx n (s.dr p)) ≠ p + 1) ∨
      (s.ln p = 4 ∧ s.kk p ≠ p ∧ s.dr p ≤ s.wd (s.kk p).toNat) ∨ (s.ln p = 4 ∧ ¬ (s.kk p ≠ p ∧ s.dr p ≤ s.wd (s.kk p).toNat) ∧ s.kk p + 1 = n) ∨
      (s.ln p = 4 ∧ ¬ (s.kk p ≠ p ∧ s.dr p ≤ s.wd (s.kk p).toNat) ∧ s.kk p + 1 ≠ n) ∨ s.ln p = 5 ∨ s.ln p = 6 := by
    by_cases c1 : s.wd (vx n (s.dr p)) = p + 1 <;> by_cases c2 : s.kk p ≠ p ∧ s.dr p ≤ s.wd (s.kk p).toNat <;> by_cases c3 : s.kk p + 1 = n <;> omega
  have hvx := fun (j : Int) (h1 : 1 ≤ j) (h2 : j < n) => vx_in (n := n) h1 (.inl h2) hn
  rcases hcase with e | e | ⟨e, e1⟩ | ⟨e, e1⟩ | ⟨e, e1⟩ | ⟨e, e1, e2⟩ | ⟨e, e1, e2⟩ | e | e
  · have hst : stepN n s p = { s with wd := upd s.wd p (s.dr p), ln := upd s.ln p 2 } := by simp [stepN, e]
    rw [hst]
    have hV : ∀ j : Int, 1 ≤ j → j < n → upd s.wd p (s.dr p) (vx n j) = s.wd (vx n j) := fun j h1 h2 => upd_other (by have := hvx j h1 h2; omega)
    have keep : ∀ (j : Int) (v : Nat), At s j v → At { s with wd := upd s.wd p (s.dr p), ln := upd s.ln p 2 } j v := fun j v x => by
      have c : v ≠ p := fun c => by subst c; have := x.2; omega
      exact ⟨x.1, by simp only [upd_other c]; exact x.2⟩
    exact {
      ln := fun g hg => by
        by_cases c : g = p
        · subst c; simp [upd]
        · simp only [upd_other c]; exact h.ln g hg
      dr := fun g hg => by
        by_cases c : g = p
        · subst c; simp only [upd_same]; refine ⟨by omega, fun _ => ?_, fun x => by omega⟩; omega
        · simp only [upd_other c]; exact h.dr g hg
      kk := fun g hg => by
        by_cases c : g = p
        · subst c; simp only [upd_same]; omega
        · simp only [upd_other c]; exact h.kk g hg
      wl := fun g hg => by
        by_cases c : g = p
        · subst c; simp [upd]
        · simp only [upd_other c]; exact h.wl g hg
      look := fun j v q h1 h2 hv hq e4 ej ew hlt hne => by
        simp only [hV j h1 h2] at ew
        have c : v ≠ p := fun c => by subst c; simp [upd] at e4
        simp only [upd_other c] at e4
        have := h.look j v q h1 h2 hv hq e4 ej ew hlt hne
        by_cases d : q = p
        · subst d; simp only [upd_same]; omega
        · simp only [upd_other d]; exact this
      some := fun j v h1 h2 hv ha => by
        have c : v ≠ p := fun c => by subst c; have := ha.2; simp [upd] at this
        have ha' : At s j v := ⟨ha.1, by have := ha.2; simp only [upd_other c] at this; exact this⟩
        exact (h.some j v h1 h2 hv ha').keep (hV j h1 h2) (fun g _ _ x => keep j g x)
      two := fun j a b h1 h2 ha hb hab hja hjb => (h.two j a b h1 h2 ha hb hab hja hjb).keep (hV j h1 h2) (fun g _ _ x => keep j g x) }
  · have hst : stepN n s p = { s with wd := upd s.wd (vx n (s.dr p)) (p + 1), ln := upd s.ln p 3 } := by simp [stepN, e]
    rw [hst]
    have hdv := vx_in (n := n) (d := s.dr p) hd.1 (hd.2.1 (by omega)) hn
    have hV : ∀ j : Int, 1 ≤ j → j < n → j ≠ s.dr p → upd s.wd (vx n (s.dr p)) (p + 1) (vx n j) = s.wd (vx n j) := fun j h1 h2 h3 => upd_other (fun x => h3 (vx_inj h1 h2 hd.1 (by omega) x))
    have hW : ∀ g, g < n → upd s.wd (vx n (s.dr p)) (p + 1) g = s.wd g := fun g hg => upd_other (by omega)
    have keep : ∀ (j : Int) (v : Nat), At s j v → At { s with wd := upd s.wd (vx n (s.dr p)) (p + 1), ln := upd s.ln p 3 } j v := fun j v x => by
      have c : v ≠ p := fun c => by subst c; have := x.2; omega
      exact ⟨x.1, by simp only [upd_other c]; exact x.2⟩
    have mine : ∀ j : Int, 1 ≤ j → j < n → j = s.dr p → Guard n { s with wd := upd s.wd (vx n (s.dr p)) (p + 1), ln := upd s.ln p 3 } j := fun j _ _ ej => by
      subst ej
      exact ⟨p, hp, upd_same _ _ _, rfl, .inl (upd_same _ _ _)⟩
    exact {
      ln := fun g hg => by
        by_cases c : g = p
        · subst c; simp [upd]
        · simp only [upd_other c]; exact h.ln g hg
      dr := fun g hg => by
        by_cases c : g = p
        · subst c; simp only [upd_same]; refine ⟨by omega, fun _ => ?_, fun x => by omega⟩; omega
        · simp only [upd_other c]; exact h.dr g hg
      kk := fun g hg => by
        by_cases c : g = p
        · subst c; simp only [upd_same]; omega
        · simp only [upd_other c]; exact h.kk g hg
      wl := fun g hg => by
        simp only [hW g hg]
        by_cases c : g = p
        · subst c; rw [hw]; simp [upd, e]
        · simp only [upd_other c]; exact h.wl g hg
      look := fun j v q h1 h2 hv hq e4 ej ew hlt hne => by
        have c : v ≠ p := fun c => by subst c; simp [upd] at e4
        simp only [upd_other c] at e4
        have hj : j ≠ s.dr p := fun x => by subst x; simp only [upd_same] at ew; omega
        simp only [hV j h1 h2 hj] at ew
        have := h.look j v q h1 h2 hv hq e4 ej ew hlt hne
        by_cases d : q = p
        · subst d; simp only [upd_same]; omega
        · simp only [upd_other d]; exact this
      some := fun j v h1 h2 hv ha => by
        by_cases hj : j = s.dr p
        · exact mine j h1 h2 hj
        · have c : v ≠ p := fun c => by subst c; exact hj ha.1.symm
          have ha' : At s j v := ⟨ha.1, by have := ha.2; simp only [upd_other c] at this; exact this⟩
          exact (h.some j v h1 h2 hv ha').keep (hV j h1 h2 hj) (fun g _ _ x => keep j g x)
      two := fun j a b h1 h2 ha hb hab hja hjb => by
        by_cases hj : j = s.dr p
        · exact mine j h1 h2 hj
        · exact (h.two j a b h1 h2 ha hb hab hja hjb).keep (hV j h1 h2 hj) (fun g _ _ x => keep j g x) }
  · have hst : stepN n s p = { s with ln := upd s.ln p 4 } := by simp [stepN, e, e1]
    rw [hst]
    exact h.stay (ln := upd s.ln p 4) (kk := s.kk) hp (.inl e) (.inr (upd_same _ _ _)) (fun g c => ⟨upd_other c, rfl⟩) (by omega) (fun x => by simp [upd] at x) (fun q _ x => by omega)
  · have hst : stepN n s p = pass n s p := by simp [stepN, e, e1]
    rw [hst]
    exact h.through hn hp (.inl e) (fun _ x => absurd x e1)
  · have hst : stepN n s p = { s with ln := upd s.ln p 3, kk := upd s.kk p 0 } := by simp [stepN, e, e1.1, e1.2]
    rw [hst]
    exact h.stay (ln := upd s.ln p 3) (kk := upd s.kk p 0) hp (.inr e) (.inl (upd_same _ _ _)) (fun g c => ⟨upd_other c, upd_other c⟩) (by simp [upd]; omega) (fun x => by simp [upd]) (fun q _ x => by simp [upd] at x; omega)
  · have hst : stepN n s p = pass n s p := by simp only [stepN, e]; rw [if_neg (by decide), if_neg (by decide), if_neg (by decide), if_pos trivial, if_neg e1, if_pos e2]
    rw [hst]
    refine h.through hn hp (.inr e) (fun hdn x q hq hqp => ?_)
    by_cases c : q < s.kk p
    · exact h.look (s.dr p) p q hd.1 hdn hp hq e rfl x c hqp
    · exact h.low e1 hq hqp (by omega) hdn
  · have hst : stepN n s p = { s with kk := upd s.kk p (s.kk p + 1) } := by simp only [stepN, e]; rw [if_neg (by decide), if_neg (by decide), if_neg (by decide), if_pos trivial, if_neg e1, if_neg e2]
    rw [hst]
    refine h.stay (ln := s.ln) (kk := upd s.kk p (s.kk p + 1)) hp (.inr e) (.inr e) (fun g c => ⟨rfl, upd_other c⟩) (by simp [upd]; omega) (fun x => absurd e x) (fun q hq x hd1 hdn hwv hqp => ?_)
    simp only [upd_same] at x
    by_cases c : q < s.kk p
    · exact h.look (s.dr p) p q hd1 hdn hp hq e rfl hwv c hqp
    · exact h.low e1 hq hqp (by omega) hdn
  · have hst : stepN n s p = { s with ln := upd s.ln p 6 } := by simp [stepN, e]
    rw [hst]
    exact h.out hn hp (wd := s.wd) (ln := upd s.ln p 6) (dr := s.dr) (kk := s.kk) (by omega) (fun j _ _ => rfl) (fun g c => ⟨rfl, upd_other c, rfl, rfl⟩) (.inl ⟨upd_same _ _ _, rfl, rfl, rfl⟩)
  · have hst : stepN n s p = { s with wd := upd s.wd p 0, ln := upd s.ln p 1, dr := upd s.dr p 1, kk := upd s.kk p 0 } := by simp [stepN, e]
    rw [hst]
    exact h.out hn hp (wd := upd s.wd p 0) (ln := upd s.ln p 1) (dr := upd s.dr p 1) (kk := upd s.kk p 0) (by omega) (fun j h1 h2 => upd_other (by have := hvx j h1 h2; omega)) (fun g c => ⟨upd_other c, upd_other c, upd_other c, upd_other c⟩) (.inr ⟨upd_same _ _ _, upd_same _ _ _, upd_same _ _ _, upd_same _ _ _⟩)

theorem step_nat {n : Nat} (s : St) {p : Nat} (h : p < n) : step n s (p : Int) = stepN n s p := by
  unfold step; rw [if_pos (by omega)]; rfl
theorem line_nat {n : Nat} (s : St) {p : Nat} (h : p < n) : line n s (p : Int) = s.ln p := by
  unfold line; rw [if_pos (by omega)]; rfl
theorem Reach.step {n k : Nat} {s : St} (h : Reach n k s) (p : Int) : Reach n (k + 1) (step n s p) := by
  obtain ⟨h1, h4, hi⟩ := h
  by_cases hp : 0 ≤ p ∧ p < n
  · obtain ⟨m, rfl⟩ := Int.eq_ofNat_of_zero_le hp.1
    rw [step_nat s (by omega)]
    exact ⟨h1, h4, hi.step h1 (by omega)⟩
  · unfold Filter.step
    rw [if_neg hp]
    exact ⟨h1, h4, hi⟩
theorem Reach.fine {n k : Nat} {s : St} (h : Reach n k s) {p : Nat} (hp : p < n) : 1 ≤ s.ln p ∧ s.ln p ≤ 6 := h.2.2.ln p hp

/-- How many stand beyond a door. -/
theorem Inv.beyond {n : Nat} {s : St} (h : Inv n s) : ∀ j : Nat, (j : Int) < n → cnt (fun q => decide ((j : Int) < s.dr q)) n ≤ n - j := by
  intro j
  induction j with
  | zero => intro _; have := (cnt_bd (fun q => decide (((0 : Nat) : Int) < s.dr q)) n).2; omega
  | succ j ih =>
    intro hj
    have hi := ih (by omega)
    by_cases hg : ∃ a b : Nat, a < n ∧ b < n ∧ a ≠ b ∧ ((j + 1 : Nat) : Int) < s.dr a ∧ ((j + 1 : Nat) : Int) < s.dr b
    · obtain ⟨a, b, ha, hb, hab, h1, h2⟩ := hg
      obtain ⟨v, hv, -, h3, -⟩ := h.two _ a b (by omega) (by omega) ha hb hab h1 h2
      have := cnt_lt (f := fun q => decide (((j + 1 : Nat) : Int) < s.dr q)) (g := fun q => decide ((j : Int) < s.dr q)) (n := n) hv (by simp; omega) (by simp; omega) (fun i _ x => by simp at x ⊢; omega)
      omega
    · have := cnt_one (f := fun q => decide (((j + 1 : Nat) : Int) < s.dr q)) (n := n) (fun a b ha hb h1 h2 => by
        simp only [decide_eq_true_eq] at h1 h2
        by_cases e : a = b
        · exact e
        · exact absurd ⟨a, b, ha, hb, e, h1, h2⟩ hg)
      omega
theorem Reach.doors {n k : Nat} {s : St} (h : Reach n k s) (j : Nat) (hj : 1 ≤ j) (hjn : j < n) : cnt (fun q => decide ((j : Int) < s.wd q)) n ≤ n - j := by
  have h1 := h.2.2.beyond j (by omega)
  have h2 := cnt_le (f := fun q => decide ((j : Int) < s.wd q)) (g := fun q => decide ((j : Int) < s.dr q)) (n := n) (fun i hi x => by
    simp only [decide_eq_true_eq] at x ⊢
    rw [h.2.2.wl i hi] at x
    split at x <;> omega)
  omega
theorem Reach.one {n k : Nat} {s : St} (h : Reach n k s) (i j : Nat) (hi : i < n) (hj : j < n) (h1 : isIn n s i = true) (h2 : isIn n s j = true) : i = j := by
  simp only [isIn, line_nat s hi, line_nat s hj, beq_iff_eq] at h1 h2
  by_cases e : i = j
  · exact e
  · exfalso
    have hc := h.2.2.beyond (n - 1) (by omega)
    have a := (h.2.2.dr i hi).2.2 (by omega)
    have b := (h.2.2.dr j hj).2.2 (by omega)
    have := cnt_two (f := fun q => decide (((n - 1 : Nat) : Int) < s.dr q)) hi hj e (by simp; omega) (by simp; omega)
    omega

/-- Hand 1 alone, line by line. -/
def alone : Nat → St
  | 0 => first 2
  | k + 1 => step 2 (alone k) 1
theorem alone_reach (k : Nat) : Reach 2 k (alone k) := by
  induction k with
  | zero => exact Reach.first 2 (by omega) (by omega)
  | succ k ih => exact ih.step 1
theorem alone_out (k : Nat) (h : k < 4) : (line 2 (alone (k + 1)) 1 == 5) = false := by
  obtain rfl | rfl | rfl | rfl := (by omega : k = 0 ∨ k = 1 ∨ k = 2 ∨ k = 3)
  all_goals decide
theorem alone_in : (line 2 (alone 5) 1 == 5) = true := by decide
theorem alone_zero : line 2 (alone 5) 0 = 1 := by decide

/-- All do a line in turn: behind t lines. -/
def turns (n : Nat) (s : St) : Nat → St
  | 0 => s
  | t + 1 => step n (turns n s t) ((t % n : Nat) : Int)
/-- Was hand q in, at one of t lines? -/
def was (n : Nat) (s : St) (q : Nat) : Nat → Bool
  | 0 => false
  | t + 1 => was n s q t || (t % n == q && isIn n (turns n s (t + 1)) q)
theorem was_of {n : Nat} {s : St} {q T t : Nat} (ht : t < T) (h1 : t % n = q) (h2 : isIn n (turns n s (t + 1)) q = true) : was n s q T = true := by
  induction T with
  | zero => omega
  | succ T ih =>
    unfold was
    by_cases e : t = T
    · subst e; simp [h1, h2]
    · rw [ih (by omega)]; rfl
theorem Reach.turns {n k : Nat} {s : St} (h : Reach n k s) (t : Nat) : Reach n (k + t) (turns n s t) := by
  induction t with
  | zero => exact h
  | succ t ih => exact ih.step _
/-- Doors left, weighed. -/
def dw (n : Nat) : Nat → Int
  | 0 => 0
  | e + 1 => dw n e + (2 * n + 5)
theorem dw_bd (n e : Nat) : 0 ≤ dw n e := by
  induction e with
  | zero => simp [dw]
  | succ e ih => simp only [dw]; omega
def ahead (n : Nat) (d : Int) : Nat := ((max n 2 : Nat) - 1 - d).toNat
open Classical in
/-- Does a hand see another one at its door, or beyond? -/
noncomputable def waits (n : Nat) (s : St) (q : Nat) : Bool := decide (∃ r, r < n ∧ r ≠ q ∧ s.dr q ≤ s.wd r)
/-- How far from passing its door. -/
noncomputable def loc (n : Nat) (s : St) (q : Nat) : Int :=
  if s.wd (vx n (s.dr q)) ≠ q + 1 then (if s.ln q = 4 then n - s.kk q + 1 else 1)
  else if waits n s q = true then n + 2
  else (if s.ln q = 4 then n - s.kk q else n + 1)
/-- How far from going. -/
noncomputable def rho (n : Nat) (s : St) (q : Nat) : Int :=
  if s.ln q = 5 then 2 else if s.ln q = 6 then 1
  else dw n (ahead n (s.dr q)) + 2 + (if s.ln q = 1 then 2 * (n : Int) + 5 else if s.ln q = 2 then (n : Int) + 3 else loc n s q)
/-- All that stand at door d or beyond, but p. -/
noncomputable def sig (n : Nat) (s : St) (p : Nat) (d : Int) : Int := sumTo (fun q => if q = p ∨ s.wd q < d then 0 else rho n s q) n
/-- Who comes to p's door, and is to write there. -/
def chal (s : St) (p : Nat) : Nat → Bool := fun q => decide (q ≠ p) && decide (s.dr q = s.dr p) && decide (s.ln q = 2)
/-- The most at a door with e doors ahead. -/
def most (n e : Nat) : Int := 3 * n + 4 + (n - 1) * (dw n e + n + 3)
def base (n : Nat) : Nat → Int
  | 0 => 0
  | e + 1 => base n e + most n e
noncomputable def vee (n p : Nat) (s : St) : Int :=
  if s.ln p = 5 then base n (ahead n 0) + 2 else if s.ln p = 6 then base n (ahead n 0) + 1
  else base n (ahead n (s.dr p)) +
    (if s.ln p = 1 then most n (ahead n (s.dr p)) else if s.ln p = 2 then most n (ahead n (s.dr p)) - 1
     else if s.wd (vx n (s.dr p)) ≠ p + 1 then (if s.ln p = 4 then n - s.kk p + 1 else 1)
     else if 0 < cnt (chal s p) n then n + 1 + (n - cnt (chal s p) n)
     else 2 * n + sig n s p (s.dr p) + (if waits n s p = true then (n : Int) + 2 else if s.ln p = 4 then (n : Int) - s.kk p else (n : Int) + 1))
/-- Whose line surely is a step on. -/
noncomputable def act (n : Nat) (s : St) (p : Nat) : Nat → Bool := fun q =>
  decide (q ≠ p) && decide (s.dr p ≤ s.wd q) && !((decide (s.ln q = 3) || decide (s.ln q = 4)) && decide (s.wd (vx n (s.dr q)) = q + 1) && waits n s q)
noncomputable def who (n p : Nat) (s : St) : Nat :=
  if (s.ln p = 3 ∨ s.ln p = 4) ∧ s.wd (vx n (s.dr p)) = p + 1 then
    (if 0 < cnt (chal s p) n then pick (chal s p) p n else if waits n s p = true then pick (act n s p) p n else p)
  else p

theorem waits_iff {n : Nat} {s : St} {q : Nat} : waits n s q = true ↔ ∃ r, r < n ∧ r ≠ q ∧ s.dr q ≤ s.wd r := by
  unfold waits; simp
theorem waits_not {n : Nat} {s : St} {q : Nat} (h : ∀ r, r < n → r ≠ q → s.wd r < s.dr q) : waits n s q = false := by
  cases hw : waits n s q with
  | false => rfl
  | true => obtain ⟨r, h1, h2, h3⟩ := waits_iff.1 hw; have := h r h1 h2; omega
theorem loc_bd {n : Nat} {s : St} (h : Inv n s) {q : Nat} (hq : q < n) : 1 ≤ loc n s q ∧ loc n s q ≤ n + 2 := by
  have := h.kk q hq
  unfold loc
  repeat' split
  all_goals omega
theorem rho_bd {n : Nat} {s : St} (h : Inv n s) {q : Nat} (hq : q < n) : 1 ≤ rho n s q := by
  have := loc_bd h hq
  have := dw_bd n (ahead n (s.dr q))
  unfold rho
  repeat' split
  all_goals omega
/-- What a hand's measure hangs on. -/
theorem rho_same {n : Nat} {s t : St} {q : Nat} (hl : t.ln q = s.ln q) (hd : t.dr q = s.dr q) (hk : t.kk q = s.kk q) (hv : t.wd (vx n (s.dr q)) = s.wd (vx n (s.dr q))) (hw : waits n t q = waits n s q) : rho n t q = rho n s q := by
  unfold rho loc; rw [hl, hd, hk, hv, hw]
theorem rho_le {n : Nat} {s t : St} (h : Inv n s) {q : Nat} (hq : q < n) (hl : t.ln q = s.ln q) (hd : t.dr q = s.dr q) (hk : t.kk q = s.kk q) (hv : t.wd (vx n (s.dr q)) = s.wd (vx n (s.dr q)) ∨ (waits n s q = true ∧ t.wd (vx n (s.dr q)) ≠ q + 1)) (hw : waits n t q = true → waits n s q = true) : rho n t q ≤ rho n s q := by
  have hkk := h.kk q hq
  unfold rho loc; rw [hl, hd, hk]
  rcases hv with hv | ⟨h1, h2⟩
  · rw [hv]
    cases h1 : waits n t q with
    | true => rw [hw h1]; exact Int.le_refl _
    | false =>
      cases h2 : waits n s q with
      | false => exact Int.le_refl _
      | true => repeat' split
                all_goals first | omega | contradiction
  · rw [h1]
    repeat' split
    all_goals first | omega | contradiction
/-- It rises by a little at most. -/
theorem rho_up {n : Nat} {s t : St} (h : Inv n s) {q : Nat} (hq : q < n) (hl : t.ln q = s.ln q) (hd : t.dr q = s.dr q) (hk : t.kk q = s.kk q) (hv : t.wd (vx n (s.dr q)) = s.wd (vx n (s.dr q))) : rho n t q ≤ rho n s q + (n + 1) := by
  have hkk := h.kk q hq
  unfold rho loc; rw [hl, hd, hk, hv]
  repeat' split
  all_goals first | omega | contradiction
theorem waits_congr {n : Nat} {s t : St} {q : Nat} (hd : t.dr q = s.dr q) (h : ∀ r, r < n → r ≠ q → (s.dr q ≤ t.wd r ↔ s.dr q ≤ s.wd r)) : waits n t q = waits n s q := by
  rw [Bool.eq_iff_iff, waits_iff, waits_iff, hd]
  exact ⟨fun ⟨r, a, b, c⟩ => ⟨r, a, b, (h r a b).1 c⟩, fun ⟨r, a, b, c⟩ => ⟨r, a, b, (h r a b).2 c⟩⟩
theorem sig_pos {n : Nat} {s : St} (h : Inv n s) (p : Nat) (d : Int) : 0 ≤ sig n s p d := by
  have := sumTo_le (f := fun _ => 0) (g := fun q => if q = p ∨ s.wd q < d then 0 else rho n s q) (n := n) (fun i hi => by
    have := rho_bd h hi
    show 0 ≤ (if i = p ∨ s.wd i < d then 0 else rho n s i)
    split <;> omega)
  have e : sumTo (fun _ => 0) n = 0 := by
    generalize n = m
    induction m with
    | zero => rfl
    | succ m ih => simp only [sumTo, ih]; rfl
  unfold sig; omega
theorem dw_lt {n e f : Nat} (h : e < f) : dw n e + (2 * n + 5) ≤ dw n f := by
  induction f with
  | zero => omega
  | succ f ih =>
    by_cases c : e = f
    · subst c; exact Int.le_refl _
    · have := ih (by omega); simp only [dw]; omega
theorem chal_not {n : Nat} {s : St} {p : Nat} (h : ¬ 0 < cnt (chal s p) n) : ∀ q, q < n → q ≠ p → s.dr q = s.dr p → s.ln q ≠ 2 := by
  intro q hq h1 h2 h3
  exact h (cnt_pos hq (by simp [chal, h1, h2, h3]))
theorem sig_most {n : Nat} {s : St} (h : Inv n s) {p : Nat} (hp : p < n) (hl : s.ln p = 3 ∨ s.ln p = 4) (hv : s.wd (vx n (s.dr p)) = p + 1) (hc : ¬ 0 < cnt (chal s p) n) :
    sig n s p (s.dr p) ≤ (n - 1) * (dw n (ahead n (s.dr p)) + n + 3) := by
  refine sumTo_bd hp (by simp) (fun q hq hqp => ?_)
  have hd := h.dr p hp
  have hdq := h.dr q hq
  have hlq := h.ln q hq
  have hwq := h.wl q hq
  have hkq := h.kk q hq
  have hlc := loc_bd h hq
  have hc2 := chal_not hc q hq hqp
  have h0 := dw_bd n (ahead n (s.dr p))
  show (if q = p ∨ s.wd q < s.dr p then 0 else rho n s q) ≤ _
  by_cases c : q = p ∨ s.wd q < s.dr p
  · rw [if_pos c]; omega
  · rw [if_neg c]
    have c2 : ¬ s.wd q < s.dr p := fun x => c (.inr x)
    by_cases e5 : s.ln q = 5
    · unfold rho; rw [if_pos e5]; omega
    · by_cases e6 : s.ln q = 6
      · unfold rho; rw [if_neg e5, if_pos e6]; omega
      · unfold rho; rw [if_neg e5, if_neg e6]
        by_cases e : s.dr q = s.dr p
        · have n1 : s.ln q ≠ 1 := fun x => by rw [if_pos (.inl x)] at hwq; omega
          rw [if_neg n1, if_neg (hc2 e), e]
          have : loc n s q ≤ n + 1 := by
            unfold loc; rw [e, hv, if_pos (by omega)]
            split <;> omega
          omega
        · have hgt : s.dr p < s.dr q := by
            by_cases n1 : s.ln q = 1
            · rw [if_pos (.inl n1)] at hwq; omega
            · rw [if_neg (by omega)] at hwq; omega
          have := dw_lt (n := n) (e := ahead n (s.dr q)) (f := ahead n (s.dr p)) (by unfold ahead; omega)
          repeat' split
          all_goals omega
theorem most_pos (n e : Nat) (h1 : 1 ≤ n) : 3 * (n : Int) + 4 ≤ most n e := by
  unfold most
  have := dw_bd n e
  have := Int.mul_nonneg (show (0 : Int) ≤ (n : Int) - 1 by omega) (show (0 : Int) ≤ dw n e + n + 3 by omega)
  omega
theorem base_pos (n e : Nat) (h1 : 1 ≤ n) : 0 ≤ base n e := by
  induction e with
  | zero => simp [base]
  | succ e ih => have := most_pos n e h1; simp only [base]; omega
theorem base_le {n e f : Nat} (h1 : 1 ≤ n) (h : e ≤ f) : base n e ≤ base n f := by
  induction f with
  | zero => obtain rfl : e = 0 := by omega
            exact Int.le_refl _
  | succ f ih =>
    by_cases c : e = f + 1
    · subst c; exact Int.le_refl _
    · have := ih (by omega); have := most_pos n f h1; simp only [base]; omega
theorem cnt_chal {n : Nat} {s : St} {p : Nat} (hp : p < n) : cnt (chal s p) n + 1 ≤ n := by
  have := cnt_lt (f := chal s p) (g := fun _ => true) (n := n) hp (by simp [chal]) rfl (fun _ _ _ => rfl)
  have := (cnt_bd (fun _ => true) n).2
  omega
theorem ahead_succ {n : Nat} {d : Int} (h : d + 1 < (max n 2 : Nat)) : ahead n d = ahead n (d + 1) + 1 := by unfold ahead; omega
theorem vee_bd {n p : Nat} {s : St} (h : Inv n s) (hp : p < n) : 0 ≤ vee n p s ∧ vee n p s ≤ base n (ahead n 0) + 2 := by
  have hd := h.dr p hp
  have hk := h.kk p hp
  have hl := h.ln p hp
  have hb := base_pos n (ahead n (s.dr p)) (by omega)
  have hb0 := base_pos n (ahead n 0) (by omega)
  have hm := most_pos n (ahead n (s.dr p)) (by omega)
  have hs := sig_pos h p (s.dr p)
  have hcc := cnt_chal (s := s) hp
  have hc0 := (cnt_bd (chal s p) n).1
  unfold vee
  by_cases e5 : s.ln p = 5
  · rw [if_pos e5]; omega
  by_cases e6 : s.ln p = 6
  · rw [if_neg e5, if_pos e6]; omega
  rw [if_neg e5, if_neg e6]
  have hle : base n (ahead n (s.dr p)) + most n (ahead n (s.dr p)) ≤ base n (ahead n 0) := by
    have := base_le (n := n) (e := ahead n (s.dr p) + 1) (f := ahead n 0) (by omega) (by unfold ahead; omega)
    exact this
  by_cases e1 : s.ln p = 1
  · rw [if_pos e1]; omega
  by_cases e2 : s.ln p = 2
  · rw [if_neg e1, if_pos e2]; omega
  rw [if_neg e1, if_neg e2]
  by_cases hv : s.wd (vx n (s.dr p)) = p + 1
  · rw [if_neg (by simp [hv])]
    by_cases hc : 0 < cnt (chal s p) n
    · rw [if_pos hc]; omega
    · rw [if_neg hc]
      have := sig_most h hp (by omega) hv hc
      have hmm : most n (ahead n (s.dr p)) = 3 * n + 4 + (n - 1) * (dw n (ahead n (s.dr p)) + n + 3) := rfl
      rw [hmm] at hle
      repeat' split
      all_goals omega
  · rw [if_pos hv]
    split <;> omega
theorem base_300 {n : Nat} (h1 : 1 ≤ n) (h4 : n ≤ 4) : base n (ahead n 0) + 2 < 300 := by
  obtain rfl | rfl | rfl | rfl : n = 1 ∨ n = 2 ∨ n = 3 ∨ n = 4 := by omega
  all_goals decide
end Go.Proofs.YtgkfgijmccojjaaDoor.Filter
