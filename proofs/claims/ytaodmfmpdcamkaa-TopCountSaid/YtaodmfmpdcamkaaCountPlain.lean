import Derived.Test.YtaodmfmpdcamkaaKit
namespace Go.Proofs.Ytaodmfmpdcamkaa.Count

/-- Who is in has had the number. -/
def In (n : Nat) (I : Int) (ln had : Nat → Int) (N : Int) : Prop := ∀ q, q < n → ln q = I → had q = N
theorem In.comes {n p : Nat} {I : Int} {ln ln' had : Nat → Int} {N : Int} (h : In n I ln had N) (ho : ∀ q, q < n → q ≠ p → ln' q = ln q) : In n I ln' (upd had p N) N := by
  intro q hq hl
  by_cases e : q = p
  · subst e; exact upd_same ..
  · rw [upd_other e]; exact h q hq (by rw [← ho q hq e]; exact hl)
theorem goes {n p : Nat} {I : Int} {ln ln' had : Nat → Int} {M : Int} (ho : ∀ q, q < n → q ≠ p → ln' q = ln q) (hone : ∀ q, q < n → ln q = I → q = p) (hn : ln' p ≠ I) : In n I ln' had M := by
  intro q hq hl
  by_cases e : q = p
  · subst e; exact absurd hl hn
  · exact absurd (hone q hq (by rw [← ho q hq e]; exact hl)) e
theorem In.stays {n p : Nat} {I : Int} {ln ln' had : Nat → Int} {N : Int} (h : In n I ln had N) (ho : ∀ q, q < n → q ≠ p → ln' q = ln q) (hs : ln' p = I → ln p = I) : In n I ln' had N := by
  intro q hq hl
  by_cases e : q = p
  · subst e; exact h q hq (hs hl)
  · exact h q hq (by rw [← ho q hq e]; exact hl)
end Go.Proofs.Ytaodmfmpdcamkaa.Count
