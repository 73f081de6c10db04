/-
  No cell of these rows narrows 'for every input' (looked for: loops, veiled, ifaces, maps, wideKeys, modest, calm, conditions, laid).
  DERIVED. THE GIVEN ROWS OF THIS SEAT. 4 by the template 'for every input the law returns true; each argument reads behind the call as it read before'; 0 by the template 'total and deterministic' (their statements: YtdhgfmicgmlegaaTotals.lean).
  GIVEN WITH THE SEED: the statements are not yours to turn. If you find one false, say at which input.
  Laid BY PROGRAM, IN A SANDBOX (cutbox-rows.mjs): the forced cells as the released guide's own fill.sh prints them over the translation bf719f2e3dcc5d9e… (all of the seat's roots in one cut). By AI agents, Wed Nov 11 2026. No macro, syntax, notation, axiom, sorry.
-/
import Derived.Test.YtdhgfmicgmlegaaChecked
import GoSem.Claim
import GoSem.ClaimJoined
import GoSem.ClaimMapViews
import Derived.JoinedTies
import Derived.KernelRfl
namespace Go.Proofs.Ytdhgfmicgmlegaa
/- THE CELL 'sum', in the pinned program and in every row, IS THE sha256 OF THE DUMP (.gsa) THAT YtdhgfmicgmlegaaProg.lean LOADS. Nothing in Lean hashes anything: it is a label: what it is worth is what the hold of that sum in a sandbox is worth. -/
noncomputable def Try.pinned : Pinned := { name := "ytdhgfmicgmlegaa", sum := "bf719f2e3dcc5d9eb76e125766333c8e0f32be55c106a5fef596c6ddad536959", checked := Try.checked }
namespace Rows
def none {H : Type} : Left H := { results := [], args := [] }

/-- 'latchgarthlaw2.TicketOne': WHATEVER THE INPUT: true; the input reads as it did. -/
def ticketOneSpec : ChangeSpec := { name := "ticketOne", fn := fun _ => fun
  | [d1, d2] => { results := [.lit (.bool true)], args := [d1, d2] }
  | _ => none }
def ticketOneRow : OpenClaim := { program := "ytdhgfmicgmlegaa", sum := "bf719f2e3dcc5d9eb76e125766333c8e0f32be55c106a5fef596c6ddad536959", func := "latchgarth/latchgarthlaw2.TicketOne", spec := "ticketOne", apart := false }
def TicketOneSaid : Prop := ticketOneRow.holds Try.pinned (OpenSpec.ofChange ticketOneSpec)

/-- ITS FALSE NEIGHBOUR: 'it returns false'. Refute it at one input. -/
def ticketOneWrong : ChangeSpec := { name := "ticketOne", fn := fun _ => fun
  | [d1, d2] => { results := [.lit (.bool false)], args := [d1, d2] }
  | _ => none }
def TicketOneWrongFalsely : Prop := ticketOneRow.holds Try.pinned (OpenSpec.ofChange ticketOneWrong)

/-- 'latchgarthlaw2.TicketGoes': WHATEVER THE INPUT: true; the input reads as it did. -/
def ticketGoesSpec : ChangeSpec := { name := "ticketGoes", fn := fun _ => fun
  | [d1, d2] => { results := [.lit (.bool true)], args := [d1, d2] }
  | _ => none }
def ticketGoesRow : OpenClaim := { program := "ytdhgfmicgmlegaa", sum := "bf719f2e3dcc5d9eb76e125766333c8e0f32be55c106a5fef596c6ddad536959", func := "latchgarth/latchgarthlaw2.TicketGoes", spec := "ticketGoes", apart := false }
def TicketGoesSaid : Prop := ticketGoesRow.holds Try.pinned (OpenSpec.ofChange ticketGoesSpec)

/-- ITS FALSE NEIGHBOUR: 'it returns false'. Refute it at one input. -/
def ticketGoesWrong : ChangeSpec := { name := "ticketGoes", fn := fun _ => fun
  | [d1, d2] => { results := [.lit (.bool false)], args := [d1, d2] }
  | _ => none }
def TicketGoesWrongFalsely : Prop := ticketGoesRow.holds Try.pinned (OpenSpec.ofChange ticketGoesWrong)

/-- 'latchgarthlaw2.TicketFirst': WHATEVER THE INPUT: true; the input reads as it did. -/
def ticketFirstSpec : ChangeSpec := { name := "ticketFirst", fn := fun _ => fun
  | [d1, d2] => { results := [.lit (.bool true)], args := [d1, d2] }
  | _ => none }
def ticketFirstRow : OpenClaim := { program := "ytdhgfmicgmlegaa", sum := "bf719f2e3dcc5d9eb76e125766333c8e0f32be55c106a5fef596c6ddad536959", func := "latchgarth/latchgarthlaw2.TicketFirst", spec := "ticketFirst", apart := false }
def TicketFirstSaid : Prop := ticketFirstRow.holds Try.pinned (OpenSpec.ofChange ticketFirstSpec)

/-- ITS FALSE NEIGHBOUR: 'it returns false'. Refute it at one input. -/
def ticketFirstWrong : ChangeSpec := { name := "ticketFirst", fn := fun _ => fun
  | [d1, d2] => { results := [.lit (.bool false)], args := [d1, d2] }
  | _ => none }
def TicketFirstWrongFalsely : Prop := ticketFirstRow.holds Try.pinned (OpenSpec.ofChange ticketFirstWrong)

/-- 'latchgarthlaw2.TicketBounds': WHATEVER THE INPUT: true; the input reads as it did. -/
def ticketBoundsSpec : ChangeSpec := { name := "ticketBounds", fn := fun _ => fun
  | [d1, d2] => { results := [.lit (.bool true)], args := [d1, d2] }
  | _ => none }
def ticketBoundsRow : OpenClaim := { program := "ytdhgfmicgmlegaa", sum := "bf719f2e3dcc5d9eb76e125766333c8e0f32be55c106a5fef596c6ddad536959", func := "latchgarth/latchgarthlaw2.TicketBounds", spec := "ticketBounds", apart := false }
def TicketBoundsSaid : Prop := ticketBoundsRow.holds Try.pinned (OpenSpec.ofChange ticketBoundsSpec)

/-- ITS FALSE NEIGHBOUR: 'it returns false'. Refute it at one input. -/
def ticketBoundsWrong : ChangeSpec := { name := "ticketBounds", fn := fun _ => fun
  | [d1, d2] => { results := [.lit (.bool false)], args := [d1, d2] }
  | _ => none }
def TicketBoundsWrongFalsely : Prop := ticketBoundsRow.holds Try.pinned (OpenSpec.ofChange ticketBoundsWrong)

/- THE SECOND FORM. 'bulk': how many values and letters a reading holds, each counted each time it is reached (what is shared counts as often as it is met; a slice's spare places count too). A statement '..UptoSaid' is the law's where the arguments, and the package variables that the reading takes, are together of bulk at most 1048576: NARROWER than '..Said'. Prove '..Said' where nothing that the law and all that it calls make is longer than what came in: it says more and counts as full. Else prove '..UptoSaid'. A law counts once. -/
mutual
def uptoBulk {H : Type} : DataW H → Nat
  | .lit (.string bytes) => bytes.length + 1
  | .lit _ => 1
  | .nil => 1
  | .ptr d => uptoBulk d + 1
  | .slice elems spare => uptoBulkAll elems + uptoBulkAll spare + 1
  | .agg parts => uptoBulkAll parts + 1
  | .iface _ d => uptoBulk d + 1
  | .map entries => uptoBulkEntries entries + 1
  | .held _ => 1
def uptoBulkAll {H : Type} : List (DataW H) → Nat
  | [] => 0
  | d :: r => uptoBulk d + uptoBulkAll r
def uptoBulkEntries {H : Type} : List (Lit × DataW H) → Nat
  | [] => 0
  | x :: r => uptoBulkEntry x + uptoBulkEntries r
def uptoBulkEntry {H : Type} : Lit × DataW H → Nat
  | (.string bytes, d) => bytes.length + uptoBulk d + 1
  | (_, d) => uptoBulk d + 1
 end
def uptoSmall : (H : Type) → List (DataW H) → Bool := fun _ ds => decide (uptoBulkAll ds ≤ 1048576)
def OpenSpec.upto (s : _root_.Go.ChangeSpec) : _root_.Go.OpenSpec := { _root_.Go.OpenSpec.ofChange s with cond := some uptoSmall }

/-- 'latchgarthlaw2.TicketOne', WHERE WHAT IT READS IS OF BULK AT MOST 1048576: true; the input reads as it did. -/
def ticketOneUptoRow : OpenClaim := { program := "ytdhgfmicgmlegaa", sum := "bf719f2e3dcc5d9eb76e125766333c8e0f32be55c106a5fef596c6ddad536959", func := "latchgarth/latchgarthlaw2.TicketOne", spec := "ticketOne", apart := false, narrowed := true }
def TicketOneUptoSaid : Prop := ticketOneUptoRow.holds Try.pinned (OpenSpec.upto ticketOneSpec)

/-- 'latchgarthlaw2.TicketGoes', WHERE WHAT IT READS IS OF BULK AT MOST 1048576: true; the input reads as it did. -/
def ticketGoesUptoRow : OpenClaim := { program := "ytdhgfmicgmlegaa", sum := "bf719f2e3dcc5d9eb76e125766333c8e0f32be55c106a5fef596c6ddad536959", func := "latchgarth/latchgarthlaw2.TicketGoes", spec := "ticketGoes", apart := false, narrowed := true }
def TicketGoesUptoSaid : Prop := ticketGoesUptoRow.holds Try.pinned (OpenSpec.upto ticketGoesSpec)

/-- 'latchgarthlaw2.TicketFirst', WHERE WHAT IT READS IS OF BULK AT MOST 1048576: true; the input reads as it did. -/
def ticketFirstUptoRow : OpenClaim := { program := "ytdhgfmicgmlegaa", sum := "bf719f2e3dcc5d9eb76e125766333c8e0f32be55c106a5fef596c6ddad536959", func := "latchgarth/latchgarthlaw2.TicketFirst", spec := "ticketFirst", apart := false, narrowed := true }
def TicketFirstUptoSaid : Prop := ticketFirstUptoRow.holds Try.pinned (OpenSpec.upto ticketFirstSpec)

/-- 'latchgarthlaw2.TicketBounds', WHERE WHAT IT READS IS OF BULK AT MOST 1048576: true; the input reads as it did. -/
def ticketBoundsUptoRow : OpenClaim := { program := "ytdhgfmicgmlegaa", sum := "bf719f2e3dcc5d9eb76e125766333c8e0f32be55c106a5fef596c6ddad536959", func := "latchgarth/latchgarthlaw2.TicketBounds", spec := "ticketBounds", apart := false, narrowed := true }
def TicketBoundsUptoSaid : Prop := ticketBoundsUptoRow.holds Try.pinned (OpenSpec.upto ticketBoundsSpec)

end Rows
end Go.Proofs.Ytdhgfmicgmlegaa
