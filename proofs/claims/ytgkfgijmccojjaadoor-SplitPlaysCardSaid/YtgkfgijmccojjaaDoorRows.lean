/-
  NARROWER THAN 'FOR EVERY INPUT', by the rows' own cells (each row's printed sentence says how): PairPlays: laid · DekkerPlays: laid · BarrierPlays: laid · ClhPlays: laid · TicketPlays: laid · SplitPlays: laid · FilterPlays: laid · BakeryPlays: laid · FastPlays: laid · McsPlays: laid.
  DERIVED. THE GIVEN ROWS OF THIS SEAT. 10 by the template 'for every input the law returns true; each argument reads behind the call as it read before'; 0 by the template 'total and deterministic' (their statements: YtgkfgijmccojjaaDoorTotals.lean).
  GIVEN WITH THE SEED: the statements are not yours to turn. If you find one false, say at which input.
  Laid BY PROGRAM, IN A SANDBOX (cutbox-rows.mjs): the forced cells as the released guide's own fill.sh prints them over the translation 403850654c231dbf… (all of the seat's roots in one cut). By AI agents, Wed Nov 11 2026. No macro, syntax, notation, axiom, sorry.
-/
import Derived.Test.YtgkfgijmccojjaaDoorChecked
import GoSem.Claim
import GoSem.ClaimJoined
import GoSem.ClaimMapViews
import Derived.JoinedTies
import Derived.KernelRfl
namespace Go.Proofs.YtgkfgijmccojjaaDoor
/- THE CELL 'sum', in the pinned program and in every row, IS THE sha256 OF THE DUMP (.gsa) THAT YtgkfgijmccojjaaDoorProg.lean LOADS. Nothing in Lean hashes anything: it is a label: what it is worth is what the hold of that sum in a sandbox is worth. -/
noncomputable def Tryd.pinned : Pinned := { name := "ytgkfgijmccojjaadoor", sum := "403850654c231dbfa47af31869ca803ab9bcf0ef361f0278566f95b95aa54afc", checked := Tryd.checked }
namespace Rows
def none {H : Type} : Left H := { results := [], args := [] }

/- WHAT THE LISTED PACKAGE-LEVEL VARIABLES READ AS WHEN THE CALL BEGINS. Each datum BY PROGRAM (the guide's laid-datum.mjs) off the statement by which the dump's own 'gosem.cut.vars' lays the variable. In a bare row this is a premise. The card (YtgkfgijmccojjaaDoorCards.lean) ties it to the program's text. -/
def laid_errors_errorType {H : Type} : DataW H := .iface "internal/reflectlite.rtype" (.agg [.ptr (.lit (.string [101, 114, 114, 111, 114]))])

/-- 'latchgarthlaw2.PairPlays': WHATEVER THE INPUT: true; the input reads as it did. -/
def pairPlaysSpec : ChangeSpec := { name := "pairPlays", fn := fun _ => fun
  | [d] => { results := [.lit (.bool true)], args := [d] }
  | _ => none }
def pairPlaysRow : OpenClaim := { program := "ytgkfgijmccojjaadoor", sum := "403850654c231dbfa47af31869ca803ab9bcf0ef361f0278566f95b95aa54afc", func := "latchgarth/latchgarthlaw2.PairPlays", spec := "pairPlays", inPlace := ["internal/reflectlite.ValueOf", "(internal/reflectlite.Value).Type", "(internal/reflectlite.Value).IsNil", "internal/reflectlite.TypeOf", "(internal/reflectlite.Value).Elem", "(internal/reflectlite.Value).Set"], unfollowed := true, recurses := true, named := ["errors.errorType"], apart := false, laid := [("errors.errorType", laid_errors_errorType)] }
def PairPlaysSaid : Prop := pairPlaysRow.holds Tryd.pinned (OpenSpec.ofChange pairPlaysSpec)

/-- ITS FALSE NEIGHBOUR: 'it returns false'. Refute it at one input. -/
def pairPlaysWrong : ChangeSpec := { name := "pairPlays", fn := fun _ => fun
  | [d] => { results := [.lit (.bool false)], args := [d] }
  | _ => none }
def PairPlaysWrongFalsely : Prop := pairPlaysRow.holds Tryd.pinned (OpenSpec.ofChange pairPlaysWrong)

/-- 'latchgarthlaw2.DekkerPlays': WHATEVER THE INPUT: true; the input reads as it did. -/
def dekkerPlaysSpec : ChangeSpec := { name := "dekkerPlays", fn := fun _ => fun
  | [d] => { results := [.lit (.bool true)], args := [d] }
  | _ => none }
def dekkerPlaysRow : OpenClaim := { program := "ytgkfgijmccojjaadoor", sum := "403850654c231dbfa47af31869ca803ab9bcf0ef361f0278566f95b95aa54afc", func := "latchgarth/latchgarthlaw2.DekkerPlays", spec := "dekkerPlays", inPlace := ["internal/reflectlite.ValueOf", "(internal/reflectlite.Value).Type", "(internal/reflectlite.Value).IsNil", "internal/reflectlite.TypeOf", "(internal/reflectlite.Value).Elem", "(internal/reflectlite.Value).Set"], unfollowed := true, recurses := true, named := ["errors.errorType"], apart := false, laid := [("errors.errorType", laid_errors_errorType)] }
def DekkerPlaysSaid : Prop := dekkerPlaysRow.holds Tryd.pinned (OpenSpec.ofChange dekkerPlaysSpec)

/-- ITS FALSE NEIGHBOUR: 'it returns false'. Refute it at one input. -/
def dekkerPlaysWrong : ChangeSpec := { name := "dekkerPlays", fn := fun _ => fun
  | [d] => { results := [.lit (.bool false)], args := [d] }
  | _ => none }
def DekkerPlaysWrongFalsely : Prop := dekkerPlaysRow.holds Tryd.pinned (OpenSpec.ofChange dekkerPlaysWrong)

/-- 'latchgarthlaw2.BarrierPlays': WHATEVER THE INPUT: true; the input reads as it did. -/
def barrierPlaysSpec : ChangeSpec := { name := "barrierPlays", fn := fun _ => fun
  | [d1, d2] => { results := [.lit (.bool true)], args := [d1, d2] }
  | _ => none }
def barrierPlaysRow : OpenClaim := { program := "ytgkfgijmccojjaadoor", sum := "403850654c231dbfa47af31869ca803ab9bcf0ef361f0278566f95b95aa54afc", func := "latchgarth/latchgarthlaw2.BarrierPlays", spec := "barrierPlays", inPlace := ["internal/reflectlite.ValueOf", "(internal/reflectlite.Value).Type", "(internal/reflectlite.Value).IsNil", "internal/reflectlite.TypeOf", "(internal/reflectlite.Value).Elem", "(internal/reflectlite.Value).Set"], unfollowed := true, recurses := true, named := ["errors.errorType"], apart := false, laid := [("errors.errorType", laid_errors_errorType)] }
def BarrierPlaysSaid : Prop := barrierPlaysRow.holds Tryd.pinned (OpenSpec.ofChange barrierPlaysSpec)

/-- ITS FALSE NEIGHBOUR: 'it returns false'. Refute it at one input. -/
def barrierPlaysWrong : ChangeSpec := { name := "barrierPlays", fn := fun _ => fun
  | [d1, d2] => { results := [.lit (.bool false)], args := [d1, d2] }
  | _ => none }
def BarrierPlaysWrongFalsely : Prop := barrierPlaysRow.holds Tryd.pinned (OpenSpec.ofChange barrierPlaysWrong)

/-- 'latchgarthlaw2.ClhPlays': WHATEVER THE INPUT: true; the input reads as it did. -/
def clhPlaysSpec : ChangeSpec := { name := "clhPlays", fn := fun _ => fun
  | [d1, d2] => { results := [.lit (.bool true)], args := [d1, d2] }
  | _ => none }
def clhPlaysRow : OpenClaim := { program := "ytgkfgijmccojjaadoor", sum := "403850654c231dbfa47af31869ca803ab9bcf0ef361f0278566f95b95aa54afc", func := "latchgarth/latchgarthlaw2.ClhPlays", spec := "clhPlays", inPlace := ["internal/reflectlite.ValueOf", "(internal/reflectlite.Value).Type", "(internal/reflectlite.Value).IsNil", "internal/reflectlite.TypeOf", "(internal/reflectlite.Value).Elem", "(internal/reflectlite.Value).Set"], unfollowed := true, recurses := true, named := ["errors.errorType"], apart := false, laid := [("errors.errorType", laid_errors_errorType)] }
def ClhPlaysSaid : Prop := clhPlaysRow.holds Tryd.pinned (OpenSpec.ofChange clhPlaysSpec)

/-- ITS FALSE NEIGHBOUR: 'it returns false'. Refute it at one input. -/
def clhPlaysWrong : ChangeSpec := { name := "clhPlays", fn := fun _ => fun
  | [d1, d2] => { results := [.lit (.bool false)], args := [d1, d2] }
  | _ => none }
def ClhPlaysWrongFalsely : Prop := clhPlaysRow.holds Tryd.pinned (OpenSpec.ofChange clhPlaysWrong)

/-- 'latchgarthlaw2.TicketPlays': WHATEVER THE INPUT: true; the input reads as it did. -/
def ticketPlaysSpec : ChangeSpec := { name := "ticketPlays", fn := fun _ => fun
  | [d1, d2] => { results := [.lit (.bool true)], args := [d1, d2] }
  | _ => none }
def ticketPlaysRow : OpenClaim := { program := "ytgkfgijmccojjaadoor", sum := "403850654c231dbfa47af31869ca803ab9bcf0ef361f0278566f95b95aa54afc", func := "latchgarth/latchgarthlaw2.TicketPlays", spec := "ticketPlays", inPlace := ["internal/reflectlite.ValueOf", "(internal/reflectlite.Value).Type", "(internal/reflectlite.Value).IsNil", "internal/reflectlite.TypeOf", "(internal/reflectlite.Value).Elem", "(internal/reflectlite.Value).Set"], unfollowed := true, recurses := true, named := ["errors.errorType"], apart := false, laid := [("errors.errorType", laid_errors_errorType)] }
def TicketPlaysSaid : Prop := ticketPlaysRow.holds Tryd.pinned (OpenSpec.ofChange ticketPlaysSpec)

/-- ITS FALSE NEIGHBOUR: 'it returns false'. Refute it at one input. -/
def ticketPlaysWrong : ChangeSpec := { name := "ticketPlays", fn := fun _ => fun
  | [d1, d2] => { results := [.lit (.bool false)], args := [d1, d2] }
  | _ => none }
def TicketPlaysWrongFalsely : Prop := ticketPlaysRow.holds Tryd.pinned (OpenSpec.ofChange ticketPlaysWrong)

/-- 'latchgarthlaw2.SplitPlays': WHATEVER THE INPUT: true; the input reads as it did. -/
def splitPlaysSpec : ChangeSpec := { name := "splitPlays", fn := fun _ => fun
  | [d1, d2] => { results := [.lit (.bool true)], args := [d1, d2] }
  | _ => none }
def splitPlaysRow : OpenClaim := { program := "ytgkfgijmccojjaadoor", sum := "403850654c231dbfa47af31869ca803ab9bcf0ef361f0278566f95b95aa54afc", func := "latchgarth/latchgarthlaw2.SplitPlays", spec := "splitPlays", inPlace := ["internal/reflectlite.ValueOf", "(internal/reflectlite.Value).Type", "(internal/reflectlite.Value).IsNil", "internal/reflectlite.TypeOf", "(internal/reflectlite.Value).Elem", "(internal/reflectlite.Value).Set"], unfollowed := true, recurses := true, named := ["errors.errorType"], apart := false, laid := [("errors.errorType", laid_errors_errorType)] }
def SplitPlaysSaid : Prop := splitPlaysRow.holds Tryd.pinned (OpenSpec.ofChange splitPlaysSpec)

/-- ITS FALSE NEIGHBOUR: 'it returns false'. Refute it at one input. -/
def splitPlaysWrong : ChangeSpec := { name := "splitPlays", fn := fun _ => fun
  | [d1, d2] => { results := [.lit (.bool false)], args := [d1, d2] }
  | _ => none }
def SplitPlaysWrongFalsely : Prop := splitPlaysRow.holds Tryd.pinned (OpenSpec.ofChange splitPlaysWrong)

/-- 'latchgarthlaw2.FilterPlays': WHATEVER THE INPUT: true; the input reads as it did. -/
def filterPlaysSpec : ChangeSpec := { name := "filterPlays", fn := fun _ => fun
  | [d1, d2] => { results := [.lit (.bool true)], args := [d1, d2] }
  | _ => none }
def filterPlaysRow : OpenClaim := { program := "ytgkfgijmccojjaadoor", sum := "403850654c231dbfa47af31869ca803ab9bcf0ef361f0278566f95b95aa54afc", func := "latchgarth/latchgarthlaw2.FilterPlays", spec := "filterPlays", inPlace := ["internal/reflectlite.ValueOf", "(internal/reflectlite.Value).Type", "(internal/reflectlite.Value).IsNil", "internal/reflectlite.TypeOf", "(internal/reflectlite.Value).Elem", "(internal/reflectlite.Value).Set"], unfollowed := true, recurses := true, named := ["errors.errorType"], apart := false, laid := [("errors.errorType", laid_errors_errorType)] }
def FilterPlaysSaid : Prop := filterPlaysRow.holds Tryd.pinned (OpenSpec.ofChange filterPlaysSpec)

/-- ITS FALSE NEIGHBOUR: 'it returns false'. Refute it at one input. -/
def filterPlaysWrong : ChangeSpec := { name := "filterPlays", fn := fun _ => fun
  | [d1, d2] => { results := [.lit (.bool false)], args := [d1, d2] }
  | _ => none }
def FilterPlaysWrongFalsely : Prop := filterPlaysRow.holds Tryd.pinned (OpenSpec.ofChange filterPlaysWrong)

/-- 'latchgarthlaw2.BakeryPlays': WHATEVER THE INPUT: true; the input reads as it did. -/
def bakeryPlaysSpec : ChangeSpec := { name := "bakeryPlays", fn := fun _ => fun
  | [d1, d2] => { results := [.lit (.bool true)], args := [d1, d2] }
  | _ => none }
def bakeryPlaysRow : OpenClaim := { program := "ytgkfgijmccojjaadoor", sum := "403850654c231dbfa47af31869ca803ab9bcf0ef361f0278566f95b95aa54afc", func := "latchgarth/latchgarthlaw2.BakeryPlays", spec := "bakeryPlays", inPlace := ["internal/reflectlite.ValueOf", "(internal/reflectlite.Value).Type", "(internal/reflectlite.Value).IsNil", "internal/reflectlite.TypeOf", "(internal/reflectlite.Value).Elem", "(internal/reflectlite.Value).Set"], unfollowed := true, recurses := true, named := ["errors.errorType"], apart := false, laid := [("errors.errorType", laid_errors_errorType)] }
def BakeryPlaysSaid : Prop := bakeryPlaysRow.holds Tryd.pinned (OpenSpec.ofChange bakeryPlaysSpec)

/-- ITS FALSE NEIGHBOUR: 'it returns false'. Refute it at one input. -/
def bakeryPlaysWrong : ChangeSpec := { name := "bakeryPlays", fn := fun _ => fun
  | [d1, d2] => { results := [.lit (.bool false)], args := [d1, d2] }
  | _ => none }
def BakeryPlaysWrongFalsely : Prop := bakeryPlaysRow.holds Tryd.pinned (OpenSpec.ofChange bakeryPlaysWrong)

/-- 'latchgarthlaw2.FastPlays': WHATEVER THE INPUT: true; the input reads as it did. -/
def fastPlaysSpec : ChangeSpec := { name := "fastPlays", fn := fun _ => fun
  | [d1, d2] => { results := [.lit (.bool true)], args := [d1, d2] }
  | _ => none }
def fastPlaysRow : OpenClaim := { program := "ytgkfgijmccojjaadoor", sum := "403850654c231dbfa47af31869ca803ab9bcf0ef361f0278566f95b95aa54afc", func := "latchgarth/latchgarthlaw2.FastPlays", spec := "fastPlays", inPlace := ["internal/reflectlite.ValueOf", "(internal/reflectlite.Value).Type", "(internal/reflectlite.Value).IsNil", "internal/reflectlite.TypeOf", "(internal/reflectlite.Value).Elem", "(internal/reflectlite.Value).Set"], unfollowed := true, recurses := true, named := ["errors.errorType"], apart := false, laid := [("errors.errorType", laid_errors_errorType)] }
def FastPlaysSaid : Prop := fastPlaysRow.holds Tryd.pinned (OpenSpec.ofChange fastPlaysSpec)

/-- ITS FALSE NEIGHBOUR: 'it returns false'. Refute it at one input. -/
def fastPlaysWrong : ChangeSpec := { name := "fastPlays", fn := fun _ => fun
  | [d1, d2] => { results := [.lit (.bool false)], args := [d1, d2] }
  | _ => none }
def FastPlaysWrongFalsely : Prop := fastPlaysRow.holds Tryd.pinned (OpenSpec.ofChange fastPlaysWrong)

/-- 'latchgarthlaw2.McsPlays': WHATEVER THE INPUT: true; the input reads as it did. -/
def mcsPlaysSpec : ChangeSpec := { name := "mcsPlays", fn := fun _ => fun
  | [d1, d2] => { results := [.lit (.bool true)], args := [d1, d2] }
  | _ => none }
def mcsPlaysRow : OpenClaim := { program := "ytgkfgijmccojjaadoor", sum := "403850654c231dbfa47af31869ca803ab9bcf0ef361f0278566f95b95aa54afc", func := "latchgarth/latchgarthlaw2.McsPlays", spec := "mcsPlays", inPlace := ["internal/reflectlite.ValueOf", "(internal/reflectlite.Value).Type", "(internal/reflectlite.Value).IsNil", "internal/reflectlite.TypeOf", "(internal/reflectlite.Value).Elem", "(internal/reflectlite.Value).Set"], unfollowed := true, recurses := true, named := ["errors.errorType"], apart := false, laid := [("errors.errorType", laid_errors_errorType)] }
def McsPlaysSaid : Prop := mcsPlaysRow.holds Tryd.pinned (OpenSpec.ofChange mcsPlaysSpec)

/-- ITS FALSE NEIGHBOUR: 'it returns false'. Refute it at one input. -/
def mcsPlaysWrong : ChangeSpec := { name := "mcsPlays", fn := fun _ => fun
  | [d1, d2] => { results := [.lit (.bool false)], args := [d1, d2] }
  | _ => none }
def McsPlaysWrongFalsely : Prop := mcsPlaysRow.holds Tryd.pinned (OpenSpec.ofChange mcsPlaysWrong)

/- THE SECOND FORM. 'bulk': how many values and letters a reading holds, each counted each time it is reached (what is shared counts as often as it is met; a slice's spare places count too). A statement '..UptoSaid' is the law's where the arguments, and the package variables that the reading takes, are together of bulk at most 1048576: NARROWER than '..Said'. Prove '..Said' where nothing that the law and all that it calls make is longer than what came in: it says more and counts as full. Else prove '..UptoSaid'. A law counts once. -/
mutual
def uptoBulk {H : Type} : DataW H → Nat
  | .lit (.string bytes) => bytes.length + 1
  | .lit _ => 1
  | .nil => 1
  | .ptr d => uptoBulk d + 1
  | .slice elems spare => uptoBulkAll elems + uptoBulkAll spare + 1
  | .agg parts => uptoBulkAll parts + 1
  | .iface _ d => uptoBulk d + 1
  | .map entries => uptoBulkEntries entries + 1
  | .held _ => 1
def uptoBulkAll {H : Type} : List (DataW H) → Nat
  | [] => 0
  | d :: r => uptoBulk d + uptoBulkAll r
def uptoBulkEntries {H : Type} : List (Lit × DataW H) → Nat
  | [] => 0
  | x :: r => uptoBulkEntry x + uptoBulkEntries r
def uptoBulkEntry {H : Type} : Lit × DataW H → Nat
  | (.string bytes, d) => bytes.length + uptoBulk d + 1
  | (_, d) => uptoBulk d + 1
 end
def uptoSmall : (H : Type) → List (DataW H) → Bool := fun _ ds => decide (uptoBulkAll ds ≤ 1048576)
def OpenSpec.upto (s : _root_.Go.ChangeSpec) : _root_.Go.OpenSpec := { _root_.Go.OpenSpec.ofChange s with cond := some uptoSmall }

/-- 'latchgarthlaw2.PairPlays', WHERE WHAT IT READS IS OF BULK AT MOST 1048576: true; the input reads as it did. -/
def pairPlaysUptoRow : OpenClaim := { program := "ytgkfgijmccojjaadoor", sum := "403850654c231dbfa47af31869ca803ab9bcf0ef361f0278566f95b95aa54afc", func := "latchgarth/latchgarthlaw2.PairPlays", spec := "pairPlays", inPlace := ["internal/reflectlite.ValueOf", "(internal/reflectlite.Value).Type", "(internal/reflectlite.Value).IsNil", "internal/reflectlite.TypeOf", "(internal/reflectlite.Value).Elem", "(internal/reflectlite.Value).Set"], unfollowed := true, recurses := true, named := ["errors.errorType"], apart := false, laid := [("errors.errorType", laid_errors_errorType)], narrowed := true }
def PairPlaysUptoSaid : Prop := pairPlaysUptoRow.holds Tryd.pinned (OpenSpec.upto pairPlaysSpec)

/-- 'latchgarthlaw2.DekkerPlays', WHERE WHAT IT READS IS OF BULK AT MOST 1048576: true; the input reads as it did. -/
def dekkerPlaysUptoRow : OpenClaim := { program := "ytgkfgijmccojjaadoor", sum := "403850654c231dbfa47af31869ca803ab9bcf0ef361f0278566f95b95aa54afc", func := "latchgarth/latchgarthlaw2.DekkerPlays", spec := "dekkerPlays", inPlace := ["internal/reflectlite.ValueOf", "(internal/reflectlite.Value).Type", "(internal/reflectlite.Value).IsNil", "internal/reflectlite.TypeOf", "(internal/reflectlite.Value).Elem", "(internal/reflectlite.Value).Set"], unfollowed := true, recurses := true, named := ["errors.errorType"], apart := false, laid := [("errors.errorType", laid_errors_errorType)], narrowed := true }
def DekkerPlaysUptoSaid : Prop := dekkerPlaysUptoRow.holds Tryd.pinned (OpenSpec.upto dekkerPlaysSpec)

/-- 'latchgarthlaw2.BarrierPlays', WHERE WHAT IT READS IS OF BULK AT MOST 1048576: true; the input reads as it did. -/
def barrierPlaysUptoRow : OpenClaim := { program := "ytgkfgijmccojjaadoor", sum := "403850654c231dbfa47af31869ca803ab9bcf0ef361f0278566f95b95aa54afc", func := "latchgarth/latchgarthlaw2.BarrierPlays", spec := "barrierPlays", inPlace := ["internal/reflectlite.ValueOf", "(internal/reflectlite.Value).Type", "(internal/reflectlite.Value).IsNil", "internal/reflectlite.TypeOf", "(internal/reflectlite.Value).Elem", "(internal/reflectlite.Value).Set"], unfollowed := true, recurses := true, named := ["errors.errorType"], apart := false, laid := [("errors.errorType", laid_errors_errorType)], narrowed := true }
def BarrierPlaysUptoSaid : Prop := barrierPlaysUptoRow.holds Tryd.pinned (OpenSpec.upto barrierPlaysSpec)

/-- 'latchgarthlaw2.ClhPlays', WHERE WHAT IT READS IS OF BULK AT MOST 1048576: true; the input reads as it did. -/
def clhPlaysUptoRow : OpenClaim := { program := "ytgkfgijmccojjaadoor", sum := "403850654c231dbfa47af31869ca803ab9bcf0ef361f0278566f95b95aa54afc", func := "latchgarth/latchgarthlaw2.ClhPlays", spec := "clhPlays", inPlace := ["internal/reflectlite.ValueOf", "(internal/reflectlite.Value).Type", "(internal/reflectlite.Value).IsNil", "internal/reflectlite.TypeOf", "(internal/reflectlite.Value).Elem", "(internal/reflectlite.Value).Set"], unfollowed := true, recurses := true, named := ["errors.errorType"], apart := false, laid := [("errors.errorType", laid_errors_errorType)], narrowed := true }
def ClhPlaysUptoSaid : Prop := clhPlaysUptoRow.holds Tryd.pinned (OpenSpec.upto clhPlaysSpec)

/-- 'latchgarthlaw2.TicketPlays', WHERE WHAT IT READS IS OF BULK AT MOST 1048576: true; the input reads as it did. -/
def ticketPlaysUptoRow : OpenClaim := { program := "ytgkfgijmccojjaadoor", sum := "403850654c231dbfa47af31869ca803ab9bcf0ef361f0278566f95b95aa54afc", func := "latchgarth/latchgarthlaw2.TicketPlays", spec := "ticketPlays", inPlace := ["internal/reflectlite.ValueOf", "(internal/reflectlite.Value).Type", "(internal/reflectlite.Value).IsNil", "internal/reflectlite.TypeOf", "(internal/reflectlite.Value).Elem", "(internal/reflectlite.Value).Set"], unfollowed := true, recurses := true, named := ["errors.errorType"], apart := false, laid := [("errors.errorType", laid_errors_errorType)], narrowed := true }
def TicketPlaysUptoSaid : Prop := ticketPlaysUptoRow.holds Tryd.pinned (OpenSpec.upto ticketPlaysSpec)

/-- 'latchgarthlaw2.SplitPlays', WHERE WHAT IT READS IS OF BULK AT MOST 1048576: true; the input reads as it did. -/
def splitPlaysUptoRow : OpenClaim := { program := "ytgkfgijmccojjaadoor", sum := "403850654c231dbfa47af31869ca803ab9bcf0ef361f0278566f95b95aa54afc", func := "latchgarth/latchgarthlaw2.SplitPlays", spec := "splitPlays", inPlace := ["internal/reflectlite.ValueOf", "(internal/reflectlite.Value).Type", "(internal/reflectlite.Value).IsNil", "internal/reflectlite.TypeOf", "(internal/reflectlite.Value).Elem", "(internal/reflectlite.Value).Set"], unfollowed := true, recurses := true, named := ["errors.errorType"], apart := false, laid := [("errors.errorType", laid_errors_errorType)], narrowed := true }
def SplitPlaysUptoSaid : Prop := splitPlaysUptoRow.holds Tryd.pinned (OpenSpec.upto splitPlaysSpec)

/-- 'latchgarthlaw2.FilterPlays', WHERE WHAT IT READS IS OF BULK AT MOST 1048576: true; the input reads as it did. -/
def filterPlaysUptoRow : OpenClaim := { program := "ytgkfgijmccojjaadoor", sum := "403850654c231dbfa47af31869ca803ab9bcf0ef361f0278566f95b95aa54afc", func := "latchgarth/latchgarthlaw2.FilterPlays", spec := "filterPlays", inPlace := ["internal/reflectlite.ValueOf", "(internal/reflectlite.Value).Type", "(internal/reflectlite.Value).IsNil", "internal/reflectlite.TypeOf", "(internal/reflectlite.Value).Elem", "(internal/reflectlite.Value).Set"], unfollowed := true, recurses := true, named := ["errors.errorType"], apart := false, laid := [("errors.errorType", laid_errors_errorType)], narrowed := true }
def FilterPlaysUptoSaid : Prop := filterPlaysUptoRow.holds Tryd.pinned (OpenSpec.upto filterPlaysSpec)

/-- 'latchgarthlaw2.BakeryPlays', WHERE WHAT IT READS IS OF BULK AT MOST 1048576: true; the input reads as it did. -/
def bakeryPlaysUptoRow : OpenClaim := { program := "ytgkfgijmccojjaadoor", sum := "403850654c231dbfa47af31869ca803ab9bcf0ef361f0278566f95b95aa54afc", func := "latchgarth/latchgarthlaw2.BakeryPlays", spec := "bakeryPlays", inPlace := ["internal/reflectlite.ValueOf", "(internal/reflectlite.Value).Type", "(internal/reflectlite.Value).IsNil", "internal/reflectlite.TypeOf", "(internal/reflectlite.Value).Elem", "(internal/reflectlite.Value).Set"], unfollowed := true, recurses := true, named := ["errors.errorType"], apart := false, laid := [("errors.errorType", laid_errors_errorType)], narrowed := true }
def BakeryPlaysUptoSaid : Prop := bakeryPlaysUptoRow.holds Tryd.pinned (OpenSpec.upto bakeryPlaysSpec)

/-- 'latchgarthlaw2.FastPlays', WHERE WHAT IT READS IS OF BULK AT MOST 1048576: true; the input reads as it did. -/
def fastPlaysUptoRow : OpenClaim := { program := "ytgkfgijmccojjaadoor", sum := "403850654c231dbfa47af31869ca803ab9bcf0ef361f0278566f95b95aa54afc", func := "latchgarth/latchgarthlaw2.FastPlays", spec := "fastPlays", inPlace := ["internal/reflectlite.ValueOf", "(internal/reflectlite.Value).Type", "(internal/reflectlite.Value).IsNil", "internal/reflectlite.TypeOf", "(internal/reflectlite.Value).Elem", "(internal/reflectlite.Value).Set"], unfollowed := true, recurses := true, named := ["errors.errorType"], apart := false, laid := [("errors.errorType", laid_errors_errorType)], narrowed := true }
def FastPlaysUptoSaid : Prop := fastPlaysUptoRow.holds Tryd.pinned (OpenSpec.upto fastPlaysSpec)

/-- 'latchgarthlaw2.McsPlays', WHERE WHAT IT READS IS OF BULK AT MOST 1048576: true; the input reads as it did. -/
def mcsPlaysUptoRow : OpenClaim := { program := "ytgkfgijmccojjaadoor", sum := "403850654c231dbfa47af31869ca803ab9bcf0ef361f0278566f95b95aa54afc", func := "latchgarth/latchgarthlaw2.McsPlays", spec := "mcsPlays", inPlace := ["internal/reflectlite.ValueOf", "(internal/reflectlite.Value).Type", "(internal/reflectlite.Value).IsNil", "internal/reflectlite.TypeOf", "(internal/reflectlite.Value).Elem", "(internal/reflectlite.Value).Set"], unfollowed := true, recurses := true, named := ["errors.errorType"], apart := false, laid := [("errors.errorType", laid_errors_errorType)], narrowed := true }
def McsPlaysUptoSaid : Prop := mcsPlaysUptoRow.holds Tryd.pinned (OpenSpec.upto mcsPlaysSpec)

end Rows
end Go.Proofs.YtgkfgijmccojjaaDoor
