/-
  DERIVED. GIVEN WITH THE SEED: THE CARDS: each row of YtgkfgijmccojjaaDoorRows.lean that lists a variable, with what it lists TIED to the program's text (the seventh form; the later family's looks); each row that meets fmt, with fmt's text TOLD by the authors' own Lean function (tested against real Go, not proved from fmt's source: count such statements apart). THE CARD IS WHAT COUNTS. Prove the row's statement (the work); the ties are given (YtgkfgijmccojjaaDoorTie.lean); close each card by the builder's one call (the guide's Derived/Test/ToyasCard.lean, 'card_holds'). Laid BY PROGRAM, IN A SANDBOX (cutbox-door.mjs). By AI agents, Wed Nov 11 2026. No macro, syntax, notation, axiom, sorry.
-/
import Derived.Test.YtgkfgijmccojjaaDoorRows
import GoSem.ClaimSeven
namespace Go.Proofs.YtgkfgijmccojjaaDoor
namespace Rows

/-- THE TIED CARD OF 'latchgarthlaw2.PairPlays'. -/
def pairPlaysCard : Claim7 := { stood := { row := pairPlaysRow, standIns := [], harness := (true, "eacaedcdd1efa5f1ebe70f1fabad5bd94b320f3269e524b5adea17f3df18cc05"), looks := true }, kinds := [], alts := [], laidByText := true, laidKinds := [.handle], laidTests := true, laidLooks := .later }
def PairPlaysCardSaid : Prop := Claim7.holds Tryd.pinned (.plain (OpenSpec.ofChange pairPlaysSpec)) pairPlaysCard

/-- THE TIED CARD OF 'latchgarthlaw2.DekkerPlays'. -/
def dekkerPlaysCard : Claim7 := { stood := { row := dekkerPlaysRow, standIns := [], harness := (true, "eacaedcdd1efa5f1ebe70f1fabad5bd94b320f3269e524b5adea17f3df18cc05"), looks := true }, kinds := [], alts := [], laidByText := true, laidKinds := [.handle], laidTests := true, laidLooks := .later }
def DekkerPlaysCardSaid : Prop := Claim7.holds Tryd.pinned (.plain (OpenSpec.ofChange dekkerPlaysSpec)) dekkerPlaysCard

/-- THE TIED CARD OF 'latchgarthlaw2.BarrierPlays'. -/
def barrierPlaysCard : Claim7 := { stood := { row := barrierPlaysRow, standIns := [], harness := (true, "eacaedcdd1efa5f1ebe70f1fabad5bd94b320f3269e524b5adea17f3df18cc05"), looks := true }, kinds := [], alts := [], laidByText := true, laidKinds := [.handle], laidTests := true, laidLooks := .later }
def BarrierPlaysCardSaid : Prop := Claim7.holds Tryd.pinned (.plain (OpenSpec.ofChange barrierPlaysSpec)) barrierPlaysCard

/-- THE TIED CARD OF 'latchgarthlaw2.ClhPlays'. -/
def clhPlaysCard : Claim7 := { stood := { row := clhPlaysRow, standIns := [], harness := (true, "eacaedcdd1efa5f1ebe70f1fabad5bd94b320f3269e524b5adea17f3df18cc05"), looks := true }, kinds := [], alts := [], laidByText := true, laidKinds := [.handle], laidTests := true, laidLooks := .later }
def ClhPlaysCardSaid : Prop := Claim7.holds Tryd.pinned (.plain (OpenSpec.ofChange clhPlaysSpec)) clhPlaysCard

/-- THE TIED CARD OF 'latchgarthlaw2.TicketPlays'. -/
def ticketPlaysCard : Claim7 := { stood := { row := ticketPlaysRow, standIns := [], harness := (true, "eacaedcdd1efa5f1ebe70f1fabad5bd94b320f3269e524b5adea17f3df18cc05"), looks := true }, kinds := [], alts := [], laidByText := true, laidKinds := [.handle], laidTests := true, laidLooks := .later }
def TicketPlaysCardSaid : Prop := Claim7.holds Tryd.pinned (.plain (OpenSpec.ofChange ticketPlaysSpec)) ticketPlaysCard

/-- THE TIED CARD OF 'latchgarthlaw2.SplitPlays'. -/
def splitPlaysCard : Claim7 := { stood := { row := splitPlaysRow, standIns := [], harness := (true, "eacaedcdd1efa5f1ebe70f1fabad5bd94b320f3269e524b5adea17f3df18cc05"), looks := true }, kinds := [], alts := [], laidByText := true, laidKinds := [.handle], laidTests := true, laidLooks := .later }
def SplitPlaysCardSaid : Prop := Claim7.holds Tryd.pinned (.plain (OpenSpec.ofChange splitPlaysSpec)) splitPlaysCard

/-- THE TIED CARD OF 'latchgarthlaw2.FilterPlays'. -/
def filterPlaysCard : Claim7 := { stood := { row := filterPlaysRow, standIns := [], harness := (true, "eacaedcdd1efa5f1ebe70f1fabad5bd94b320f3269e524b5adea17f3df18cc05"), looks := true }, kinds := [], alts := [], laidByText := true, laidKinds := [.handle], laidTests := true, laidLooks := .later }
def FilterPlaysCardSaid : Prop := Claim7.holds Tryd.pinned (.plain (OpenSpec.ofChange filterPlaysSpec)) filterPlaysCard

/-- THE TIED CARD OF 'latchgarthlaw2.BakeryPlays'. -/
def bakeryPlaysCard : Claim7 := { stood := { row := bakeryPlaysRow, standIns := [], harness := (true, "eacaedcdd1efa5f1ebe70f1fabad5bd94b320f3269e524b5adea17f3df18cc05"), looks := true }, kinds := [], alts := [], laidByText := true, laidKinds := [.handle], laidTests := true, laidLooks := .later }
def BakeryPlaysCardSaid : Prop := Claim7.holds Tryd.pinned (.plain (OpenSpec.ofChange bakeryPlaysSpec)) bakeryPlaysCard

/-- THE TIED CARD OF 'latchgarthlaw2.FastPlays'. -/
def fastPlaysCard : Claim7 := { stood := { row := fastPlaysRow, standIns := [], harness := (true, "eacaedcdd1efa5f1ebe70f1fabad5bd94b320f3269e524b5adea17f3df18cc05"), looks := true }, kinds := [], alts := [], laidByText := true, laidKinds := [.handle], laidTests := true, laidLooks := .later }
def FastPlaysCardSaid : Prop := Claim7.holds Tryd.pinned (.plain (OpenSpec.ofChange fastPlaysSpec)) fastPlaysCard

/-- THE TIED CARD OF 'latchgarthlaw2.McsPlays'. -/
def mcsPlaysCard : Claim7 := { stood := { row := mcsPlaysRow, standIns := [], harness := (true, "eacaedcdd1efa5f1ebe70f1fabad5bd94b320f3269e524b5adea17f3df18cc05"), looks := true }, kinds := [], alts := [], laidByText := true, laidKinds := [.handle], laidTests := true, laidLooks := .later }
def McsPlaysCardSaid : Prop := Claim7.holds Tryd.pinned (.plain (OpenSpec.ofChange mcsPlaysSpec)) mcsPlaysCard

/-- THE SECOND FORM's CARD OF 'latchgarthlaw2.PairPlays'. -/
def pairPlaysUptoCard : Claim7 := { stood := { row := pairPlaysUptoRow, standIns := [], harness := (true, "eacaedcdd1efa5f1ebe70f1fabad5bd94b320f3269e524b5adea17f3df18cc05"), looks := true }, kinds := [], alts := [], laidByText := true, laidKinds := [.handle], laidTests := true, laidLooks := .later }
def PairPlaysUptoCardSaid : Prop := Claim7.holds Tryd.pinned (.plain (OpenSpec.upto pairPlaysSpec)) pairPlaysUptoCard

/-- THE SECOND FORM's CARD OF 'latchgarthlaw2.DekkerPlays'. -/
def dekkerPlaysUptoCard : Claim7 := { stood := { row := dekkerPlaysUptoRow, standIns := [], harness := (true, "eacaedcdd1efa5f1ebe70f1fabad5bd94b320f3269e524b5adea17f3df18cc05"), looks := true }, kinds := [], alts := [], laidByText := true, laidKinds := [.handle], laidTests := true, laidLooks := .later }
def DekkerPlaysUptoCardSaid : Prop := Claim7.holds Tryd.pinned (.plain (OpenSpec.upto dekkerPlaysSpec)) dekkerPlaysUptoCard

/-- THE SECOND FORM's CARD OF 'latchgarthlaw2.BarrierPlays'. -/
def barrierPlaysUptoCard : Claim7 := { stood := { row := barrierPlaysUptoRow, standIns := [], harness := (true, "eacaedcdd1efa5f1ebe70f1fabad5bd94b320f3269e524b5adea17f3df18cc05"), looks := true }, kinds := [], alts := [], laidByText := true, laidKinds := [.handle], laidTests := true, laidLooks := .later }
def BarrierPlaysUptoCardSaid : Prop := Claim7.holds Tryd.pinned (.plain (OpenSpec.upto barrierPlaysSpec)) barrierPlaysUptoCard

/-- THE SECOND FORM's CARD OF 'latchgarthlaw2.ClhPlays'. -/
def clhPlaysUptoCard : Claim7 := { stood := { row := clhPlaysUptoRow, standIns := [], harness := (true, "eacaedcdd1efa5f1ebe70f1fabad5bd94b320f3269e524b5adea17f3df18cc05"), looks := true }, kinds := [], alts := [], laidByText := true, laidKinds := [.handle], laidTests := true, laidLooks := .later }
def ClhPlaysUptoCardSaid : Prop := Claim7.holds Tryd.pinned (.plain (OpenSpec.upto clhPlaysSpec)) clhPlaysUptoCard

/-- THE SECOND FORM's CARD OF 'latchgarthlaw2.TicketPlays'. -/
def ticketPlaysUptoCard : Claim7 := { stood := { row := ticketPlaysUptoRow, standIns := [], harness := (true, "eacaedcdd1efa5f1ebe70f1fabad5bd94b320f3269e524b5adea17f3df18cc05"), looks := true }, kinds := [], alts := [], laidByText := true, laidKinds := [.handle], laidTests := true, laidLooks := .later }
def TicketPlaysUptoCardSaid : Prop := Claim7.holds Tryd.pinned (.plain (OpenSpec.upto ticketPlaysSpec)) ticketPlaysUptoCard

/-- THE SECOND FORM's CARD OF 'latchgarthlaw2.SplitPlays'. -/
def splitPlaysUptoCard : Claim7 := { stood := { row := splitPlaysUptoRow, standIns := [], harness := (true, "eacaedcdd1efa5f1ebe70f1fabad5bd94b320f3269e524b5adea17f3df18cc05"), looks := true }, kinds := [], alts := [], laidByText := true, laidKinds := [.handle], laidTests := true, laidLooks := .later }
def SplitPlaysUptoCardSaid : Prop := Claim7.holds Tryd.pinned (.plain (OpenSpec.upto splitPlaysSpec)) splitPlaysUptoCard

/-- THE SECOND FORM's CARD OF 'latchgarthlaw2.FilterPlays'. -/
def filterPlaysUptoCard : Claim7 := { stood := { row := filterPlaysUptoRow, standIns := [], harness := (true, "eacaedcdd1efa5f1ebe70f1fabad5bd94b320f3269e524b5adea17f3df18cc05"), looks := true }, kinds := [], alts := [], laidByText := true, laidKinds := [.handle], laidTests := true, laidLooks := .later }
def FilterPlaysUptoCardSaid : Prop := Claim7.holds Tryd.pinned (.plain (OpenSpec.upto filterPlaysSpec)) filterPlaysUptoCard

/-- THE SECOND FORM's CARD OF 'latchgarthlaw2.BakeryPlays'. -/
def bakeryPlaysUptoCard : Claim7 := { stood := { row := bakeryPlaysUptoRow, standIns := [], harness := (true, "eacaedcdd1efa5f1ebe70f1fabad5bd94b320f3269e524b5adea17f3df18cc05"), looks := true }, kinds := [], alts := [], laidByText := true, laidKinds := [.handle], laidTests := true, laidLooks := .later }
def BakeryPlaysUptoCardSaid : Prop := Claim7.holds Tryd.pinned (.plain (OpenSpec.upto bakeryPlaysSpec)) bakeryPlaysUptoCard

/-- THE SECOND FORM's CARD OF 'latchgarthlaw2.FastPlays'. -/
def fastPlaysUptoCard : Claim7 := { stood := { row := fastPlaysUptoRow, standIns := [], harness := (true, "eacaedcdd1efa5f1ebe70f1fabad5bd94b320f3269e524b5adea17f3df18cc05"), looks := true }, kinds := [], alts := [], laidByText := true, laidKinds := [.handle], laidTests := true, laidLooks := .later }
def FastPlaysUptoCardSaid : Prop := Claim7.holds Tryd.pinned (.plain (OpenSpec.upto fastPlaysSpec)) fastPlaysUptoCard

/-- THE SECOND FORM's CARD OF 'latchgarthlaw2.McsPlays'. -/
def mcsPlaysUptoCard : Claim7 := { stood := { row := mcsPlaysUptoRow, standIns := [], harness := (true, "eacaedcdd1efa5f1ebe70f1fabad5bd94b320f3269e524b5adea17f3df18cc05"), looks := true }, kinds := [], alts := [], laidByText := true, laidKinds := [.handle], laidTests := true, laidLooks := .later }
def McsPlaysUptoCardSaid : Prop := Claim7.holds Tryd.pinned (.plain (OpenSpec.upto mcsPlaysSpec)) mcsPlaysUptoCard
end Rows
end Go.Proofs.YtgkfgijmccojjaaDoor
