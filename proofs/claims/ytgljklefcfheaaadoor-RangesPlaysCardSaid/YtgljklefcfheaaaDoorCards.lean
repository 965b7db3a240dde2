/-
  DERIVED. GIVEN WITH THE SEED: THE CARDS: each row of YtgljklefcfheaaaDoorRows.lean that lists a variable, with what it lists TIED to the program's text (the seventh form; the later family's looks); each row that meets fmt, with fmt's text TOLD by the authors' own Lean function (tested against real Go, not proved from fmt's source: count such statements apart). THE CARD IS WHAT COUNTS. Prove the row's statement (the work); the ties are given (YtgljklefcfheaaaDoorTie.lean); close each card by the builder's one call (the guide's Derived/Test/ToyasCard.lean, 'card_holds'). Laid BY PROGRAM, IN A SANDBOX (cutbox-door.mjs). By AI agents, Wed Nov 11 2026. No macro, syntax, notation, axiom, sorry.
-/
import Derived.Test.YtgljklefcfheaaaDoorRows
import GoSem.ClaimSeven
namespace Go.Proofs.YtgljklefcfheaaaDoor
namespace Rows

/-- THE TIED CARD OF 'platterholdlaw2.RangesAlone'. -/
def rangesAloneCard : Claim7 := { stood := { row := rangesAloneRow, standIns := [], harness := (true, "1505fab406aa4365ba12d19437f0eb14dcb3fce6f1322580332b717a63ca8319"), looks := true }, kinds := [], alts := [], laidByText := true, laidKinds := [.handle], laidTests := true, laidLooks := .later }
def RangesAloneCardSaid : Prop := Claim7.holds Tryd.pinned (.plain (OpenSpec.ofChange rangesAloneSpec)) rangesAloneCard

/-- THE TIED CARD OF 'platterholdtop.TopLocks'. -/
def topLocksCard : Claim7 := { stood := { row := topLocksRow, standIns := [], harness := (true, "1505fab406aa4365ba12d19437f0eb14dcb3fce6f1322580332b717a63ca8319"), looks := true }, kinds := [], alts := [], laidByText := true, laidKinds := [.handle], laidTests := true, laidLooks := .later }
def TopLocksCardSaid : Prop := Claim7.holds Tryd.pinned (.plain (OpenSpec.ofChange topLocksSpec)) topLocksCard

/-- THE TIED CARD OF 'platterholdlaw2.RangesOne'. -/
def rangesOneCard : Claim7 := { stood := { row := rangesOneRow, standIns := [], harness := (true, "1505fab406aa4365ba12d19437f0eb14dcb3fce6f1322580332b717a63ca8319"), looks := true }, kinds := [], alts := [], laidByText := true, laidKinds := [.handle], laidTests := true, laidLooks := .later }
def RangesOneCardSaid : Prop := Claim7.holds Tryd.pinned (.plain (OpenSpec.ofChange rangesOneSpec)) rangesOneCard

/-- THE TIED CARD OF 'platterholdlaw2.RangesFree'. -/
def rangesFreeCard : Claim7 := { stood := { row := rangesFreeRow, standIns := [], harness := (true, "1505fab406aa4365ba12d19437f0eb14dcb3fce6f1322580332b717a63ca8319"), looks := true }, kinds := [], alts := [], laidByText := true, laidKinds := [.handle], laidTests := true, laidLooks := .later }
def RangesFreeCardSaid : Prop := Claim7.holds Tryd.pinned (.plain (OpenSpec.ofChange rangesFreeSpec)) rangesFreeCard

/-- THE TIED CARD OF 'platterholdlaw2.RangesPlays'. -/
def rangesPlaysCard : Claim7 := { stood := { row := rangesPlaysRow, standIns := [], harness := (true, "1505fab406aa4365ba12d19437f0eb14dcb3fce6f1322580332b717a63ca8319"), looks := true }, kinds := [], alts := [], laidByText := true, laidKinds := [.handle], laidTests := true, laidLooks := .later }
def RangesPlaysCardSaid : Prop := Claim7.holds Tryd.pinned (.plain (OpenSpec.ofChange rangesPlaysSpec)) rangesPlaysCard

/-- THE TIED CARD OF 'platterholdlaw2.ModeSays'. -/
def modeSaysCard : Claim7 := { stood := { row := modeSaysRow, standIns := [], harness := (true, "1505fab406aa4365ba12d19437f0eb14dcb3fce6f1322580332b717a63ca8319"), looks := true }, kinds := [], alts := [], laidByText := true, laidKinds := [.handle], laidTests := true, laidLooks := .later }
def ModeSaysCardSaid : Prop := Claim7.holds Tryd.pinned (.plain (OpenSpec.ofChange modeSaysSpec)) modeSaysCard

/-- THE SECOND FORM's CARD OF 'platterholdlaw2.RangesAlone'. -/
def rangesAloneUptoCard : Claim7 := { stood := { row := rangesAloneUptoRow, standIns := [], harness := (true, "1505fab406aa4365ba12d19437f0eb14dcb3fce6f1322580332b717a63ca8319"), looks := true }, kinds := [], alts := [], laidByText := true, laidKinds := [.handle], laidTests := true, laidLooks := .later }
def RangesAloneUptoCardSaid : Prop := Claim7.holds Tryd.pinned (.plain (OpenSpec.upto rangesAloneSpec)) rangesAloneUptoCard

/-- THE SECOND FORM's CARD OF 'platterholdtop.TopLocks'. -/
def topLocksUptoCard : Claim7 := { stood := { row := topLocksUptoRow, standIns := [], harness := (true, "1505fab406aa4365ba12d19437f0eb14dcb3fce6f1322580332b717a63ca8319"), looks := true }, kinds := [], alts := [], laidByText := true, laidKinds := [.handle], laidTests := true, laidLooks := .later }
def TopLocksUptoCardSaid : Prop := Claim7.holds Tryd.pinned (.plain (OpenSpec.upto topLocksSpec)) topLocksUptoCard

/-- THE SECOND FORM's CARD OF 'platterholdlaw2.RangesOne'. -/
def rangesOneUptoCard : Claim7 := { stood := { row := rangesOneUptoRow, standIns := [], harness := (true, "1505fab406aa4365ba12d19437f0eb14dcb3fce6f1322580332b717a63ca8319"), looks := true }, kinds := [], alts := [], laidByText := true, laidKinds := [.handle], laidTests := true, laidLooks := .later }
def RangesOneUptoCardSaid : Prop := Claim7.holds Tryd.pinned (.plain (OpenSpec.upto rangesOneSpec)) rangesOneUptoCard

/-- THE SECOND FORM's CARD OF 'platterholdlaw2.RangesFree'. -/
def rangesFreeUptoCard : Claim7 := { stood := { row := rangesFreeUptoRow, standIns := [], harness := (true, "1505fab406aa4365ba12d19437f0eb14dcb3fce6f1322580332b717a63ca8319"), looks := true }, kinds := [], alts := [], laidByText := true, laidKinds := [.handle], laidTests := true, laidLooks := .later }
def RangesFreeUptoCardSaid : Prop := Claim7.holds Tryd.pinned (.plain (OpenSpec.upto rangesFreeSpec)) rangesFreeUptoCard

/-- THE SECOND FORM's CARD OF 'platterholdlaw2.RangesPlays'. -/
def rangesPlaysUptoCard : Claim7 := { stood := { row := rangesPlaysUptoRow, standIns := [], harness := (true, "1505fab406aa4365ba12d19437f0eb14dcb3fce6f1322580332b717a63ca8319"), looks := true }, kinds := [], alts := [], laidByText := true, laidKinds := [.handle], laidTests := true, laidLooks := .later }
def RangesPlaysUptoCardSaid : Prop := Claim7.holds Tryd.pinned (.plain (OpenSpec.upto rangesPlaysSpec)) rangesPlaysUptoCard

/-- THE SECOND FORM's CARD OF 'platterholdlaw2.ModeSays'. -/
def modeSaysUptoCard : Claim7 := { stood := { row := modeSaysUptoRow, standIns := [], harness := (true, "1505fab406aa4365ba12d19437f0eb14dcb3fce6f1322580332b717a63ca8319"), looks := true }, kinds := [], alts := [], laidByText := true, laidKinds := [.handle], laidTests := true, laidLooks := .later }
def ModeSaysUptoCardSaid : Prop := Claim7.holds Tryd.pinned (.plain (OpenSpec.upto modeSaysSpec)) modeSaysUptoCard
end Rows
end Go.Proofs.YtgljklefcfheaaaDoor
