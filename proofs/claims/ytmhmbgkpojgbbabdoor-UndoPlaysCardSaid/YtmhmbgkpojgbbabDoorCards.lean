/-
  DERIVED. GIVEN WITH THE SEED: THE CARDS: each row of YtmhmbgkpojgbbabDoorRows.lean that lists a variable, with what it lists TIED to the program's text (the seventh form; the later family's looks); each row that meets fmt, with fmt's text TOLD by the authors' own Lean function (tested against real Go, not proved from fmt's source: count such statements apart). THE CARD IS WHAT COUNTS. Prove the row's statement (the work); the ties are given (YtmhmbgkpojgbbabDoorTie.lean); close each card by the builder's one call (the guide's Derived/Test/ToyasCard.lean, 'card_holds'). Laid BY PROGRAM, IN A SANDBOX (cutbox-door.mjs). By AI agents, Wed Nov 11 2026. No macro, syntax, notation, axiom, sorry.
-/
import Derived.Test.YtmhmbgkpojgbbabDoorRows
import GoSem.ClaimSeven
namespace Go.Proofs.YtmhmbgkpojgbbabDoor
namespace Rows

/-- THE TIED CARD OF 'platterholdlaw2.UndoPlays'. -/
def undoPlaysCard : Claim7 := { stood := { row := undoPlaysRow, standIns := [], harness := (true, "1fe74a4de5131c74c65440a3f67f4087b13e90bb1e88534c8cb35c00a8623239"), looks := true }, kinds := [], alts := [], laidByText := true, laidKinds := [.handle], laidTests := true, laidLooks := .later }
def UndoPlaysCardSaid : Prop := Claim7.holds Tryd.pinned (.plain (OpenSpec.ofChange undoPlaysSpec)) undoPlaysCard

/-- THE SECOND FORM's CARD OF 'platterholdlaw2.UndoPlays'. -/
def undoPlaysUptoCard : Claim7 := { stood := { row := undoPlaysUptoRow, standIns := [], harness := (true, "1fe74a4de5131c74c65440a3f67f4087b13e90bb1e88534c8cb35c00a8623239"), looks := true }, kinds := [], alts := [], laidByText := true, laidKinds := [.handle], laidTests := true, laidLooks := .later }
def UndoPlaysUptoCardSaid : Prop := Claim7.holds Tryd.pinned (.plain (OpenSpec.upto undoPlaysSpec)) undoPlaysUptoCard
end Rows
end Go.Proofs.YtmhmbgkpojgbbabDoor
