/-
  DERIVED. GIVEN WITH THE SEED: THE CARDS: each row of YtcldaaebncclmaaDoorRows.lean that lists a variable, with what it lists TIED to the program's text (the seventh form; the later family's looks); each row that meets fmt, with fmt's text TOLD by the authors' own Lean function (tested against real Go, not proved from fmt's source: count such statements apart). THE CARD IS WHAT COUNTS. Prove the row's statement (the work); the ties are given (YtcldaaebncclmaaDoorTie.lean); close each card by the builder's one call (the guide's Derived/Test/ToyasCard.lean, 'card_holds'). Laid BY PROGRAM, IN A SANDBOX (cutbox-door.mjs). By AI agents, Wed Nov 11 2026. No macro, syntax, notation, axiom, sorry.
-/
import Derived.Test.YtcldaaebncclmaaDoorRows
import GoSem.ClaimSeven
namespace Go.Proofs.YtcldaaebncclmaaDoor
namespace Rows

/-- THE TIED CARD OF 'platterholdlaw3.LfsPlays'. -/
def lfsPlaysCard : Claim7 := { stood := { row := lfsPlaysRow, standIns := [], harness := (true, "ecbdb79dd48947b855396957a4d850ef9fa1806b9c4bd21938d236f20611abc0"), looks := true }, kinds := [], alts := [], laidByText := true, laidKinds := [.handle], laidTests := true, laidLooks := .later }
def LfsPlaysCardSaid : Prop := Claim7.holds Tryd.pinned (.plain (OpenSpec.ofChange lfsPlaysSpec)) lfsPlaysCard

/-- THE TIED CARD OF 'platterholdlaw3.SoftPlays'. -/
def softPlaysCard : Claim7 := { stood := { row := softPlaysRow, standIns := [], harness := (true, "ecbdb79dd48947b855396957a4d850ef9fa1806b9c4bd21938d236f20611abc0"), looks := true }, kinds := [], alts := [], laidByText := true, laidKinds := [.handle], laidTests := true, laidLooks := .later }
def SoftPlaysCardSaid : Prop := Claim7.holds Tryd.pinned (.plain (OpenSpec.ofChange softPlaysSpec)) softPlaysCard

/-- THE SECOND FORM's CARD OF 'platterholdlaw3.LfsPlays'. -/
def lfsPlaysUptoCard : Claim7 := { stood := { row := lfsPlaysUptoRow, standIns := [], harness := (true, "ecbdb79dd48947b855396957a4d850ef9fa1806b9c4bd21938d236f20611abc0"), looks := true }, kinds := [], alts := [], laidByText := true, laidKinds := [.handle], laidTests := true, laidLooks := .later }
def LfsPlaysUptoCardSaid : Prop := Claim7.holds Tryd.pinned (.plain (OpenSpec.upto lfsPlaysSpec)) lfsPlaysUptoCard

/-- THE SECOND FORM's CARD OF 'platterholdlaw3.SoftPlays'. -/
def softPlaysUptoCard : Claim7 := { stood := { row := softPlaysUptoRow, standIns := [], harness := (true, "ecbdb79dd48947b855396957a4d850ef9fa1806b9c4bd21938d236f20611abc0"), looks := true }, kinds := [], alts := [], laidByText := true, laidKinds := [.handle], laidTests := true, laidLooks := .later }
def SoftPlaysUptoCardSaid : Prop := Claim7.holds Tryd.pinned (.plain (OpenSpec.upto softPlaysSpec)) softPlaysUptoCard
end Rows
end Go.Proofs.YtcldaaebncclmaaDoor
