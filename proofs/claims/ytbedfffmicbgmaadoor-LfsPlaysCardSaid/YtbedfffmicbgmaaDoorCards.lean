/-
  DERIVED. GIVEN WITH THE SEED: THE CARDS: each row of YtbedfffmicbgmaaDoorRows.lean that lists a variable, with what it lists TIED to the program's text (the seventh form; the later family's looks); each row that meets fmt, with fmt's text TOLD by the authors' own Lean function (tested against real Go, not proved from fmt's source: count such statements apart). THE CARD IS WHAT COUNTS. Prove the row's statement (the work); the ties are given (YtbedfffmicbgmaaDoorTie.lean); close each card by the builder's one call (the guide's Derived/Test/ToyasCard.lean, 'card_holds'). Laid BY PROGRAM, IN A SANDBOX (cutbox-door.mjs). By AI agents, Wed Nov 11 2026. No macro, syntax, notation, axiom, sorry.
-/
import Derived.Test.YtbedfffmicbgmaaDoorRows
import GoSem.ClaimSeven
namespace Go.Proofs.YtbedfffmicbgmaaDoor
namespace Rows

/-- THE TIED CARD OF 'platterholdlaw3.LfsPlays'. -/
def lfsPlaysCard : Claim7 := { stood := { row := lfsPlaysRow, standIns := [], harness := (true, "c2b90e5a2475a46a1b4555b479f44c2c6192ded893a69bfb8091e6e9f6d4209e"), looks := true }, kinds := [], alts := [], laidByText := true, laidKinds := [.handle], laidTests := true, laidLooks := .later }
def LfsPlaysCardSaid : Prop := Claim7.holds Tryd.pinned (.plain (OpenSpec.ofChange lfsPlaysSpec)) lfsPlaysCard

/-- THE TIED CARD OF 'platterholdlaw3.CowPlays'. -/
def cowPlaysCard : Claim7 := { stood := { row := cowPlaysRow, standIns := [], harness := (true, "c2b90e5a2475a46a1b4555b479f44c2c6192ded893a69bfb8091e6e9f6d4209e"), looks := true }, kinds := [], alts := [], laidByText := true, laidKinds := [.handle], laidTests := true, laidLooks := .later }
def CowPlaysCardSaid : Prop := Claim7.holds Tryd.pinned (.plain (OpenSpec.ofChange cowPlaysSpec)) cowPlaysCard

/-- THE SECOND FORM's CARD OF 'platterholdlaw3.LfsPlays'. -/
def lfsPlaysUptoCard : Claim7 := { stood := { row := lfsPlaysUptoRow, standIns := [], harness := (true, "c2b90e5a2475a46a1b4555b479f44c2c6192ded893a69bfb8091e6e9f6d4209e"), looks := true }, kinds := [], alts := [], laidByText := true, laidKinds := [.handle], laidTests := true, laidLooks := .later }
def LfsPlaysUptoCardSaid : Prop := Claim7.holds Tryd.pinned (.plain (OpenSpec.upto lfsPlaysSpec)) lfsPlaysUptoCard

/-- THE SECOND FORM's CARD OF 'platterholdlaw3.CowPlays'. -/
def cowPlaysUptoCard : Claim7 := { stood := { row := cowPlaysUptoRow, standIns := [], harness := (true, "c2b90e5a2475a46a1b4555b479f44c2c6192ded893a69bfb8091e6e9f6d4209e"), looks := true }, kinds := [], alts := [], laidByText := true, laidKinds := [.handle], laidTests := true, laidLooks := .later }
def CowPlaysUptoCardSaid : Prop := Claim7.holds Tryd.pinned (.plain (OpenSpec.upto cowPlaysSpec)) cowPlaysUptoCard
end Rows
end Go.Proofs.YtbedfffmicbgmaaDoor
