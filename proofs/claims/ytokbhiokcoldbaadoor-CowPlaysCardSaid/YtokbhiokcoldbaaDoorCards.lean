/-
  DERIVED. GIVEN WITH THE SEED: THE CARDS: each row of YtokbhiokcoldbaaDoorRows.lean that lists a variable, with what it lists TIED to the program's text (the seventh form; the later family's looks); each row that meets fmt, with fmt's text TOLD by the authors' own Lean function (tested against real Go, not proved from fmt's source: count such statements apart). THE CARD IS WHAT COUNTS. Prove the row's statement (the work); the ties are given (YtokbhiokcoldbaaDoorTie.lean); close each card by the builder's one call (the guide's Derived/Test/ToyasCard.lean, 'card_holds'). Laid BY PROGRAM, IN A SANDBOX (cutbox-door.mjs). By AI agents, Wed Nov 11 2026. No macro, syntax, notation, axiom, sorry.
-/
import Derived.Test.YtokbhiokcoldbaaDoorRows
import GoSem.ClaimSeven
namespace Go.Proofs.YtokbhiokcoldbaaDoor
namespace Rows

/-- THE TIED CARD OF 'platterholdlaw3.CowPlays'. -/
def cowPlaysCard : Claim7 := { stood := { row := cowPlaysRow, standIns := [], harness := (true, "2c5b415211843d6decb17f4817c1dcba200d388d446776d08835c70600214785"), looks := true }, kinds := [], alts := [], laidByText := true, laidKinds := [.handle], laidTests := true, laidLooks := .later }
def CowPlaysCardSaid : Prop := Claim7.holds Tryd.pinned (.plain (OpenSpec.ofChange cowPlaysSpec)) cowPlaysCard

/-- THE TIED CARD OF 'platterholdlaw3.BtreePlays'. -/
def btreePlaysCard : Claim7 := { stood := { row := btreePlaysRow, standIns := [], harness := (true, "2c5b415211843d6decb17f4817c1dcba200d388d446776d08835c70600214785"), looks := true }, kinds := [], alts := [], laidByText := true, laidKinds := [.handle], laidTests := true, laidLooks := .later }
def BtreePlaysCardSaid : Prop := Claim7.holds Tryd.pinned (.plain (OpenSpec.ofChange btreePlaysSpec)) btreePlaysCard

/-- THE TIED CARD OF 'platterholdlaw3.LsmGets'. -/
def lsmGetsCard : Claim7 := { stood := { row := lsmGetsRow, standIns := [], harness := (true, "2c5b415211843d6decb17f4817c1dcba200d388d446776d08835c70600214785"), looks := true }, kinds := [], alts := [], laidByText := true, laidKinds := [.handle], laidTests := true, laidLooks := .later }
def LsmGetsCardSaid : Prop := Claim7.holds Tryd.pinned (.plain (OpenSpec.ofChange lsmGetsSpec)) lsmGetsCard

/-- THE TIED CARD OF 'platterholdlaw3.LsmMerge'. -/
def lsmMergeCard : Claim7 := { stood := { row := lsmMergeRow, standIns := [], harness := (true, "2c5b415211843d6decb17f4817c1dcba200d388d446776d08835c70600214785"), looks := true }, kinds := [], alts := [], laidByText := true, laidKinds := [.handle], laidTests := true, laidLooks := .later }
def LsmMergeCardSaid : Prop := Claim7.holds Tryd.pinned (.plain (OpenSpec.ofChange lsmMergeSpec)) lsmMergeCard

/-- THE TIED CARD OF 'platterholdlaw3.LsmPlays'. -/
def lsmPlaysCard : Claim7 := { stood := { row := lsmPlaysRow, standIns := [], harness := (true, "2c5b415211843d6decb17f4817c1dcba200d388d446776d08835c70600214785"), looks := true }, kinds := [], alts := [], laidByText := true, laidKinds := [.handle], laidTests := true, laidLooks := .later }
def LsmPlaysCardSaid : Prop := Claim7.holds Tryd.pinned (.plain (OpenSpec.ofChange lsmPlaysSpec)) lsmPlaysCard

/-- THE SECOND FORM's CARD OF 'platterholdlaw3.CowPlays'. -/
def cowPlaysUptoCard : Claim7 := { stood := { row := cowPlaysUptoRow, standIns := [], harness := (true, "2c5b415211843d6decb17f4817c1dcba200d388d446776d08835c70600214785"), looks := true }, kinds := [], alts := [], laidByText := true, laidKinds := [.handle], laidTests := true, laidLooks := .later }
def CowPlaysUptoCardSaid : Prop := Claim7.holds Tryd.pinned (.plain (OpenSpec.upto cowPlaysSpec)) cowPlaysUptoCard

/-- THE SECOND FORM's CARD OF 'platterholdlaw3.BtreePlays'. -/
def btreePlaysUptoCard : Claim7 := { stood := { row := btreePlaysUptoRow, standIns := [], harness := (true, "2c5b415211843d6decb17f4817c1dcba200d388d446776d08835c70600214785"), looks := true }, kinds := [], alts := [], laidByText := true, laidKinds := [.handle], laidTests := true, laidLooks := .later }
def BtreePlaysUptoCardSaid : Prop := Claim7.holds Tryd.pinned (.plain (OpenSpec.upto btreePlaysSpec)) btreePlaysUptoCard

/-- THE SECOND FORM's CARD OF 'platterholdlaw3.LsmGets'. -/
def lsmGetsUptoCard : Claim7 := { stood := { row := lsmGetsUptoRow, standIns := [], harness := (true, "2c5b415211843d6decb17f4817c1dcba200d388d446776d08835c70600214785"), looks := true }, kinds := [], alts := [], laidByText := true, laidKinds := [.handle], laidTests := true, laidLooks := .later }
def LsmGetsUptoCardSaid : Prop := Claim7.holds Tryd.pinned (.plain (OpenSpec.upto lsmGetsSpec)) lsmGetsUptoCard

/-- THE SECOND FORM's CARD OF 'platterholdlaw3.LsmMerge'. -/
def lsmMergeUptoCard : Claim7 := { stood := { row := lsmMergeUptoRow, standIns := [], harness := (true, "2c5b415211843d6decb17f4817c1dcba200d388d446776d08835c70600214785"), looks := true }, kinds := [], alts := [], laidByText := true, laidKinds := [.handle], laidTests := true, laidLooks := .later }
def LsmMergeUptoCardSaid : Prop := Claim7.holds Tryd.pinned (.plain (OpenSpec.upto lsmMergeSpec)) lsmMergeUptoCard

/-- THE SECOND FORM's CARD OF 'platterholdlaw3.LsmPlays'. -/
def lsmPlaysUptoCard : Claim7 := { stood := { row := lsmPlaysUptoRow, standIns := [], harness := (true, "2c5b415211843d6decb17f4817c1dcba200d388d446776d08835c70600214785"), looks := true }, kinds := [], alts := [], laidByText := true, laidKinds := [.handle], laidTests := true, laidLooks := .later }
def LsmPlaysUptoCardSaid : Prop := Claim7.holds Tryd.pinned (.plain (OpenSpec.upto lsmPlaysSpec)) lsmPlaysUptoCard
end Rows
end Go.Proofs.YtokbhiokcoldbaaDoor
