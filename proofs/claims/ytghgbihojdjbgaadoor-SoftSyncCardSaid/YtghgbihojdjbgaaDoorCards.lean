/-
  DERIVED. GIVEN WITH THE SEED: THE CARDS: each row of YtghgbihojdjbgaaDoorRows.lean that lists a variable, with what it lists TIED to the program's text (the seventh form; the later family's looks); each row that meets fmt, with fmt's text TOLD by the authors' own Lean function (tested against real Go, not proved from fmt's source: count such statements apart). THE CARD IS WHAT COUNTS. Prove the row's statement (the work); the ties are given (YtghgbihojdjbgaaDoorTie.lean); close each card by the builder's one call (the guide's Derived/Test/ToyasCard.lean, 'card_holds'). Laid BY PROGRAM, IN A SANDBOX (cutbox-door.mjs). By AI agents, Wed Nov 11 2026. No macro, syntax, notation, axiom, sorry.
-/
import Derived.Test.YtghgbihojdjbgaaDoorRows
import GoSem.ClaimSeven
namespace Go.Proofs.YtghgbihojdjbgaaDoor
namespace Rows

/-- THE TIED CARD OF 'platterholdlaw3.SoftTrue'. -/
def softTrueCard : Claim7 := { stood := { row := softTrueRow, standIns := [], harness := (true, "e6a3fe7635b608598958046da8dfb4ee69b3adf9bac31053b6a01a083cd755d8"), looks := true }, kinds := [], alts := [], laidByText := true, laidKinds := [.handle], laidTests := true, laidLooks := .later }
def SoftTrueCardSaid : Prop := Claim7.holds Tryd.pinned (.plain (OpenSpec.ofChange softTrueSpec)) softTrueCard

/-- THE TIED CARD OF 'platterholdlaw3.SoftSafe'. -/
def softSafeCard : Claim7 := { stood := { row := softSafeRow, standIns := [], harness := (true, "e6a3fe7635b608598958046da8dfb4ee69b3adf9bac31053b6a01a083cd755d8"), looks := true }, kinds := [], alts := [], laidByText := true, laidKinds := [.handle], laidTests := true, laidLooks := .later }
def SoftSafeCardSaid : Prop := Claim7.holds Tryd.pinned (.plain (OpenSpec.ofChange softSafeSpec)) softSafeCard

/-- THE TIED CARD OF 'platterholdlaw3.SoftSync'. -/
def softSyncCard : Claim7 := { stood := { row := softSyncRow, standIns := [], harness := (true, "e6a3fe7635b608598958046da8dfb4ee69b3adf9bac31053b6a01a083cd755d8"), looks := true }, kinds := [], alts := [], laidByText := true, laidKinds := [.handle], laidTests := true, laidLooks := .later }
def SoftSyncCardSaid : Prop := Claim7.holds Tryd.pinned (.plain (OpenSpec.ofChange softSyncSpec)) softSyncCard

/-- THE TIED CARD OF 'platterholdlaw3.SoftPlays'. -/
def softPlaysCard : Claim7 := { stood := { row := softPlaysRow, standIns := [], harness := (true, "e6a3fe7635b608598958046da8dfb4ee69b3adf9bac31053b6a01a083cd755d8"), looks := true }, kinds := [], alts := [], laidByText := true, laidKinds := [.handle], laidTests := true, laidLooks := .later }
def SoftPlaysCardSaid : Prop := Claim7.holds Tryd.pinned (.plain (OpenSpec.ofChange softPlaysSpec)) softPlaysCard

/-- THE SECOND FORM's CARD OF 'platterholdlaw3.SoftTrue'. -/
def softTrueUptoCard : Claim7 := { stood := { row := softTrueUptoRow, standIns := [], harness := (true, "e6a3fe7635b608598958046da8dfb4ee69b3adf9bac31053b6a01a083cd755d8"), looks := true }, kinds := [], alts := [], laidByText := true, laidKinds := [.handle], laidTests := true, laidLooks := .later }
def SoftTrueUptoCardSaid : Prop := Claim7.holds Tryd.pinned (.plain (OpenSpec.upto softTrueSpec)) softTrueUptoCard

/-- THE SECOND FORM's CARD OF 'platterholdlaw3.SoftSafe'. -/
def softSafeUptoCard : Claim7 := { stood := { row := softSafeUptoRow, standIns := [], harness := (true, "e6a3fe7635b608598958046da8dfb4ee69b3adf9bac31053b6a01a083cd755d8"), looks := true }, kinds := [], alts := [], laidByText := true, laidKinds := [.handle], laidTests := true, laidLooks := .later }
def SoftSafeUptoCardSaid : Prop := Claim7.holds Tryd.pinned (.plain (OpenSpec.upto softSafeSpec)) softSafeUptoCard

/-- THE SECOND FORM's CARD OF 'platterholdlaw3.SoftSync'. -/
def softSyncUptoCard : Claim7 := { stood := { row := softSyncUptoRow, standIns := [], harness := (true, "e6a3fe7635b608598958046da8dfb4ee69b3adf9bac31053b6a01a083cd755d8"), looks := true }, kinds := [], alts := [], laidByText := true, laidKinds := [.handle], laidTests := true, laidLooks := .later }
def SoftSyncUptoCardSaid : Prop := Claim7.holds Tryd.pinned (.plain (OpenSpec.upto softSyncSpec)) softSyncUptoCard

/-- THE SECOND FORM's CARD OF 'platterholdlaw3.SoftPlays'. -/
def softPlaysUptoCard : Claim7 := { stood := { row := softPlaysUptoRow, standIns := [], harness := (true, "e6a3fe7635b608598958046da8dfb4ee69b3adf9bac31053b6a01a083cd755d8"), looks := true }, kinds := [], alts := [], laidByText := true, laidKinds := [.handle], laidTests := true, laidLooks := .later }
def SoftPlaysUptoCardSaid : Prop := Claim7.holds Tryd.pinned (.plain (OpenSpec.upto softPlaysSpec)) softPlaysUptoCard
end Rows
end Go.Proofs.YtghgbihojdjbgaaDoor
