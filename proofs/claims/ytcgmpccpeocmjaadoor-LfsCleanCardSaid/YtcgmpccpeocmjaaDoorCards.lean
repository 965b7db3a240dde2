/-
  DERIVED. GIVEN WITH THE SEED: THE CARDS: each row of YtcgmpccpeocmjaaDoorRows.lean that lists a variable, with what it lists TIED to the program's text (the seventh form; the later family's looks); each row that meets fmt, with fmt's text TOLD by the authors' own Lean function (tested against real Go, not proved from fmt's source: count such statements apart). THE CARD IS WHAT COUNTS. Prove the row's statement (the work); the ties are given (YtcgmpccpeocmjaaDoorTie.lean); close each card by the builder's one call (the guide's Derived/Test/ToyasCard.lean, 'card_holds'). Laid BY PROGRAM, IN A SANDBOX (cutbox-door.mjs). By AI agents, Wed Nov 11 2026. No macro, syntax, notation, axiom, sorry.
-/
import Derived.Test.YtcgmpccpeocmjaaDoorRows
import GoSem.ClaimSeven
namespace Go.Proofs.YtcgmpccpeocmjaaDoor
namespace Rows

/-- THE TIED CARD OF 'platterholdlaw3.LfsClean'. -/
def lfsCleanCard : Claim7 := { stood := { row := lfsCleanRow, standIns := [], harness := (true, "abb9b3febd7134cc106ef4e5c2372a0843474a3bbcaea3bb7d0df16d23e80229"), looks := true }, kinds := [], alts := [], laidByText := true, laidKinds := [.handle], laidTests := true, laidLooks := .later }
def LfsCleanCardSaid : Prop := Claim7.holds Tryd.pinned (.plain (OpenSpec.ofChange lfsCleanSpec)) lfsCleanCard

/-- THE TIED CARD OF 'platterholdlaw3.LfsPlays'. -/
def lfsPlaysCard : Claim7 := { stood := { row := lfsPlaysRow, standIns := [], harness := (true, "abb9b3febd7134cc106ef4e5c2372a0843474a3bbcaea3bb7d0df16d23e80229"), looks := true }, kinds := [], alts := [], laidByText := true, laidKinds := [.handle], laidTests := true, laidLooks := .later }
def LfsPlaysCardSaid : Prop := Claim7.holds Tryd.pinned (.plain (OpenSpec.ofChange lfsPlaysSpec)) lfsPlaysCard

/-- THE SECOND FORM's CARD OF 'platterholdlaw3.LfsClean'. -/
def lfsCleanUptoCard : Claim7 := { stood := { row := lfsCleanUptoRow, standIns := [], harness := (true, "abb9b3febd7134cc106ef4e5c2372a0843474a3bbcaea3bb7d0df16d23e80229"), looks := true }, kinds := [], alts := [], laidByText := true, laidKinds := [.handle], laidTests := true, laidLooks := .later }
def LfsCleanUptoCardSaid : Prop := Claim7.holds Tryd.pinned (.plain (OpenSpec.upto lfsCleanSpec)) lfsCleanUptoCard

/-- THE SECOND FORM's CARD OF 'platterholdlaw3.LfsPlays'. -/
def lfsPlaysUptoCard : Claim7 := { stood := { row := lfsPlaysUptoRow, standIns := [], harness := (true, "abb9b3febd7134cc106ef4e5c2372a0843474a3bbcaea3bb7d0df16d23e80229"), looks := true }, kinds := [], alts := [], laidByText := true, laidKinds := [.handle], laidTests := true, laidLooks := .later }
def LfsPlaysUptoCardSaid : Prop := Claim7.holds Tryd.pinned (.plain (OpenSpec.upto lfsPlaysSpec)) lfsPlaysUptoCard
end Rows
end Go.Proofs.YtcgmpccpeocmjaaDoor
