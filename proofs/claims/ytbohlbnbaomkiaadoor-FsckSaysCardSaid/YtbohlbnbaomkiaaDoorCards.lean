/-
  DERIVED. GIVEN WITH THE SEED: THE CARDS: each row of YtbohlbnbaomkiaaDoorRows.lean that lists a variable, with what it lists TIED to the program's text (the seventh form; the later family's looks); each row that meets fmt, with fmt's text TOLD by the authors' own Lean function (tested against real Go, not proved from fmt's source: count such statements apart). THE CARD IS WHAT COUNTS. Prove the row's statement (the work); the ties are given (YtbohlbnbaomkiaaDoorTie.lean); close each card by the builder's one call (the guide's Derived/Test/ToyasCard.lean, 'card_holds'). Laid BY PROGRAM, IN A SANDBOX (cutbox-door.mjs). By AI agents, Wed Nov 11 2026. No macro, syntax, notation, axiom, sorry.
-/
import Derived.Test.YtbohlbnbaomkiaaDoorRows
import GoSem.ClaimSeven
namespace Go.Proofs.YtbohlbnbaomkiaaDoor
namespace Rows

/-- THE TIED CARD OF 'platterholdlaw3.FsckSays'. -/
def fsckSaysCard : Claim7 := { stood := { row := fsckSaysRow, standIns := [], harness := (true, "07acb91ca86b44499cab15b4b3ee6e7447840e76709b313ce867f6ff82d37141"), looks := true }, kinds := [], alts := [], laidByText := true, laidKinds := [.handle], laidTests := true, laidLooks := .later }
def FsckSaysCardSaid : Prop := Claim7.holds Tryd.pinned (.plain (OpenSpec.ofChange fsckSaysSpec)) fsckSaysCard

/-- THE SECOND FORM's CARD OF 'platterholdlaw3.FsckSays'. -/
def fsckSaysUptoCard : Claim7 := { stood := { row := fsckSaysUptoRow, standIns := [], harness := (true, "07acb91ca86b44499cab15b4b3ee6e7447840e76709b313ce867f6ff82d37141"), looks := true }, kinds := [], alts := [], laidByText := true, laidKinds := [.handle], laidTests := true, laidLooks := .later }
def FsckSaysUptoCardSaid : Prop := Claim7.holds Tryd.pinned (.plain (OpenSpec.upto fsckSaysSpec)) fsckSaysUptoCard
end Rows
end Go.Proofs.YtbohlbnbaomkiaaDoor
