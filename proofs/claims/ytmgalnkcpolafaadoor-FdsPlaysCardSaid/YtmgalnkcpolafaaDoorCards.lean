/-
  DERIVED. GIVEN WITH THE SEED: THE CARDS: each row of YtmgalnkcpolafaaDoorRows.lean that lists a variable, with what it lists TIED to the program's text (the seventh form; the later family's looks); each row that meets fmt, with fmt's text TOLD by the authors' own Lean function (tested against real Go, not proved from fmt's source: count such statements apart). THE CARD IS WHAT COUNTS. Prove the row's statement (the work); the ties are given (YtmgalnkcpolafaaDoorTie.lean); close each card by the builder's one call (the guide's Derived/Test/ToyasCard.lean, 'card_holds'). Laid BY PROGRAM, IN A SANDBOX (cutbox-door.mjs). By AI agents, Wed Nov 11 2026. No macro, syntax, notation, axiom, sorry.
-/
import Derived.Test.YtmgalnkcpolafaaDoorRows
import GoSem.ClaimSeven
namespace Go.Proofs.YtmgalnkcpolafaaDoor
namespace Rows

/-- THE TIED CARD OF 'platterholdlaw2.FdsLeast'. -/
def fdsLeastCard : Claim7 := { stood := { row := fdsLeastRow, standIns := [], harness := (true, "96b61c7e6829c77bde4d00977769894e5c79eff571fbe56248173908b00d4b20"), looks := true }, kinds := [], alts := [], laidByText := true, laidKinds := [.handle], laidTests := true, laidLooks := .later }
def FdsLeastCardSaid : Prop := Claim7.holds Tryd.pinned (.plain (OpenSpec.ofChange fdsLeastSpec)) fdsLeastCard

/-- THE TIED CARD OF 'platterholdlaw2.FdsPlays'. -/
def fdsPlaysCard : Claim7 := { stood := { row := fdsPlaysRow, standIns := [], harness := (true, "96b61c7e6829c77bde4d00977769894e5c79eff571fbe56248173908b00d4b20"), looks := true }, kinds := [], alts := [], laidByText := true, laidKinds := [.handle], laidTests := true, laidLooks := .later }
def FdsPlaysCardSaid : Prop := Claim7.holds Tryd.pinned (.plain (OpenSpec.ofChange fdsPlaysSpec)) fdsPlaysCard

/-- THE TIED CARD OF 'platterholdlaw2.SparsePlays'. -/
def sparsePlaysCard : Claim7 := { stood := { row := sparsePlaysRow, standIns := [], harness := (true, "96b61c7e6829c77bde4d00977769894e5c79eff571fbe56248173908b00d4b20"), looks := true }, kinds := [], alts := [], laidByText := true, laidKinds := [.handle], laidTests := true, laidLooks := .later }
def SparsePlaysCardSaid : Prop := Claim7.holds Tryd.pinned (.plain (OpenSpec.ofChange sparsePlaysSpec)) sparsePlaysCard

/-- THE TIED CARD OF 'platterholdtop.TopFile'. -/
def topFileCard : Claim7 := { stood := { row := topFileRow, standIns := [], harness := (true, "96b61c7e6829c77bde4d00977769894e5c79eff571fbe56248173908b00d4b20"), looks := true }, kinds := [], alts := [], laidByText := true, laidKinds := [.handle], laidTests := true, laidLooks := .later }
def TopFileCardSaid : Prop := Claim7.holds Tryd.pinned (.plain (OpenSpec.ofChange topFileSpec)) topFileCard

/-- THE SECOND FORM's CARD OF 'platterholdlaw2.FdsLeast'. -/
def fdsLeastUptoCard : Claim7 := { stood := { row := fdsLeastUptoRow, standIns := [], harness := (true, "96b61c7e6829c77bde4d00977769894e5c79eff571fbe56248173908b00d4b20"), looks := true }, kinds := [], alts := [], laidByText := true, laidKinds := [.handle], laidTests := true, laidLooks := .later }
def FdsLeastUptoCardSaid : Prop := Claim7.holds Tryd.pinned (.plain (OpenSpec.upto fdsLeastSpec)) fdsLeastUptoCard

/-- THE SECOND FORM's CARD OF 'platterholdlaw2.FdsPlays'. -/
def fdsPlaysUptoCard : Claim7 := { stood := { row := fdsPlaysUptoRow, standIns := [], harness := (true, "96b61c7e6829c77bde4d00977769894e5c79eff571fbe56248173908b00d4b20"), looks := true }, kinds := [], alts := [], laidByText := true, laidKinds := [.handle], laidTests := true, laidLooks := .later }
def FdsPlaysUptoCardSaid : Prop := Claim7.holds Tryd.pinned (.plain (OpenSpec.upto fdsPlaysSpec)) fdsPlaysUptoCard

/-- THE SECOND FORM's CARD OF 'platterholdlaw2.SparsePlays'. -/
def sparsePlaysUptoCard : Claim7 := { stood := { row := sparsePlaysUptoRow, standIns := [], harness := (true, "96b61c7e6829c77bde4d00977769894e5c79eff571fbe56248173908b00d4b20"), looks := true }, kinds := [], alts := [], laidByText := true, laidKinds := [.handle], laidTests := true, laidLooks := .later }
def SparsePlaysUptoCardSaid : Prop := Claim7.holds Tryd.pinned (.plain (OpenSpec.upto sparsePlaysSpec)) sparsePlaysUptoCard

/-- THE SECOND FORM's CARD OF 'platterholdtop.TopFile'. -/
def topFileUptoCard : Claim7 := { stood := { row := topFileUptoRow, standIns := [], harness := (true, "96b61c7e6829c77bde4d00977769894e5c79eff571fbe56248173908b00d4b20"), looks := true }, kinds := [], alts := [], laidByText := true, laidKinds := [.handle], laidTests := true, laidLooks := .later }
def TopFileUptoCardSaid : Prop := Claim7.holds Tryd.pinned (.plain (OpenSpec.upto topFileSpec)) topFileUptoCard
end Rows
end Go.Proofs.YtmgalnkcpolafaaDoor
