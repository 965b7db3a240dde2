/-
  DERIVED. GIVEN WITH THE SEED: THE CARDS: each row of YtiadpgkephokdaaDoorRows.lean that lists a variable, with what it lists TIED to the program's text (the seventh form; the later family's looks); each row that meets fmt, with fmt's text TOLD by the authors' own Lean function (tested against real Go, not proved from fmt's source: count such statements apart). THE CARD IS WHAT COUNTS. Prove the row's statement (the work); the ties are given (YtiadpgkephokdaaDoorTie.lean); close each card by the builder's one call (the guide's Derived/Test/ToyasCard.lean, 'card_holds'). Laid BY PROGRAM, IN A SANDBOX (cutbox-door.mjs). By AI agents, Wed Nov 11 2026. No macro, syntax, notation, axiom, sorry.
-/
import Derived.Test.YtiadpgkephokdaaDoorRows
import GoSem.ClaimSeven
namespace Go.Proofs.YtiadpgkephokdaaDoor
namespace Rows

/-- THE TIED CARD OF 'platterholdlaw2.ModeSays'. -/
def modeSaysCard : Claim7 := { stood := { row := modeSaysRow, standIns := [], harness := (true, "46acfe9f5caf1967b616f92a7c9f6da881d6f8b3037f18fe4ec15ce8d8d69677"), looks := true }, kinds := [], alts := [], laidByText := true, laidKinds := [.handle], laidTests := true, laidLooks := .later }
def ModeSaysCardSaid : Prop := Claim7.holds Tryd.pinned (.plain (OpenSpec.ofChange modeSaysSpec)) modeSaysCard

/-- THE TIED CARD OF 'platterholdlaw3.BtreePlays'. -/
def btreePlaysCard : Claim7 := { stood := { row := btreePlaysRow, standIns := [], harness := (true, "46acfe9f5caf1967b616f92a7c9f6da881d6f8b3037f18fe4ec15ce8d8d69677"), looks := true }, kinds := [], alts := [], laidByText := true, laidKinds := [.handle], laidTests := true, laidLooks := .later }
def BtreePlaysCardSaid : Prop := Claim7.holds Tryd.pinned (.plain (OpenSpec.ofChange btreePlaysSpec)) btreePlaysCard

/-- THE SECOND FORM's CARD OF 'platterholdlaw2.ModeSays'. -/
def modeSaysUptoCard : Claim7 := { stood := { row := modeSaysUptoRow, standIns := [], harness := (true, "46acfe9f5caf1967b616f92a7c9f6da881d6f8b3037f18fe4ec15ce8d8d69677"), looks := true }, kinds := [], alts := [], laidByText := true, laidKinds := [.handle], laidTests := true, laidLooks := .later }
def ModeSaysUptoCardSaid : Prop := Claim7.holds Tryd.pinned (.plain (OpenSpec.upto modeSaysSpec)) modeSaysUptoCard

/-- THE SECOND FORM's CARD OF 'platterholdlaw3.BtreePlays'. -/
def btreePlaysUptoCard : Claim7 := { stood := { row := btreePlaysUptoRow, standIns := [], harness := (true, "46acfe9f5caf1967b616f92a7c9f6da881d6f8b3037f18fe4ec15ce8d8d69677"), looks := true }, kinds := [], alts := [], laidByText := true, laidKinds := [.handle], laidTests := true, laidLooks := .later }
def BtreePlaysUptoCardSaid : Prop := Claim7.holds Tryd.pinned (.plain (OpenSpec.upto btreePlaysSpec)) btreePlaysUptoCard
end Rows
end Go.Proofs.YtiadpgkephokdaaDoor
