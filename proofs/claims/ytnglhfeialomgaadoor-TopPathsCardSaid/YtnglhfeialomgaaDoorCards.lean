/-
  DERIVED. GIVEN WITH THE SEED: THE CARDS: each row of YtnglhfeialomgaaDoorRows.lean that lists a variable, with what it lists TIED to the program's text (the seventh form; the later family's looks); each row that meets fmt, with fmt's text TOLD by the authors' own Lean function (tested against real Go, not proved from fmt's source: count such statements apart). THE CARD IS WHAT COUNTS. Prove the row's statement (the work); the ties are given (YtnglhfeialomgaaDoorTie.lean); close each card by the builder's one call (the guide's Derived/Test/ToyasCard.lean, 'card_holds'). Laid BY PROGRAM, IN A SANDBOX (cutbox-door.mjs). By AI agents, Wed Nov 11 2026. No macro, syntax, notation, axiom, sorry.
-/
import Derived.Test.YtnglhfeialomgaaDoorRows
import GoSem.ClaimSeven
namespace Go.Proofs.YtnglhfeialomgaaDoor
namespace Rows

/-- THE TIED CARD OF 'platterholdlaw2.TreeLinks'. -/
def treeLinksCard : Claim7 := { stood := { row := treeLinksRow, standIns := [], harness := (true, "a42ddd2483001406d31ae2fe8ae2f224dfb04e69932c8b53f09f660c59c0104b"), looks := true }, kinds := [], alts := [], laidByText := true, laidKinds := [.data, .pinned], laidTests := true, laidLooks := .later }
def TreeLinksCardSaid : Prop := Claim7.holds Tryd.pinned (.plain (OpenSpec.ofChange treeLinksSpec)) treeLinksCard

/-- THE TIED CARD OF 'platterholdlaw2.TreeMove'. -/
def treeMoveCard : Claim7 := { stood := { row := treeMoveRow, standIns := [], harness := (true, "a42ddd2483001406d31ae2fe8ae2f224dfb04e69932c8b53f09f660c59c0104b"), looks := true }, kinds := [], alts := [], laidByText := true, laidKinds := [.data, .pinned], laidTests := true, laidLooks := .later }
def TreeMoveCardSaid : Prop := Claim7.holds Tryd.pinned (.plain (OpenSpec.ofChange treeMoveSpec)) treeMoveCard

/-- THE TIED CARD OF 'platterholdlaw2.TreeDrop'. -/
def treeDropCard : Claim7 := { stood := { row := treeDropRow, standIns := [], harness := (true, "a42ddd2483001406d31ae2fe8ae2f224dfb04e69932c8b53f09f660c59c0104b"), looks := true }, kinds := [], alts := [], laidByText := true, laidKinds := [.data, .handle, .pinned], laidTests := true, laidLooks := .later }
def TreeDropCardSaid : Prop := Claim7.holds Tryd.pinned (.plain (OpenSpec.ofChange treeDropSpec)) treeDropCard

/-- THE TIED CARD OF 'platterholdlaw2.TreeWhole'. -/
def treeWholeCard : Claim7 := { stood := { row := treeWholeRow, standIns := [], harness := (true, "a42ddd2483001406d31ae2fe8ae2f224dfb04e69932c8b53f09f660c59c0104b"), looks := true }, kinds := [], alts := [], laidByText := true, laidKinds := [.data, .pinned], laidTests := true, laidLooks := .later }
def TreeWholeCardSaid : Prop := Claim7.holds Tryd.pinned (.plain (OpenSpec.ofChange treeWholeSpec)) treeWholeCard

/-- THE TIED CARD OF 'platterholdtop.TopPaths'. -/
def topPathsCard : Claim7 := { stood := { row := topPathsRow, standIns := [], harness := (true, "a42ddd2483001406d31ae2fe8ae2f224dfb04e69932c8b53f09f660c59c0104b"), looks := true }, kinds := [], alts := [], laidByText := true, laidKinds := [.data, .pinned], laidTests := true, laidLooks := .later }
def TopPathsCardSaid : Prop := Claim7.holds Tryd.pinned (.plain (OpenSpec.ofChange topPathsSpec)) topPathsCard

/-- THE SECOND FORM's CARD OF 'platterholdlaw2.TreeLinks'. -/
def treeLinksUptoCard : Claim7 := { stood := { row := treeLinksUptoRow, standIns := [], harness := (true, "a42ddd2483001406d31ae2fe8ae2f224dfb04e69932c8b53f09f660c59c0104b"), looks := true }, kinds := [], alts := [], laidByText := true, laidKinds := [.data, .pinned], laidTests := true, laidLooks := .later }
def TreeLinksUptoCardSaid : Prop := Claim7.holds Tryd.pinned (.plain (OpenSpec.upto treeLinksSpec)) treeLinksUptoCard

/-- THE SECOND FORM's CARD OF 'platterholdlaw2.TreeMove'. -/
def treeMoveUptoCard : Claim7 := { stood := { row := treeMoveUptoRow, standIns := [], harness := (true, "a42ddd2483001406d31ae2fe8ae2f224dfb04e69932c8b53f09f660c59c0104b"), looks := true }, kinds := [], alts := [], laidByText := true, laidKinds := [.data, .pinned], laidTests := true, laidLooks := .later }
def TreeMoveUptoCardSaid : Prop := Claim7.holds Tryd.pinned (.plain (OpenSpec.upto treeMoveSpec)) treeMoveUptoCard

/-- THE SECOND FORM's CARD OF 'platterholdlaw2.TreeDrop'. -/
def treeDropUptoCard : Claim7 := { stood := { row := treeDropUptoRow, standIns := [], harness := (true, "a42ddd2483001406d31ae2fe8ae2f224dfb04e69932c8b53f09f660c59c0104b"), looks := true }, kinds := [], alts := [], laidByText := true, laidKinds := [.data, .handle, .pinned], laidTests := true, laidLooks := .later }
def TreeDropUptoCardSaid : Prop := Claim7.holds Tryd.pinned (.plain (OpenSpec.upto treeDropSpec)) treeDropUptoCard

/-- THE SECOND FORM's CARD OF 'platterholdlaw2.TreeWhole'. -/
def treeWholeUptoCard : Claim7 := { stood := { row := treeWholeUptoRow, standIns := [], harness := (true, "a42ddd2483001406d31ae2fe8ae2f224dfb04e69932c8b53f09f660c59c0104b"), looks := true }, kinds := [], alts := [], laidByText := true, laidKinds := [.data, .pinned], laidTests := true, laidLooks := .later }
def TreeWholeUptoCardSaid : Prop := Claim7.holds Tryd.pinned (.plain (OpenSpec.upto treeWholeSpec)) treeWholeUptoCard

/-- THE SECOND FORM's CARD OF 'platterholdtop.TopPaths'. -/
def topPathsUptoCard : Claim7 := { stood := { row := topPathsUptoRow, standIns := [], harness := (true, "a42ddd2483001406d31ae2fe8ae2f224dfb04e69932c8b53f09f660c59c0104b"), looks := true }, kinds := [], alts := [], laidByText := true, laidKinds := [.data, .pinned], laidTests := true, laidLooks := .later }
def TopPathsUptoCardSaid : Prop := Claim7.holds Tryd.pinned (.plain (OpenSpec.upto topPathsSpec)) topPathsUptoCard
end Rows
end Go.Proofs.YtnglhfeialomgaaDoor
