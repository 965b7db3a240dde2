/-
  DERIVED. GIVEN WITH THE SEED: THE CARDS: each row of YtcghdnabajhipaaDoorRows.lean that lists a variable, with what it lists TIED to the program's text (the seventh form; the later family's looks); each row that meets fmt, with fmt's text TOLD by the authors' own Lean function (tested against real Go, not proved from fmt's source: count such statements apart). THE CARD IS WHAT COUNTS. Prove the row's statement (the work); the ties are given (YtcghdnabajhipaaDoorTie.lean); close each card by the builder's one call (the guide's Derived/Test/ToyasCard.lean, 'card_holds'). Laid BY PROGRAM, IN A SANDBOX (cutbox-door.mjs). By AI agents, Wed Nov 11 2026. No macro, syntax, notation, axiom, sorry.
-/
import Derived.Test.YtcghdnabajhipaaDoorRows
import GoSem.ClaimSeven
namespace Go.Proofs.YtcghdnabajhipaaDoor
namespace Rows

/-- THE TIED CARD OF 'platterholdlaw2.PathClean'. -/
def pathCleanCard : Claim7 := { stood := { row := pathCleanRow, standIns := [], harness := (true, "0a6a4c412367fd9262a4114b0866b05b65caae3a3471535cecf4a0695b36ab05"), looks := true }, kinds := [], alts := [], laidByText := true, laidKinds := [.data, .pinned], laidTests := true, laidLooks := .later }
def PathCleanCardSaid : Prop := Claim7.holds Tryd.pinned (.plain (OpenSpec.ofChange pathCleanSpec)) pathCleanCard

/-- THE TIED CARD OF 'platterholdlaw2.PathUp'. -/
def pathUpCard : Claim7 := { stood := { row := pathUpRow, standIns := [], harness := (true, "0a6a4c412367fd9262a4114b0866b05b65caae3a3471535cecf4a0695b36ab05"), looks := true }, kinds := [], alts := [], laidByText := true, laidKinds := [.data, .pinned], laidTests := true, laidLooks := .later }
def PathUpCardSaid : Prop := Claim7.holds Tryd.pinned (.plain (OpenSpec.ofChange pathUpSpec)) pathUpCard

/-- THE TIED CARD OF 'platterholdlaw2.PathJoin'. -/
def pathJoinCard : Claim7 := { stood := { row := pathJoinRow, standIns := [], harness := (true, "0a6a4c412367fd9262a4114b0866b05b65caae3a3471535cecf4a0695b36ab05"), looks := true }, kinds := [], alts := [], laidByText := true, laidKinds := [.data, .pinned], laidTests := true, laidLooks := .later }
def PathJoinCardSaid : Prop := Claim7.holds Tryd.pinned (.plain (OpenSpec.ofChange pathJoinSpec)) pathJoinCard

/-- THE TIED CARD OF 'platterholdlaw2.PathSays'. -/
def pathSaysCard : Claim7 := { stood := { row := pathSaysRow, standIns := [], harness := (true, "0a6a4c412367fd9262a4114b0866b05b65caae3a3471535cecf4a0695b36ab05"), looks := true }, kinds := [], alts := [], laidByText := true, laidKinds := [.data, .handle, .pinned], laidTests := true, laidLooks := .later }
def PathSaysCardSaid : Prop := Claim7.holds Tryd.pinned (.plain (OpenSpec.ofChange pathSaysSpec)) pathSaysCard

/-- THE TIED CARD OF 'platterholdlaw2.TreeLinks'. -/
def treeLinksCard : Claim7 := { stood := { row := treeLinksRow, standIns := [], harness := (true, "0a6a4c412367fd9262a4114b0866b05b65caae3a3471535cecf4a0695b36ab05"), looks := true }, kinds := [], alts := [], laidByText := true, laidKinds := [.data, .pinned], laidTests := true, laidLooks := .later }
def TreeLinksCardSaid : Prop := Claim7.holds Tryd.pinned (.plain (OpenSpec.ofChange treeLinksSpec)) treeLinksCard

/-- THE TIED CARD OF 'platterholdlaw2.TreeMove'. -/
def treeMoveCard : Claim7 := { stood := { row := treeMoveRow, standIns := [], harness := (true, "0a6a4c412367fd9262a4114b0866b05b65caae3a3471535cecf4a0695b36ab05"), looks := true }, kinds := [], alts := [], laidByText := true, laidKinds := [.data, .pinned], laidTests := true, laidLooks := .later }
def TreeMoveCardSaid : Prop := Claim7.holds Tryd.pinned (.plain (OpenSpec.ofChange treeMoveSpec)) treeMoveCard

/-- THE TIED CARD OF 'platterholdlaw2.TreeDrop'. -/
def treeDropCard : Claim7 := { stood := { row := treeDropRow, standIns := [], harness := (true, "0a6a4c412367fd9262a4114b0866b05b65caae3a3471535cecf4a0695b36ab05"), looks := true }, kinds := [], alts := [], laidByText := true, laidKinds := [.data, .handle, .pinned], laidTests := true, laidLooks := .later }
def TreeDropCardSaid : Prop := Claim7.holds Tryd.pinned (.plain (OpenSpec.ofChange treeDropSpec)) treeDropCard

/-- THE TIED CARD OF 'platterholdlaw2.TreeWhole'. -/
def treeWholeCard : Claim7 := { stood := { row := treeWholeRow, standIns := [], harness := (true, "0a6a4c412367fd9262a4114b0866b05b65caae3a3471535cecf4a0695b36ab05"), looks := true }, kinds := [], alts := [], laidByText := true, laidKinds := [.data, .pinned], laidTests := true, laidLooks := .later }
def TreeWholeCardSaid : Prop := Claim7.holds Tryd.pinned (.plain (OpenSpec.ofChange treeWholeSpec)) treeWholeCard

/-- THE TIED CARD OF 'platterholdtop.TopPaths'. -/
def topPathsCard : Claim7 := { stood := { row := topPathsRow, standIns := [], harness := (true, "0a6a4c412367fd9262a4114b0866b05b65caae3a3471535cecf4a0695b36ab05"), looks := true }, kinds := [], alts := [], laidByText := true, laidKinds := [.data, .pinned], laidTests := true, laidLooks := .later }
def TopPathsCardSaid : Prop := Claim7.holds Tryd.pinned (.plain (OpenSpec.ofChange topPathsSpec)) topPathsCard

/-- THE SECOND FORM's CARD OF 'platterholdlaw2.PathClean'. -/
def pathCleanUptoCard : Claim7 := { stood := { row := pathCleanUptoRow, standIns := [], harness := (true, "0a6a4c412367fd9262a4114b0866b05b65caae3a3471535cecf4a0695b36ab05"), looks := true }, kinds := [], alts := [], laidByText := true, laidKinds := [.data, .pinned], laidTests := true, laidLooks := .later }
def PathCleanUptoCardSaid : Prop := Claim7.holds Tryd.pinned (.plain (OpenSpec.upto pathCleanSpec)) pathCleanUptoCard

/-- THE SECOND FORM's CARD OF 'platterholdlaw2.PathUp'. -/
def pathUpUptoCard : Claim7 := { stood := { row := pathUpUptoRow, standIns := [], harness := (true, "0a6a4c412367fd9262a4114b0866b05b65caae3a3471535cecf4a0695b36ab05"), looks := true }, kinds := [], alts := [], laidByText := true, laidKinds := [.data, .pinned], laidTests := true, laidLooks := .later }
def PathUpUptoCardSaid : Prop := Claim7.holds Tryd.pinned (.plain (OpenSpec.upto pathUpSpec)) pathUpUptoCard

/-- THE SECOND FORM's CARD OF 'platterholdlaw2.PathJoin'. -/
def pathJoinUptoCard : Claim7 := { stood := { row := pathJoinUptoRow, standIns := [], harness := (true, "0a6a4c412367fd9262a4114b0866b05b65caae3a3471535cecf4a0695b36ab05"), looks := true }, kinds := [], alts := [], laidByText := true, laidKinds := [.data, .pinned], laidTests := true, laidLooks := .later }
def PathJoinUptoCardSaid : Prop := Claim7.holds Tryd.pinned (.plain (OpenSpec.upto pathJoinSpec)) pathJoinUptoCard

/-- THE SECOND FORM's CARD OF 'platterholdlaw2.PathSays'. -/
def pathSaysUptoCard : Claim7 := { stood := { row := pathSaysUptoRow, standIns := [], harness := (true, "0a6a4c412367fd9262a4114b0866b05b65caae3a3471535cecf4a0695b36ab05"), looks := true }, kinds := [], alts := [], laidByText := true, laidKinds := [.data, .handle, .pinned], laidTests := true, laidLooks := .later }
def PathSaysUptoCardSaid : Prop := Claim7.holds Tryd.pinned (.plain (OpenSpec.upto pathSaysSpec)) pathSaysUptoCard

/-- THE SECOND FORM's CARD OF 'platterholdlaw2.TreeLinks'. -/
def treeLinksUptoCard : Claim7 := { stood := { row := treeLinksUptoRow, standIns := [], harness := (true, "0a6a4c412367fd9262a4114b0866b05b65caae3a3471535cecf4a0695b36ab05"), looks := true }, kinds := [], alts := [], laidByText := true, laidKinds := [.data, .pinned], laidTests := true, laidLooks := .later }
def TreeLinksUptoCardSaid : Prop := Claim7.holds Tryd.pinned (.plain (OpenSpec.upto treeLinksSpec)) treeLinksUptoCard

/-- THE SECOND FORM's CARD OF 'platterholdlaw2.TreeMove'. -/
def treeMoveUptoCard : Claim7 := { stood := { row := treeMoveUptoRow, standIns := [], harness := (true, "0a6a4c412367fd9262a4114b0866b05b65caae3a3471535cecf4a0695b36ab05"), looks := true }, kinds := [], alts := [], laidByText := true, laidKinds := [.data, .pinned], laidTests := true, laidLooks := .later }
def TreeMoveUptoCardSaid : Prop := Claim7.holds Tryd.pinned (.plain (OpenSpec.upto treeMoveSpec)) treeMoveUptoCard

/-- THE SECOND FORM's CARD OF 'platterholdlaw2.TreeDrop'. -/
def treeDropUptoCard : Claim7 := { stood := { row := treeDropUptoRow, standIns := [], harness := (true, "0a6a4c412367fd9262a4114b0866b05b65caae3a3471535cecf4a0695b36ab05"), looks := true }, kinds := [], alts := [], laidByText := true, laidKinds := [.data, .handle, .pinned], laidTests := true, laidLooks := .later }
def TreeDropUptoCardSaid : Prop := Claim7.holds Tryd.pinned (.plain (OpenSpec.upto treeDropSpec)) treeDropUptoCard

/-- THE SECOND FORM's CARD OF 'platterholdlaw2.TreeWhole'. -/
def treeWholeUptoCard : Claim7 := { stood := { row := treeWholeUptoRow, standIns := [], harness := (true, "0a6a4c412367fd9262a4114b0866b05b65caae3a3471535cecf4a0695b36ab05"), looks := true }, kinds := [], alts := [], laidByText := true, laidKinds := [.data, .pinned], laidTests := true, laidLooks := .later }
def TreeWholeUptoCardSaid : Prop := Claim7.holds Tryd.pinned (.plain (OpenSpec.upto treeWholeSpec)) treeWholeUptoCard

/-- THE SECOND FORM's CARD OF 'platterholdtop.TopPaths'. -/
def topPathsUptoCard : Claim7 := { stood := { row := topPathsUptoRow, standIns := [], harness := (true, "0a6a4c412367fd9262a4114b0866b05b65caae3a3471535cecf4a0695b36ab05"), looks := true }, kinds := [], alts := [], laidByText := true, laidKinds := [.data, .pinned], laidTests := true, laidLooks := .later }
def TopPathsUptoCardSaid : Prop := Claim7.holds Tryd.pinned (.plain (OpenSpec.upto topPathsSpec)) topPathsUptoCard
end Rows
end Go.Proofs.YtcghdnabajhipaaDoor
