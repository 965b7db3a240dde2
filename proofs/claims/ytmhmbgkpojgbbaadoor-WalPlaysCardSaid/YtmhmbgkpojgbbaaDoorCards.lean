/-
  DERIVED. GIVEN WITH THE SEED: THE CARDS: each row of YtmhmbgkpojgbbaaDoorRows.lean that lists a variable, with what it lists TIED to the program's text (the seventh form; the later family's looks); each row that meets fmt, with fmt's text TOLD by the authors' own Lean function (tested against real Go, not proved from fmt's source: count such statements apart). THE CARD IS WHAT COUNTS. Prove the row's statement (the work); the ties are given (YtmhmbgkpojgbbaaDoorTie.lean); close each card by the builder's one call (the guide's Derived/Test/ToyasCard.lean, 'card_holds'). Laid BY PROGRAM, IN A SANDBOX (cutbox-door.mjs). By AI agents, Wed Nov 11 2026. No macro, syntax, notation, axiom, sorry.
-/
import Derived.Test.YtmhmbgkpojgbbaaDoorRows
import GoSem.ClaimSeven
namespace Go.Proofs.YtmhmbgkpojgbbaaDoor
namespace Rows

/-- THE TIED CARD OF 'platterholdlaw3.ShadowPlays'. -/
def shadowPlaysCard : Claim7 := { stood := { row := shadowPlaysRow, standIns := [], harness := (true, "d2e1ab1d0d36284af77c69c36c6ed37579f0d489836c70c8327203f7c55489d7"), looks := true }, kinds := [], alts := [], laidByText := true, laidKinds := [.handle], laidTests := true, laidLooks := .later }
def ShadowPlaysCardSaid : Prop := Claim7.holds Tryd.pinned (.plain (OpenSpec.ofChange shadowPlaysSpec)) shadowPlaysCard

/-- THE TIED CARD OF 'platterholdlaw2.UndoAlone'. -/
def undoAloneCard : Claim7 := { stood := { row := undoAloneRow, standIns := [], harness := (true, "d2e1ab1d0d36284af77c69c36c6ed37579f0d489836c70c8327203f7c55489d7"), looks := true }, kinds := [], alts := [], laidByText := true, laidKinds := [.handle], laidTests := true, laidLooks := .later }
def UndoAloneCardSaid : Prop := Claim7.holds Tryd.pinned (.plain (OpenSpec.ofChange undoAloneSpec)) undoAloneCard

/-- THE TIED CARD OF 'platterholdlaw2.WalPlays'. -/
def walPlaysCard : Claim7 := { stood := { row := walPlaysRow, standIns := [], harness := (true, "d2e1ab1d0d36284af77c69c36c6ed37579f0d489836c70c8327203f7c55489d7"), looks := true }, kinds := [], alts := [], laidByText := true, laidKinds := [.handle], laidTests := true, laidLooks := .later }
def WalPlaysCardSaid : Prop := Claim7.holds Tryd.pinned (.plain (OpenSpec.ofChange walPlaysSpec)) walPlaysCard

/-- THE SECOND FORM's CARD OF 'platterholdlaw3.ShadowPlays'. -/
def shadowPlaysUptoCard : Claim7 := { stood := { row := shadowPlaysUptoRow, standIns := [], harness := (true, "d2e1ab1d0d36284af77c69c36c6ed37579f0d489836c70c8327203f7c55489d7"), looks := true }, kinds := [], alts := [], laidByText := true, laidKinds := [.handle], laidTests := true, laidLooks := .later }
def ShadowPlaysUptoCardSaid : Prop := Claim7.holds Tryd.pinned (.plain (OpenSpec.upto shadowPlaysSpec)) shadowPlaysUptoCard

/-- THE SECOND FORM's CARD OF 'platterholdlaw2.UndoAlone'. -/
def undoAloneUptoCard : Claim7 := { stood := { row := undoAloneUptoRow, standIns := [], harness := (true, "d2e1ab1d0d36284af77c69c36c6ed37579f0d489836c70c8327203f7c55489d7"), looks := true }, kinds := [], alts := [], laidByText := true, laidKinds := [.handle], laidTests := true, laidLooks := .later }
def UndoAloneUptoCardSaid : Prop := Claim7.holds Tryd.pinned (.plain (OpenSpec.upto undoAloneSpec)) undoAloneUptoCard

/-- THE SECOND FORM's CARD OF 'platterholdlaw2.WalPlays'. -/
def walPlaysUptoCard : Claim7 := { stood := { row := walPlaysUptoRow, standIns := [], harness := (true, "d2e1ab1d0d36284af77c69c36c6ed37579f0d489836c70c8327203f7c55489d7"), looks := true }, kinds := [], alts := [], laidByText := true, laidKinds := [.handle], laidTests := true, laidLooks := .later }
def WalPlaysUptoCardSaid : Prop := Claim7.holds Tryd.pinned (.plain (OpenSpec.upto walPlaysSpec)) walPlaysUptoCard
end Rows
end Go.Proofs.YtmhmbgkpojgbbaaDoor
