/-
  No cell of these rows narrows 'for every input' (looked for: loops, veiled, ifaces, maps, wideKeys, modest, calm, conditions, laid).
  DERIVED. THE GIVEN ROWS OF THIS SEAT. 9 by the template 'for every input the law returns true; each argument reads behind the call as it read before'; 0 by the template 'total and deterministic' (their statements: YtmhmbgkpojgbbaaTotals.lean).
  GIVEN WITH THE SEED: the statements are not yours to turn. If you find one false, say at which input.
  Laid BY PROGRAM, IN A SANDBOX (cutbox-rows.mjs): the forced cells as the released guide's own fill.sh prints them over the translation acc5e4f1918fae1d… (all of the seat's roots in one cut). By AI agents, Wed Nov 11 2026. No macro, syntax, notation, axiom, sorry.
-/
import Derived.Test.YtmhmbgkpojgbbaaChecked
import GoSem.Claim
import GoSem.ClaimJoined
import GoSem.ClaimMapViews
import Derived.JoinedTies
import Derived.KernelRfl
namespace Go.Proofs.Ytmhmbgkpojgbbaa
/- THE CELL 'sum', in the pinned program and in every row, IS THE sha256 OF THE DUMP (.gsa) THAT YtmhmbgkpojgbbaaProg.lean LOADS. Nothing in Lean hashes anything: it is a label: what it is worth is what the hold of that sum in a sandbox is worth. -/
noncomputable def Try.pinned : Pinned := { name := "ytmhmbgkpojgbbaa", sum := "acc5e4f1918fae1dbbe4e2f6b4d00f091c29cd1dd54d21a30319e1276ab9eb67", checked := Try.checked }
namespace Rows
def none {H : Type} : Left H := { results := [], args := [] }

/-- 'platterholdlaw3.ShadowOld': WHATEVER THE INPUT: true; the input reads as it did. -/
def shadowOldSpec : ChangeSpec := { name := "shadowOld", fn := fun _ => fun
  | [d1, d2] => { results := [.lit (.bool true)], args := [d1, d2] }
  | _ => none }
def shadowOldRow : OpenClaim := { program := "ytmhmbgkpojgbbaa", sum := "acc5e4f1918fae1dbbe4e2f6b4d00f091c29cd1dd54d21a30319e1276ab9eb67", func := "platterhold/platterholdlaw3.ShadowOld", spec := "shadowOld", apart := false }
def ShadowOldSaid : Prop := shadowOldRow.holds Try.pinned (OpenSpec.ofChange shadowOldSpec)

/-- ITS FALSE NEIGHBOUR: 'it returns false'. Refute it at one input. -/
def shadowOldWrong : ChangeSpec := { name := "shadowOld", fn := fun _ => fun
  | [d1, d2] => { results := [.lit (.bool false)], args := [d1, d2] }
  | _ => none }
def ShadowOldWrongFalsely : Prop := shadowOldRow.holds Try.pinned (OpenSpec.ofChange shadowOldWrong)

/-- 'platterholdlaw3.ShadowEnd': WHATEVER THE INPUT: true; the input reads as it did. -/
def shadowEndSpec : ChangeSpec := { name := "shadowEnd", fn := fun _ => fun
  | [d] => { results := [.lit (.bool true)], args := [d] }
  | _ => none }
def shadowEndRow : OpenClaim := { program := "ytmhmbgkpojgbbaa", sum := "acc5e4f1918fae1dbbe4e2f6b4d00f091c29cd1dd54d21a30319e1276ab9eb67", func := "platterhold/platterholdlaw3.ShadowEnd", spec := "shadowEnd", apart := false }
def ShadowEndSaid : Prop := shadowEndRow.holds Try.pinned (OpenSpec.ofChange shadowEndSpec)

/-- ITS FALSE NEIGHBOUR: 'it returns false'. Refute it at one input. -/
def shadowEndWrong : ChangeSpec := { name := "shadowEnd", fn := fun _ => fun
  | [d] => { results := [.lit (.bool false)], args := [d] }
  | _ => none }
def ShadowEndWrongFalsely : Prop := shadowEndRow.holds Try.pinned (OpenSpec.ofChange shadowEndWrong)

/-- 'platterholdlaw3.ShadowApart': WHATEVER THE INPUT: true; the input reads as it did. -/
def shadowApartSpec : ChangeSpec := { name := "shadowApart", fn := fun _ => fun
  | [d1, d2, d3] => { results := [.lit (.bool true)], args := [d1, d2, d3] }
  | _ => none }
def shadowApartRow : OpenClaim := { program := "ytmhmbgkpojgbbaa", sum := "acc5e4f1918fae1dbbe4e2f6b4d00f091c29cd1dd54d21a30319e1276ab9eb67", func := "platterhold/platterholdlaw3.ShadowApart", spec := "shadowApart", apart := false }
def ShadowApartSaid : Prop := shadowApartRow.holds Try.pinned (OpenSpec.ofChange shadowApartSpec)

/-- ITS FALSE NEIGHBOUR: 'it returns false'. Refute it at one input. -/
def shadowApartWrong : ChangeSpec := { name := "shadowApart", fn := fun _ => fun
  | [d1, d2, d3] => { results := [.lit (.bool false)], args := [d1, d2, d3] }
  | _ => none }
def ShadowApartWrongFalsely : Prop := shadowApartRow.holds Try.pinned (OpenSpec.ofChange shadowApartWrong)

/-- 'platterholdlaw2.UndoBack': WHATEVER THE INPUT: true; the input reads as it did. -/
def undoBackSpec : ChangeSpec := { name := "undoBack", fn := fun _ => fun
  | [d1, d2] => { results := [.lit (.bool true)], args := [d1, d2] }
  | _ => none }
def undoBackRow : OpenClaim := { program := "ytmhmbgkpojgbbaa", sum := "acc5e4f1918fae1dbbe4e2f6b4d00f091c29cd1dd54d21a30319e1276ab9eb67", func := "platterhold/platterholdlaw2.UndoBack", spec := "undoBack", unfollowed := true, recurses := true, apart := false }
def UndoBackSaid : Prop := undoBackRow.holds Try.pinned (OpenSpec.ofChange undoBackSpec)

/-- ITS FALSE NEIGHBOUR: 'it returns false'. Refute it at one input. -/
def undoBackWrong : ChangeSpec := { name := "undoBack", fn := fun _ => fun
  | [d1, d2] => { results := [.lit (.bool false)], args := [d1, d2] }
  | _ => none }
def UndoBackWrongFalsely : Prop := undoBackRow.holds Try.pinned (OpenSpec.ofChange undoBackWrong)

/-- 'platterholdlaw2.WalLasts': WHATEVER THE INPUT: true; the input reads as it did. -/
def walLastsSpec : ChangeSpec := { name := "walLasts", fn := fun _ => fun
  | [d1, d2, d3, d4] => { results := [.lit (.bool true)], args := [d1, d2, d3, d4] }
  | _ => none }
def walLastsRow : OpenClaim := { program := "ytmhmbgkpojgbbaa", sum := "acc5e4f1918fae1dbbe4e2f6b4d00f091c29cd1dd54d21a30319e1276ab9eb67", func := "platterhold/platterholdlaw2.WalLasts", spec := "walLasts", unfollowed := true, recurses := true, apart := false }
def WalLastsSaid : Prop := walLastsRow.holds Try.pinned (OpenSpec.ofChange walLastsSpec)

/-- ITS FALSE NEIGHBOUR: 'it returns false'. Refute it at one input. -/
def walLastsWrong : ChangeSpec := { name := "walLasts", fn := fun _ => fun
  | [d1, d2, d3, d4] => { results := [.lit (.bool false)], args := [d1, d2, d3, d4] }
  | _ => none }
def WalLastsWrongFalsely : Prop := walLastsRow.holds Try.pinned (OpenSpec.ofChange walLastsWrong)

/-- 'platterholdlaw2.WalAtomic': WHATEVER THE INPUT: true; the input reads as it did. -/
def walAtomicSpec : ChangeSpec := { name := "walAtomic", fn := fun _ => fun
  | [d1, d2] => { results := [.lit (.bool true)], args := [d1, d2] }
  | _ => none }
def walAtomicRow : OpenClaim := { program := "ytmhmbgkpojgbbaa", sum := "acc5e4f1918fae1dbbe4e2f6b4d00f091c29cd1dd54d21a30319e1276ab9eb67", func := "platterhold/platterholdlaw2.WalAtomic", spec := "walAtomic", unfollowed := true, recurses := true, apart := false }
def WalAtomicSaid : Prop := walAtomicRow.holds Try.pinned (OpenSpec.ofChange walAtomicSpec)

/-- ITS FALSE NEIGHBOUR: 'it returns false'. Refute it at one input. -/
def walAtomicWrong : ChangeSpec := { name := "walAtomic", fn := fun _ => fun
  | [d1, d2] => { results := [.lit (.bool false)], args := [d1, d2] }
  | _ => none }
def WalAtomicWrongFalsely : Prop := walAtomicRow.holds Try.pinned (OpenSpec.ofChange walAtomicWrong)

/-- 'platterholdlaw2.WalHome': WHATEVER THE INPUT: true; the input reads as it did. -/
def walHomeSpec : ChangeSpec := { name := "walHome", fn := fun _ => fun
  | [d1, d2] => { results := [.lit (.bool true)], args := [d1, d2] }
  | _ => none }
def walHomeRow : OpenClaim := { program := "ytmhmbgkpojgbbaa", sum := "acc5e4f1918fae1dbbe4e2f6b4d00f091c29cd1dd54d21a30319e1276ab9eb67", func := "platterhold/platterholdlaw2.WalHome", spec := "walHome", unfollowed := true, recurses := true, apart := false }
def WalHomeSaid : Prop := walHomeRow.holds Try.pinned (OpenSpec.ofChange walHomeSpec)

/-- ITS FALSE NEIGHBOUR: 'it returns false'. Refute it at one input. -/
def walHomeWrong : ChangeSpec := { name := "walHome", fn := fun _ => fun
  | [d1, d2] => { results := [.lit (.bool false)], args := [d1, d2] }
  | _ => none }
def WalHomeWrongFalsely : Prop := walHomeRow.holds Try.pinned (OpenSpec.ofChange walHomeWrong)

/-- 'platterholdlaw2.UndoCrash': WHATEVER THE INPUT: true; the input reads as it did. -/
def undoCrashSpec : ChangeSpec := { name := "undoCrash", fn := fun _ => fun
  | [d] => { results := [.lit (.bool true)], args := [d] }
  | _ => none }
def undoCrashRow : OpenClaim := { program := "ytmhmbgkpojgbbaa", sum := "acc5e4f1918fae1dbbe4e2f6b4d00f091c29cd1dd54d21a30319e1276ab9eb67", func := "platterhold/platterholdlaw2.UndoCrash", spec := "undoCrash", unfollowed := true, recurses := true, apart := false }
def UndoCrashSaid : Prop := undoCrashRow.holds Try.pinned (OpenSpec.ofChange undoCrashSpec)

/-- ITS FALSE NEIGHBOUR: 'it returns false'. Refute it at one input. -/
def undoCrashWrong : ChangeSpec := { name := "undoCrash", fn := fun _ => fun
  | [d] => { results := [.lit (.bool false)], args := [d] }
  | _ => none }
def UndoCrashWrongFalsely : Prop := undoCrashRow.holds Try.pinned (OpenSpec.ofChange undoCrashWrong)

/-- 'platterholdtop.TopLogs': WHATEVER THE INPUT: true; the input reads as it did. -/
def topLogsSpec : ChangeSpec := { name := "topLogs", fn := fun _ => fun
  | [d] => { results := [.lit (.bool true)], args := [d] }
  | _ => none }
def topLogsRow : OpenClaim := { program := "ytmhmbgkpojgbbaa", sum := "acc5e4f1918fae1dbbe4e2f6b4d00f091c29cd1dd54d21a30319e1276ab9eb67", func := "platterhold/platterholdtop.TopLogs", spec := "topLogs", unfollowed := true, recurses := true, apart := false }
def TopLogsSaid : Prop := topLogsRow.holds Try.pinned (OpenSpec.ofChange topLogsSpec)

/-- ITS FALSE NEIGHBOUR: 'it returns false'. Refute it at one input. -/
def topLogsWrong : ChangeSpec := { name := "topLogs", fn := fun _ => fun
  | [d] => { results := [.lit (.bool false)], args := [d] }
  | _ => none }
def TopLogsWrongFalsely : Prop := topLogsRow.holds Try.pinned (OpenSpec.ofChange topLogsWrong)

/- THE SECOND FORM. 'bulk': how many values and letters a reading holds, each counted each time it is reached (what is shared counts as often as it is met; a slice's spare places count too). A statement '..UptoSaid' is the law's where the arguments, and the package variables that the reading takes, are together of bulk at most 1048576: NARROWER than '..Said'. Prove '..Said' where nothing that the law and all that it calls make is longer than what came in: it says more and counts as full. Else prove '..UptoSaid'. A law counts once. -/
mutual
def uptoBulk {H : Type} : DataW H → Nat
  | .lit (.string bytes) => bytes.length + 1
  | .lit _ => 1
  | .nil => 1
  | .ptr d => uptoBulk d + 1
  | .slice elems spare => uptoBulkAll elems + uptoBulkAll spare + 1
  | .agg parts => uptoBulkAll parts + 1
  | .iface _ d => uptoBulk d + 1
  | .map entries => uptoBulkEntries entries + 1
  | .held _ => 1
def uptoBulkAll {H : Type} : List (DataW H) → Nat
  | [] => 0
  | d :: r => uptoBulk d + uptoBulkAll r
def uptoBulkEntries {H : Type} : List (Lit × DataW H) → Nat
  | [] => 0
  | x :: r => uptoBulkEntry x + uptoBulkEntries r
def uptoBulkEntry {H : Type} : Lit × DataW H → Nat
  | (.string bytes, d) => bytes.length + uptoBulk d + 1
  | (_, d) => uptoBulk d + 1
 end
def uptoSmall : (H : Type) → List (DataW H) → Bool := fun _ ds => decide (uptoBulkAll ds ≤ 1048576)
def OpenSpec.upto (s : _root_.Go.ChangeSpec) : _root_.Go.OpenSpec := { _root_.Go.OpenSpec.ofChange s with cond := some uptoSmall }

/-- 'platterholdlaw3.ShadowOld', WHERE WHAT IT READS IS OF BULK AT MOST 1048576: true; the input reads as it did. -/
def shadowOldUptoRow : OpenClaim := { program := "ytmhmbgkpojgbbaa", sum := "acc5e4f1918fae1dbbe4e2f6b4d00f091c29cd1dd54d21a30319e1276ab9eb67", func := "platterhold/platterholdlaw3.ShadowOld", spec := "shadowOld", apart := false, narrowed := true }
def ShadowOldUptoSaid : Prop := shadowOldUptoRow.holds Try.pinned (OpenSpec.upto shadowOldSpec)

/-- 'platterholdlaw3.ShadowEnd', WHERE WHAT IT READS IS OF BULK AT MOST 1048576: true; the input reads as it did. -/
def shadowEndUptoRow : OpenClaim := { program := "ytmhmbgkpojgbbaa", sum := "acc5e4f1918fae1dbbe4e2f6b4d00f091c29cd1dd54d21a30319e1276ab9eb67", func := "platterhold/platterholdlaw3.ShadowEnd", spec := "shadowEnd", apart := false, narrowed := true }
def ShadowEndUptoSaid : Prop := shadowEndUptoRow.holds Try.pinned (OpenSpec.upto shadowEndSpec)

/-- 'platterholdlaw3.ShadowApart', WHERE WHAT IT READS IS OF BULK AT MOST 1048576: true; the input reads as it did. -/
def shadowApartUptoRow : OpenClaim := { program := "ytmhmbgkpojgbbaa", sum := "acc5e4f1918fae1dbbe4e2f6b4d00f091c29cd1dd54d21a30319e1276ab9eb67", func := "platterhold/platterholdlaw3.ShadowApart", spec := "shadowApart", apart := false, narrowed := true }
def ShadowApartUptoSaid : Prop := shadowApartUptoRow.holds Try.pinned (OpenSpec.upto shadowApartSpec)

/-- 'platterholdlaw2.UndoBack', WHERE WHAT IT READS IS OF BULK AT MOST 1048576: true; the input reads as it did. -/
def undoBackUptoRow : OpenClaim := { program := "ytmhmbgkpojgbbaa", sum := "acc5e4f1918fae1dbbe4e2f6b4d00f091c29cd1dd54d21a30319e1276ab9eb67", func := "platterhold/platterholdlaw2.UndoBack", spec := "undoBack", unfollowed := true, recurses := true, apart := false, narrowed := true }
def UndoBackUptoSaid : Prop := undoBackUptoRow.holds Try.pinned (OpenSpec.upto undoBackSpec)

/-- 'platterholdlaw2.WalLasts', WHERE WHAT IT READS IS OF BULK AT MOST 1048576: true; the input reads as it did. -/
def walLastsUptoRow : OpenClaim := { program := "ytmhmbgkpojgbbaa", sum := "acc5e4f1918fae1dbbe4e2f6b4d00f091c29cd1dd54d21a30319e1276ab9eb67", func := "platterhold/platterholdlaw2.WalLasts", spec := "walLasts", unfollowed := true, recurses := true, apart := false, narrowed := true }
def WalLastsUptoSaid : Prop := walLastsUptoRow.holds Try.pinned (OpenSpec.upto walLastsSpec)

/-- 'platterholdlaw2.WalAtomic', WHERE WHAT IT READS IS OF BULK AT MOST 1048576: true; the input reads as it did. -/
def walAtomicUptoRow : OpenClaim := { program := "ytmhmbgkpojgbbaa", sum := "acc5e4f1918fae1dbbe4e2f6b4d00f091c29cd1dd54d21a30319e1276ab9eb67", func := "platterhold/platterholdlaw2.WalAtomic", spec := "walAtomic", unfollowed := true, recurses := true, apart := false, narrowed := true }
def WalAtomicUptoSaid : Prop := walAtomicUptoRow.holds Try.pinned (OpenSpec.upto walAtomicSpec)

/-- 'platterholdlaw2.WalHome', WHERE WHAT IT READS IS OF BULK AT MOST 1048576: true; the input reads as it did. -/
def walHomeUptoRow : OpenClaim := { program := "ytmhmbgkpojgbbaa", sum := "acc5e4f1918fae1dbbe4e2f6b4d00f091c29cd1dd54d21a30319e1276ab9eb67", func := "platterhold/platterholdlaw2.WalHome", spec := "walHome", unfollowed := true, recurses := true, apart := false, narrowed := true }
def WalHomeUptoSaid : Prop := walHomeUptoRow.holds Try.pinned (OpenSpec.upto walHomeSpec)

/-- 'platterholdlaw2.UndoCrash', WHERE WHAT IT READS IS OF BULK AT MOST 1048576: true; the input reads as it did. -/
def undoCrashUptoRow : OpenClaim := { program := "ytmhmbgkpojgbbaa", sum := "acc5e4f1918fae1dbbe4e2f6b4d00f091c29cd1dd54d21a30319e1276ab9eb67", func := "platterhold/platterholdlaw2.UndoCrash", spec := "undoCrash", unfollowed := true, recurses := true, apart := false, narrowed := true }
def UndoCrashUptoSaid : Prop := undoCrashUptoRow.holds Try.pinned (OpenSpec.upto undoCrashSpec)

/-- 'platterholdtop.TopLogs', WHERE WHAT IT READS IS OF BULK AT MOST 1048576: true; the input reads as it did. -/
def topLogsUptoRow : OpenClaim := { program := "ytmhmbgkpojgbbaa", sum := "acc5e4f1918fae1dbbe4e2f6b4d00f091c29cd1dd54d21a30319e1276ab9eb67", func := "platterhold/platterholdtop.TopLogs", spec := "topLogs", unfollowed := true, recurses := true, apart := false, narrowed := true }
def TopLogsUptoSaid : Prop := topLogsUptoRow.holds Try.pinned (OpenSpec.upto topLogsSpec)

end Rows
end Go.Proofs.Ytmhmbgkpojgbbaa
