/-
  NARROWER THAN 'FOR EVERY INPUT', by the rows' own cells (each row's printed sentence says how): RangesAlone: laid · TopLocks: laid · RangesOne: laid · RangesFree: laid · RangesPlays: laid · ModeSays: laid.
  DERIVED. THE GIVEN ROWS OF THIS SEAT. 6 by the template 'for every input the law returns true; each argument reads behind the call as it read before'; 0 by the template 'total and deterministic' (their statements: YtgljklefcfheaaaDoorTotals.lean).
  GIVEN WITH THE SEED: the statements are not yours to turn. If you find one false, say at which input.
  Laid BY PROGRAM, IN A SANDBOX (cutbox-rows.mjs): the forced cells as the released guide's own fill.sh prints them over the translation 40a846cc932cd921… (all of the seat's roots in one cut). By AI agents, Wed Nov 11 2026. No macro, syntax, notation, axiom, sorry.
-/
import Derived.Test.YtgljklefcfheaaaDoorChecked
import GoSem.Claim
import GoSem.ClaimJoined
import GoSem.ClaimMapViews
import Derived.JoinedTies
import Derived.KernelRfl
namespace Go.Proofs.YtgljklefcfheaaaDoor
/- THE CELL 'sum', in the pinned program and in every row, IS THE sha256 OF THE DUMP (.gsa) THAT YtgljklefcfheaaaDoorProg.lean LOADS. Nothing in Lean hashes anything: it is a label: what it is worth is what the hold of that sum in a sandbox is worth. -/
noncomputable def Tryd.pinned : Pinned := { name := "ytgljklefcfheaaadoor", sum := "40a846cc932cd921491676c88613587a1e40e978622af2ccb5fcb835be241fba", checked := Tryd.checked }
namespace Rows
def none {H : Type} : Left H := { results := [], args := [] }

/- WHAT THE LISTED PACKAGE-LEVEL VARIABLES READ AS WHEN THE CALL BEGINS. Each datum BY PROGRAM (the guide's laid-datum.mjs) off the statement by which the dump's own 'gosem.cut.vars' lays the variable. In a bare row this is a premise. The card (YtgljklefcfheaaaDoorCards.lean) ties it to the program's text. -/
def laid_errors_errorType {H : Type} : DataW H := .iface "internal/reflectlite.rtype" (.agg [.ptr (.lit (.string [101, 114, 114, 111, 114]))])

/-- 'platterholdlaw2.RangesAlone': WHATEVER THE INPUT: true; the input reads as it did. -/
def rangesAloneSpec : ChangeSpec := { name := "rangesAlone", fn := fun _ => fun
  | [d] => { results := [.lit (.bool true)], args := [d] }
  | _ => none }
def rangesAloneRow : OpenClaim := { program := "ytgljklefcfheaaadoor", sum := "40a846cc932cd921491676c88613587a1e40e978622af2ccb5fcb835be241fba", func := "platterhold/platterholdlaw2.RangesAlone", spec := "rangesAlone", inPlace := ["internal/reflectlite.ValueOf", "(internal/reflectlite.Value).Type", "(internal/reflectlite.Value).IsNil", "internal/reflectlite.TypeOf", "(internal/reflectlite.Value).Elem", "(internal/reflectlite.Value).Set"], unfollowed := true, recurses := true, named := ["errors.errorType"], apart := false, laid := [("errors.errorType", laid_errors_errorType)] }
def RangesAloneSaid : Prop := rangesAloneRow.holds Tryd.pinned (OpenSpec.ofChange rangesAloneSpec)

/-- ITS FALSE NEIGHBOUR: 'it returns false'. Refute it at one input. -/
def rangesAloneWrong : ChangeSpec := { name := "rangesAlone", fn := fun _ => fun
  | [d] => { results := [.lit (.bool false)], args := [d] }
  | _ => none }
def RangesAloneWrongFalsely : Prop := rangesAloneRow.holds Tryd.pinned (OpenSpec.ofChange rangesAloneWrong)

/-- 'platterholdtop.TopLocks': WHATEVER THE INPUT: true; the input reads as it did. -/
def topLocksSpec : ChangeSpec := { name := "topLocks", fn := fun _ => fun
  | [d1, d2, d3, d4, d5, d6] => { results := [.lit (.bool true)], args := [d1, d2, d3, d4, d5, d6] }
  | _ => none }
def topLocksRow : OpenClaim := { program := "ytgljklefcfheaaadoor", sum := "40a846cc932cd921491676c88613587a1e40e978622af2ccb5fcb835be241fba", func := "platterhold/platterholdtop.TopLocks", spec := "topLocks", inPlace := ["internal/reflectlite.ValueOf", "(internal/reflectlite.Value).Type", "(internal/reflectlite.Value).IsNil", "internal/reflectlite.TypeOf", "(internal/reflectlite.Value).Elem", "(internal/reflectlite.Value).Set"], unfollowed := true, recurses := true, named := ["errors.errorType"], apart := false, laid := [("errors.errorType", laid_errors_errorType)] }
def TopLocksSaid : Prop := topLocksRow.holds Tryd.pinned (OpenSpec.ofChange topLocksSpec)

/-- ITS FALSE NEIGHBOUR: 'it returns false'. Refute it at one input. -/
def topLocksWrong : ChangeSpec := { name := "topLocks", fn := fun _ => fun
  | [d1, d2, d3, d4, d5, d6] => { results := [.lit (.bool false)], args := [d1, d2, d3, d4, d5, d6] }
  | _ => none }
def TopLocksWrongFalsely : Prop := topLocksRow.holds Tryd.pinned (OpenSpec.ofChange topLocksWrong)

/-- 'platterholdlaw2.RangesOne': WHATEVER THE INPUT: true; the input reads as it did. -/
def rangesOneSpec : ChangeSpec := { name := "rangesOne", fn := fun _ => fun
  | [d] => { results := [.lit (.bool true)], args := [d] }
  | _ => none }
def rangesOneRow : OpenClaim := { program := "ytgljklefcfheaaadoor", sum := "40a846cc932cd921491676c88613587a1e40e978622af2ccb5fcb835be241fba", func := "platterhold/platterholdlaw2.RangesOne", spec := "rangesOne", inPlace := ["internal/reflectlite.ValueOf", "(internal/reflectlite.Value).Type", "(internal/reflectlite.Value).IsNil", "internal/reflectlite.TypeOf", "(internal/reflectlite.Value).Elem", "(internal/reflectlite.Value).Set"], unfollowed := true, recurses := true, named := ["errors.errorType"], apart := false, laid := [("errors.errorType", laid_errors_errorType)] }
def RangesOneSaid : Prop := rangesOneRow.holds Tryd.pinned (OpenSpec.ofChange rangesOneSpec)

/-- ITS FALSE NEIGHBOUR: 'it returns false'. Refute it at one input. -/
def rangesOneWrong : ChangeSpec := { name := "rangesOne", fn := fun _ => fun
  | [d] => { results := [.lit (.bool false)], args := [d] }
  | _ => none }
def RangesOneWrongFalsely : Prop := rangesOneRow.holds Tryd.pinned (OpenSpec.ofChange rangesOneWrong)

/-- 'platterholdlaw2.RangesFree': WHATEVER THE INPUT: true; the input reads as it did. -/
def rangesFreeSpec : ChangeSpec := { name := "rangesFree", fn := fun _ => fun
  | [d1, d2, d3] => { results := [.lit (.bool true)], args := [d1, d2, d3] }
  | _ => none }
def rangesFreeRow : OpenClaim := { program := "ytgljklefcfheaaadoor", sum := "40a846cc932cd921491676c88613587a1e40e978622af2ccb5fcb835be241fba", func := "platterhold/platterholdlaw2.RangesFree", spec := "rangesFree", inPlace := ["internal/reflectlite.ValueOf", "(internal/reflectlite.Value).Type", "(internal/reflectlite.Value).IsNil", "internal/reflectlite.TypeOf", "(internal/reflectlite.Value).Elem", "(internal/reflectlite.Value).Set"], unfollowed := true, recurses := true, named := ["errors.errorType"], apart := false, laid := [("errors.errorType", laid_errors_errorType)] }
def RangesFreeSaid : Prop := rangesFreeRow.holds Tryd.pinned (OpenSpec.ofChange rangesFreeSpec)

/-- ITS FALSE NEIGHBOUR: 'it returns false'. Refute it at one input. -/
def rangesFreeWrong : ChangeSpec := { name := "rangesFree", fn := fun _ => fun
  | [d1, d2, d3] => { results := [.lit (.bool false)], args := [d1, d2, d3] }
  | _ => none }
def RangesFreeWrongFalsely : Prop := rangesFreeRow.holds Tryd.pinned (OpenSpec.ofChange rangesFreeWrong)

/-- 'platterholdlaw2.RangesPlays': WHATEVER THE INPUT: true; the input reads as it did. -/
def rangesPlaysSpec : ChangeSpec := { name := "rangesPlays", fn := fun _ => fun
  | [d] => { results := [.lit (.bool true)], args := [d] }
  | _ => none }
def rangesPlaysRow : OpenClaim := { program := "ytgljklefcfheaaadoor", sum := "40a846cc932cd921491676c88613587a1e40e978622af2ccb5fcb835be241fba", func := "platterhold/platterholdlaw2.RangesPlays", spec := "rangesPlays", inPlace := ["internal/reflectlite.ValueOf", "(internal/reflectlite.Value).Type", "(internal/reflectlite.Value).IsNil", "internal/reflectlite.TypeOf", "(internal/reflectlite.Value).Elem", "(internal/reflectlite.Value).Set"], unfollowed := true, recurses := true, named := ["errors.errorType"], apart := false, laid := [("errors.errorType", laid_errors_errorType)] }
def RangesPlaysSaid : Prop := rangesPlaysRow.holds Tryd.pinned (OpenSpec.ofChange rangesPlaysSpec)

/-- ITS FALSE NEIGHBOUR: 'it returns false'. Refute it at one input. -/
def rangesPlaysWrong : ChangeSpec := { name := "rangesPlays", fn := fun _ => fun
  | [d] => { results := [.lit (.bool false)], args := [d] }
  | _ => none }
def RangesPlaysWrongFalsely : Prop := rangesPlaysRow.holds Tryd.pinned (OpenSpec.ofChange rangesPlaysWrong)

/-- 'platterholdlaw2.ModeSays': WHATEVER THE INPUT: true; the input reads as it did. -/
def modeSaysSpec : ChangeSpec := { name := "modeSays", fn := fun _ => fun
  | [d1, d2, d3, d4, d5, d6, d7] => { results := [.lit (.bool true)], args := [d1, d2, d3, d4, d5, d6, d7] }
  | _ => none }
def modeSaysRow : OpenClaim := { program := "ytgljklefcfheaaadoor", sum := "40a846cc932cd921491676c88613587a1e40e978622af2ccb5fcb835be241fba", func := "platterhold/platterholdlaw2.ModeSays", spec := "modeSays", inPlace := ["internal/reflectlite.ValueOf", "(internal/reflectlite.Value).Type", "(internal/reflectlite.Value).IsNil", "internal/reflectlite.TypeOf", "(internal/reflectlite.Value).Elem", "(internal/reflectlite.Value).Set", "internal/abi.NoEscape", "internal/bytealg.MakeNoZero"], unfollowed := true, recurses := true, named := ["errors.errorType"], apart := false, laid := [("errors.errorType", laid_errors_errorType)] }
def ModeSaysSaid : Prop := modeSaysRow.holds Tryd.pinned (OpenSpec.ofChange modeSaysSpec)

/-- ITS FALSE NEIGHBOUR: 'it returns false'. Refute it at one input. -/
def modeSaysWrong : ChangeSpec := { name := "modeSays", fn := fun _ => fun
  | [d1, d2, d3, d4, d5, d6, d7] => { results := [.lit (.bool false)], args := [d1, d2, d3, d4, d5, d6, d7] }
  | _ => none }
def ModeSaysWrongFalsely : Prop := modeSaysRow.holds Tryd.pinned (OpenSpec.ofChange modeSaysWrong)

/- THE SECOND FORM. 'bulk': how many values and letters a reading holds, each counted each time it is reached (what is shared counts as often as it is met; a slice's spare places count too). A statement '..UptoSaid' is the law's where the arguments, and the package variables that the reading takes, are together of bulk at most 1048576: NARROWER than '..Said'. Prove '..Said' where nothing that the law and all that it calls make is longer than what came in: it says more and counts as full. Else prove '..UptoSaid'. A law counts once. -/
mutual
def uptoBulk {H : Type} : DataW H → Nat
  | .lit (.string bytes) => bytes.length + 1
  | .lit _ => 1
  | .nil => 1
  | .ptr d => uptoBulk d + 1
  | .slice elems spare => uptoBulkAll elems + uptoBulkAll spare + 1
  | .agg parts => uptoBulkAll parts + 1
  | .iface _ d => uptoBulk d + 1
  | .map entries => uptoBulkEntries entries + 1
  | .held _ => 1
def uptoBulkAll {H : Type} : List (DataW H) → Nat
  | [] => 0
  | d :: r => uptoBulk d + uptoBulkAll r
def uptoBulkEntries {H : Type} : List (Lit × DataW H) → Nat
  | [] => 0
  | x :: r => uptoBulkEntry x + uptoBulkEntries r
def uptoBulkEntry {H : Type} : Lit × DataW H → Nat
  | (.string bytes, d) => bytes.length + uptoBulk d + 1
  | (_, d) => uptoBulk d + 1
 end
def uptoSmall : (H : Type) → List (DataW H) → Bool := fun _ ds => decide (uptoBulkAll ds ≤ 1048576)
def OpenSpec.upto (s : _root_.Go.ChangeSpec) : _root_.Go.OpenSpec := { _root_.Go.OpenSpec.ofChange s with cond := some uptoSmall }

/-- 'platterholdlaw2.RangesAlone', WHERE WHAT IT READS IS OF BULK AT MOST 1048576: true; the input reads as it did. -/
def rangesAloneUptoRow : OpenClaim := { program := "ytgljklefcfheaaadoor", sum := "40a846cc932cd921491676c88613587a1e40e978622af2ccb5fcb835be241fba", func := "platterhold/platterholdlaw2.RangesAlone", spec := "rangesAlone", inPlace := ["internal/reflectlite.ValueOf", "(internal/reflectlite.Value).Type", "(internal/reflectlite.Value).IsNil", "internal/reflectlite.TypeOf", "(internal/reflectlite.Value).Elem", "(internal/reflectlite.Value).Set"], unfollowed := true, recurses := true, named := ["errors.errorType"], apart := false, laid := [("errors.errorType", laid_errors_errorType)], narrowed := true }
def RangesAloneUptoSaid : Prop := rangesAloneUptoRow.holds Tryd.pinned (OpenSpec.upto rangesAloneSpec)

/-- 'platterholdtop.TopLocks', WHERE WHAT IT READS IS OF BULK AT MOST 1048576: true; the input reads as it did. -/
def topLocksUptoRow : OpenClaim := { program := "ytgljklefcfheaaadoor", sum := "40a846cc932cd921491676c88613587a1e40e978622af2ccb5fcb835be241fba", func := "platterhold/platterholdtop.TopLocks", spec := "topLocks", inPlace := ["internal/reflectlite.ValueOf", "(internal/reflectlite.Value).Type", "(internal/reflectlite.Value).IsNil", "internal/reflectlite.TypeOf", "(internal/reflectlite.Value).Elem", "(internal/reflectlite.Value).Set"], unfollowed := true, recurses := true, named := ["errors.errorType"], apart := false, laid := [("errors.errorType", laid_errors_errorType)], narrowed := true }
def TopLocksUptoSaid : Prop := topLocksUptoRow.holds Tryd.pinned (OpenSpec.upto topLocksSpec)

/-- 'platterholdlaw2.RangesOne', WHERE WHAT IT READS IS OF BULK AT MOST 1048576: true; the input reads as it did. -/
def rangesOneUptoRow : OpenClaim := { program := "ytgljklefcfheaaadoor", sum := "40a846cc932cd921491676c88613587a1e40e978622af2ccb5fcb835be241fba", func := "platterhold/platterholdlaw2.RangesOne", spec := "rangesOne", inPlace := ["internal/reflectlite.ValueOf", "(internal/reflectlite.Value).Type", "(internal/reflectlite.Value).IsNil", "internal/reflectlite.TypeOf", "(internal/reflectlite.Value).Elem", "(internal/reflectlite.Value).Set"], unfollowed := true, recurses := true, named := ["errors.errorType"], apart := false, laid := [("errors.errorType", laid_errors_errorType)], narrowed := true }
def RangesOneUptoSaid : Prop := rangesOneUptoRow.holds Tryd.pinned (OpenSpec.upto rangesOneSpec)

/-- 'platterholdlaw2.RangesFree', WHERE WHAT IT READS IS OF BULK AT MOST 1048576: true; the input reads as it did. -/
def rangesFreeUptoRow : OpenClaim := { program := "ytgljklefcfheaaadoor", sum := "40a846cc932cd921491676c88613587a1e40e978622af2ccb5fcb835be241fba", func := "platterhold/platterholdlaw2.RangesFree", spec := "rangesFree", inPlace := ["internal/reflectlite.ValueOf", "(internal/reflectlite.Value).Type", "(internal/reflectlite.Value).IsNil", "internal/reflectlite.TypeOf", "(internal/reflectlite.Value).Elem", "(internal/reflectlite.Value).Set"], unfollowed := true, recurses := true, named := ["errors.errorType"], apart := false, laid := [("errors.errorType", laid_errors_errorType)], narrowed := true }
def RangesFreeUptoSaid : Prop := rangesFreeUptoRow.holds Tryd.pinned (OpenSpec.upto rangesFreeSpec)

/-- 'platterholdlaw2.RangesPlays', WHERE WHAT IT READS IS OF BULK AT MOST 1048576: true; the input reads as it did. -/
def rangesPlaysUptoRow : OpenClaim := { program := "ytgljklefcfheaaadoor", sum := "40a846cc932cd921491676c88613587a1e40e978622af2ccb5fcb835be241fba", func := "platterhold/platterholdlaw2.RangesPlays", spec := "rangesPlays", inPlace := ["internal/reflectlite.ValueOf", "(internal/reflectlite.Value).Type", "(internal/reflectlite.Value).IsNil", "internal/reflectlite.TypeOf", "(internal/reflectlite.Value).Elem", "(internal/reflectlite.Value).Set"], unfollowed := true, recurses := true, named := ["errors.errorType"], apart := false, laid := [("errors.errorType", laid_errors_errorType)], narrowed := true }
def RangesPlaysUptoSaid : Prop := rangesPlaysUptoRow.holds Tryd.pinned (OpenSpec.upto rangesPlaysSpec)

/-- 'platterholdlaw2.ModeSays', WHERE WHAT IT READS IS OF BULK AT MOST 1048576: true; the input reads as it did. -/
def modeSaysUptoRow : OpenClaim := { program := "ytgljklefcfheaaadoor", sum := "40a846cc932cd921491676c88613587a1e40e978622af2ccb5fcb835be241fba", func := "platterhold/platterholdlaw2.ModeSays", spec := "modeSays", inPlace := ["internal/reflectlite.ValueOf", "(internal/reflectlite.Value).Type", "(internal/reflectlite.Value).IsNil", "internal/reflectlite.TypeOf", "(internal/reflectlite.Value).Elem", "(internal/reflectlite.Value).Set", "internal/abi.NoEscape", "internal/bytealg.MakeNoZero"], unfollowed := true, recurses := true, named := ["errors.errorType"], apart := false, laid := [("errors.errorType", laid_errors_errorType)], narrowed := true }
def ModeSaysUptoSaid : Prop := modeSaysUptoRow.holds Tryd.pinned (OpenSpec.upto modeSaysSpec)

end Rows
end Go.Proofs.YtgljklefcfheaaaDoor
