/-
  NARROWER THAN 'FOR EVERY INPUT', by the rows' own cells (each row's printed sentence says how): CowPlays: laid · BtreePlays: laid · LsmGets: laid · LsmMerge: laid · LsmPlays: laid.
  DERIVED. THE GIVEN ROWS OF THIS SEAT. 5 by the template 'for every input the law returns true; each argument reads behind the call as it read before'; 0 by the template 'total and deterministic' (their statements: YtokbhiokcoldbaaDoorTotals.lean).
  GIVEN WITH THE SEED: the statements are not yours to turn. If you find one false, say at which input.
  Laid BY PROGRAM, IN A SANDBOX (cutbox-rows.mjs): the forced cells as the released guide's own fill.sh prints them over the translation d6be13ebbc029d3b… (all of the seat's roots in one cut). By AI agents, Wed Nov 11 2026. No macro, syntax, notation, axiom, sorry.
-/
import Derived.Test.YtokbhiokcoldbaaDoorChecked
import GoSem.Claim
import GoSem.ClaimJoined
import GoSem.ClaimMapViews
import Derived.JoinedTies
import Derived.KernelRfl
namespace Go.Proofs.YtokbhiokcoldbaaDoor
/- THE CELL 'sum', in the pinned program and in every row, IS THE sha256 OF THE DUMP (.gsa) THAT YtokbhiokcoldbaaDoorProg.lean LOADS. Nothing in Lean hashes anything: it is a label: what it is worth is what the hold of that sum in a sandbox is worth. -/
noncomputable def Tryd.pinned : Pinned := { name := "ytokbhiokcoldbaadoor", sum := "d6be13ebbc029d3b6e1d0e54276fe2d4bb364fd782eefce75f2aca40cbc60f11", checked := Tryd.checked }
namespace Rows
def none {H : Type} : Left H := { results := [], args := [] }

/- WHAT THE LISTED PACKAGE-LEVEL VARIABLES READ AS WHEN THE CALL BEGINS. Each datum BY PROGRAM (the guide's laid-datum.mjs) off the statement by which the dump's own 'gosem.cut.vars' lays the variable. In a bare row this is a premise. The card (YtokbhiokcoldbaaDoorCards.lean) ties it to the program's text. -/
def laid_errors_errorType {H : Type} : DataW H := .iface "internal/reflectlite.rtype" (.agg [.ptr (.lit (.string [101, 114, 114, 111, 114]))])

/-- 'platterholdlaw3.CowPlays': WHATEVER THE INPUT: true; the input reads as it did. -/
def cowPlaysSpec : ChangeSpec := { name := "cowPlays", fn := fun _ => fun
  | [d1, d2, d3] => { results := [.lit (.bool true)], args := [d1, d2, d3] }
  | _ => none }
def cowPlaysRow : OpenClaim := { program := "ytokbhiokcoldbaadoor", sum := "d6be13ebbc029d3b6e1d0e54276fe2d4bb364fd782eefce75f2aca40cbc60f11", func := "platterhold/platterholdlaw3.CowPlays", spec := "cowPlays", inPlace := ["internal/reflectlite.ValueOf", "(internal/reflectlite.Value).Type", "(internal/reflectlite.Value).IsNil", "internal/reflectlite.TypeOf", "(internal/reflectlite.Value).Elem", "(internal/reflectlite.Value).Set"], unfollowed := true, recurses := true, named := ["errors.errorType"], apart := false, laid := [("errors.errorType", laid_errors_errorType)] }
def CowPlaysSaid : Prop := cowPlaysRow.holds Tryd.pinned (OpenSpec.ofChange cowPlaysSpec)

/-- ITS FALSE NEIGHBOUR: 'it returns false'. Refute it at one input. -/
def cowPlaysWrong : ChangeSpec := { name := "cowPlays", fn := fun _ => fun
  | [d1, d2, d3] => { results := [.lit (.bool false)], args := [d1, d2, d3] }
  | _ => none }
def CowPlaysWrongFalsely : Prop := cowPlaysRow.holds Tryd.pinned (OpenSpec.ofChange cowPlaysWrong)

/-- 'platterholdlaw3.BtreePlays': WHATEVER THE INPUT: true; the input reads as it did. -/
def btreePlaysSpec : ChangeSpec := { name := "btreePlays", fn := fun _ => fun
  | [d1, d2] => { results := [.lit (.bool true)], args := [d1, d2] }
  | _ => none }
def btreePlaysRow : OpenClaim := { program := "ytokbhiokcoldbaadoor", sum := "d6be13ebbc029d3b6e1d0e54276fe2d4bb364fd782eefce75f2aca40cbc60f11", func := "platterhold/platterholdlaw3.BtreePlays", spec := "btreePlays", inPlace := ["slices.overlaps[int]", "slices.overlaps[*platterhold/btree.node]", "internal/reflectlite.ValueOf", "(internal/reflectlite.Value).Type", "(internal/reflectlite.Value).IsNil", "internal/reflectlite.TypeOf", "(internal/reflectlite.Value).Elem", "(internal/reflectlite.Value).Set"], unfollowed := true, recurses := true, named := ["errors.errorType"], apart := false, laid := [("errors.errorType", laid_errors_errorType)] }
def BtreePlaysSaid : Prop := btreePlaysRow.holds Tryd.pinned (OpenSpec.ofChange btreePlaysSpec)

/-- ITS FALSE NEIGHBOUR: 'it returns false'. Refute it at one input. -/
def btreePlaysWrong : ChangeSpec := { name := "btreePlays", fn := fun _ => fun
  | [d1, d2] => { results := [.lit (.bool false)], args := [d1, d2] }
  | _ => none }
def BtreePlaysWrongFalsely : Prop := btreePlaysRow.holds Tryd.pinned (OpenSpec.ofChange btreePlaysWrong)

/-- 'platterholdlaw3.LsmGets': WHATEVER THE INPUT: true; the input reads as it did. -/
def lsmGetsSpec : ChangeSpec := { name := "lsmGets", fn := fun _ => fun
  | [d1, d2] => { results := [.lit (.bool true)], args := [d1, d2] }
  | _ => none }
def lsmGetsRow : OpenClaim := { program := "ytokbhiokcoldbaadoor", sum := "d6be13ebbc029d3b6e1d0e54276fe2d4bb364fd782eefce75f2aca40cbc60f11", func := "platterhold/platterholdlaw3.LsmGets", spec := "lsmGets", inPlace := ["slices.overlaps[platterhold/lsm.entry]", "slices.overlaps[[]platterhold/lsm.entry]", "internal/reflectlite.ValueOf", "(internal/reflectlite.Value).Type", "(internal/reflectlite.Value).IsNil", "internal/reflectlite.TypeOf", "(internal/reflectlite.Value).Elem", "(internal/reflectlite.Value).Set"], unfollowed := true, recurses := true, named := ["errors.errorType"], apart := false, laid := [("errors.errorType", laid_errors_errorType)] }
def LsmGetsSaid : Prop := lsmGetsRow.holds Tryd.pinned (OpenSpec.ofChange lsmGetsSpec)

/-- ITS FALSE NEIGHBOUR: 'it returns false'. Refute it at one input. -/
def lsmGetsWrong : ChangeSpec := { name := "lsmGets", fn := fun _ => fun
  | [d1, d2] => { results := [.lit (.bool false)], args := [d1, d2] }
  | _ => none }
def LsmGetsWrongFalsely : Prop := lsmGetsRow.holds Tryd.pinned (OpenSpec.ofChange lsmGetsWrong)

/-- 'platterholdlaw3.LsmMerge': WHATEVER THE INPUT: true; the input reads as it did. -/
def lsmMergeSpec : ChangeSpec := { name := "lsmMerge", fn := fun _ => fun
  | [d] => { results := [.lit (.bool true)], args := [d] }
  | _ => none }
def lsmMergeRow : OpenClaim := { program := "ytokbhiokcoldbaadoor", sum := "d6be13ebbc029d3b6e1d0e54276fe2d4bb364fd782eefce75f2aca40cbc60f11", func := "platterhold/platterholdlaw3.LsmMerge", spec := "lsmMerge", inPlace := ["slices.overlaps[platterhold/lsm.entry]", "slices.overlaps[[]platterhold/lsm.entry]", "internal/reflectlite.ValueOf", "(internal/reflectlite.Value).Type", "(internal/reflectlite.Value).IsNil", "internal/reflectlite.TypeOf", "(internal/reflectlite.Value).Elem", "(internal/reflectlite.Value).Set"], unfollowed := true, recurses := true, named := ["errors.errorType"], apart := false, laid := [("errors.errorType", laid_errors_errorType)] }
def LsmMergeSaid : Prop := lsmMergeRow.holds Tryd.pinned (OpenSpec.ofChange lsmMergeSpec)

/-- ITS FALSE NEIGHBOUR: 'it returns false'. Refute it at one input. -/
def lsmMergeWrong : ChangeSpec := { name := "lsmMerge", fn := fun _ => fun
  | [d] => { results := [.lit (.bool false)], args := [d] }
  | _ => none }
def LsmMergeWrongFalsely : Prop := lsmMergeRow.holds Tryd.pinned (OpenSpec.ofChange lsmMergeWrong)

/-- 'platterholdlaw3.LsmPlays': WHATEVER THE INPUT: true; the input reads as it did. -/
def lsmPlaysSpec : ChangeSpec := { name := "lsmPlays", fn := fun _ => fun
  | [d1, d2] => { results := [.lit (.bool true)], args := [d1, d2] }
  | _ => none }
def lsmPlaysRow : OpenClaim := { program := "ytokbhiokcoldbaadoor", sum := "d6be13ebbc029d3b6e1d0e54276fe2d4bb364fd782eefce75f2aca40cbc60f11", func := "platterhold/platterholdlaw3.LsmPlays", spec := "lsmPlays", inPlace := ["slices.overlaps[platterhold/lsm.entry]", "slices.overlaps[[]platterhold/lsm.entry]", "internal/reflectlite.ValueOf", "(internal/reflectlite.Value).Type", "(internal/reflectlite.Value).IsNil", "internal/reflectlite.TypeOf", "(internal/reflectlite.Value).Elem", "(internal/reflectlite.Value).Set"], unfollowed := true, recurses := true, named := ["errors.errorType"], apart := false, laid := [("errors.errorType", laid_errors_errorType)] }
def LsmPlaysSaid : Prop := lsmPlaysRow.holds Tryd.pinned (OpenSpec.ofChange lsmPlaysSpec)

/-- ITS FALSE NEIGHBOUR: 'it returns false'. Refute it at one input. -/
def lsmPlaysWrong : ChangeSpec := { name := "lsmPlays", fn := fun _ => fun
  | [d1, d2] => { results := [.lit (.bool false)], args := [d1, d2] }
  | _ => none }
def LsmPlaysWrongFalsely : Prop := lsmPlaysRow.holds Tryd.pinned (OpenSpec.ofChange lsmPlaysWrong)

/- THE SECOND FORM. 'bulk': how many values and letters a reading holds, each counted each time it is reached (what is shared counts as often as it is met; a slice's spare places count too). A statement '..UptoSaid' is the law's where the arguments, and the package variables that the reading takes, are together of bulk at most 1048576: NARROWER than '..Said'. Prove '..Said' where nothing that the law and all that it calls make is longer than what came in: it says more and counts as full. Else prove '..UptoSaid'. A law counts once. -/
mutual
def uptoBulk {H : Type} : DataW H → Nat
  | .lit (.string bytes) => bytes.length + 1
  | .lit _ => 1
  | .nil => 1
  | .ptr d => uptoBulk d + 1
  | .slice elems spare => uptoBulkAll elems + uptoBulkAll spare + 1
  | .agg parts => uptoBulkAll parts + 1
  | .iface _ d => uptoBulk d + 1
  | .map entries => uptoBulkEntries entries + 1
  | .held _ => 1
def uptoBulkAll {H : Type} : List (DataW H) → Nat
  | [] => 0
  | d :: r => uptoBulk d + uptoBulkAll r
def uptoBulkEntries {H : Type} : List (Lit × DataW H) → Nat
  | [] => 0
  | x :: r => uptoBulkEntry x + uptoBulkEntries r
def uptoBulkEntry {H : Type} : Lit × DataW H → Nat
  | (.string bytes, d) => bytes.length + uptoBulk d + 1
  | (_, d) => uptoBulk d + 1
 end
def uptoSmall : (H : Type) → List (DataW H) → Bool := fun _ ds => decide (uptoBulkAll ds ≤ 1048576)
def OpenSpec.upto (s : _root_.Go.ChangeSpec) : _root_.Go.OpenSpec := { _root_.Go.OpenSpec.ofChange s with cond := some uptoSmall }

/-- 'platterholdlaw3.CowPlays', WHERE WHAT IT READS IS OF BULK AT MOST 1048576: true; the input reads as it did. -/
def cowPlaysUptoRow : OpenClaim := { program := "ytokbhiokcoldbaadoor", sum := "d6be13ebbc029d3b6e1d0e54276fe2d4bb364fd782eefce75f2aca40cbc60f11", func := "platterhold/platterholdlaw3.CowPlays", spec := "cowPlays", inPlace := ["internal/reflectlite.ValueOf", "(internal/reflectlite.Value).Type", "(internal/reflectlite.Value).IsNil", "internal/reflectlite.TypeOf", "(internal/reflectlite.Value).Elem", "(internal/reflectlite.Value).Set"], unfollowed := true, recurses := true, named := ["errors.errorType"], apart := false, laid := [("errors.errorType", laid_errors_errorType)], narrowed := true }
def CowPlaysUptoSaid : Prop := cowPlaysUptoRow.holds Tryd.pinned (OpenSpec.upto cowPlaysSpec)

/-- 'platterholdlaw3.BtreePlays', WHERE WHAT IT READS IS OF BULK AT MOST 1048576: true; the input reads as it did. -/
def btreePlaysUptoRow : OpenClaim := { program := "ytokbhiokcoldbaadoor", sum := "d6be13ebbc029d3b6e1d0e54276fe2d4bb364fd782eefce75f2aca40cbc60f11", func := "platterhold/platterholdlaw3.BtreePlays", spec := "btreePlays", inPlace := ["slices.overlaps[int]", "slices.overlaps[*platterhold/btree.node]", "internal/reflectlite.ValueOf", "(internal/reflectlite.Value).Type", "(internal/reflectlite.Value).IsNil", "internal/reflectlite.TypeOf", "(internal/reflectlite.Value).Elem", "(internal/reflectlite.Value).Set"], unfollowed := true, recurses := true, named := ["errors.errorType"], apart := false, laid := [("errors.errorType", laid_errors_errorType)], narrowed := true }
def BtreePlaysUptoSaid : Prop := btreePlaysUptoRow.holds Tryd.pinned (OpenSpec.upto btreePlaysSpec)

/-- 'platterholdlaw3.LsmGets', WHERE WHAT IT READS IS OF BULK AT MOST 1048576: true; the input reads as it did. -/
def lsmGetsUptoRow : OpenClaim := { program := "ytokbhiokcoldbaadoor", sum := "d6be13ebbc029d3b6e1d0e54276fe2d4bb364fd782eefce75f2aca40cbc60f11", func := "platterhold/platterholdlaw3.LsmGets", spec := "lsmGets", inPlace := ["slices.overlaps[platterhold/lsm.entry]", "slices.overlaps[[]platterhold/lsm.entry]", "internal/reflectlite.ValueOf", "(internal/reflectlite.Value).Type", "(internal/reflectlite.Value).IsNil", "internal/reflectlite.TypeOf", "(internal/reflectlite.Value).Elem", "(internal/reflectlite.Value).Set"], unfollowed := true, recurses := true, named := ["errors.errorType"], apart := false, laid := [("errors.errorType", laid_errors_errorType)], narrowed := true }
def LsmGetsUptoSaid : Prop := lsmGetsUptoRow.holds Tryd.pinned (OpenSpec.upto lsmGetsSpec)

/-- 'platterholdlaw3.LsmMerge', WHERE WHAT IT READS IS OF BULK AT MOST 1048576: true; the input reads as it did. -/
def lsmMergeUptoRow : OpenClaim := { program := "ytokbhiokcoldbaadoor", sum := "d6be13ebbc029d3b6e1d0e54276fe2d4bb364fd782eefce75f2aca40cbc60f11", func := "platterhold/platterholdlaw3.LsmMerge", spec := "lsmMerge", inPlace := ["slices.overlaps[platterhold/lsm.entry]", "slices.overlaps[[]platterhold/lsm.entry]", "internal/reflectlite.ValueOf", "(internal/reflectlite.Value).Type", "(internal/reflectlite.Value).IsNil", "internal/reflectlite.TypeOf", "(internal/reflectlite.Value).Elem", "(internal/reflectlite.Value).Set"], unfollowed := true, recurses := true, named := ["errors.errorType"], apart := false, laid := [("errors.errorType", laid_errors_errorType)], narrowed := true }
def LsmMergeUptoSaid : Prop := lsmMergeUptoRow.holds Tryd.pinned (OpenSpec.upto lsmMergeSpec)

/-- 'platterholdlaw3.LsmPlays', WHERE WHAT IT READS IS OF BULK AT MOST 1048576: true; the input reads as it did. -/
def lsmPlaysUptoRow : OpenClaim := { program := "ytokbhiokcoldbaadoor", sum := "d6be13ebbc029d3b6e1d0e54276fe2d4bb364fd782eefce75f2aca40cbc60f11", func := "platterhold/platterholdlaw3.LsmPlays", spec := "lsmPlays", inPlace := ["slices.overlaps[platterhold/lsm.entry]", "slices.overlaps[[]platterhold/lsm.entry]", "internal/reflectlite.ValueOf", "(internal/reflectlite.Value).Type", "(internal/reflectlite.Value).IsNil", "internal/reflectlite.TypeOf", "(internal/reflectlite.Value).Elem", "(internal/reflectlite.Value).Set"], unfollowed := true, recurses := true, named := ["errors.errorType"], apart := false, laid := [("errors.errorType", laid_errors_errorType)], narrowed := true }
def LsmPlaysUptoSaid : Prop := lsmPlaysUptoRow.holds Tryd.pinned (OpenSpec.upto lsmPlaysSpec)

end Rows
end Go.Proofs.YtokbhiokcoldbaaDoor
