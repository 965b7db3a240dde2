/-
  No cell of these rows narrows 'for every input' (looked for: loops, veiled, ifaces, maps, wideKeys, modest, calm, conditions, laid).
  DERIVED. THE GIVEN ROWS OF THIS SEAT. 5 by the template 'for every input the law returns true; each argument reads behind the call as it read before'; 0 by the template 'total and deterministic' (their statements: YtmgalnkcpolafaaTotals.lean).
  GIVEN WITH THE SEED: the statements are not yours to turn. If you find one false, say at which input.
  Laid BY PROGRAM, IN A SANDBOX (cutbox-rows.mjs): the forced cells as the released guide's own fill.sh prints them over the translation 08e8dbf15bfad82c… (all of the seat's roots in one cut). By AI agents, Wed Nov 11 2026. No macro, syntax, notation, axiom, sorry.
-/
import Derived.Test.YtmgalnkcpolafaaChecked
import GoSem.Claim
import GoSem.ClaimJoined
import GoSem.ClaimMapViews
import Derived.JoinedTies
import Derived.KernelRfl
namespace Go.Proofs.Ytmgalnkcpolafaa
/- THE CELL 'sum', in the pinned program and in every row, IS THE sha256 OF THE DUMP (.gsa) THAT YtmgalnkcpolafaaProg.lean LOADS. Nothing in Lean hashes anything: it is a label: what it is worth is what the hold of that sum in a sandbox is worth. -/
noncomputable def Try.pinned : Pinned := { name := "ytmgalnkcpolafaa", sum := "08e8dbf15bfad82cf564457b26eca8f40dee773a8c953b8306f40e039bde0f0a", checked := Try.checked }
namespace Rows
def none {H : Type} : Left H := { results := [], args := [] }

/-- 'platterholdlaw2.FdsShare': WHATEVER THE INPUT: true; the input reads as it did. -/
def fdsShareSpec : ChangeSpec := { name := "fdsShare", fn := fun _ => fun
  | [d1, d2, d3] => { results := [.lit (.bool true)], args := [d1, d2, d3] }
  | _ => none }
def fdsShareRow : OpenClaim := { program := "ytmgalnkcpolafaa", sum := "08e8dbf15bfad82cf564457b26eca8f40dee773a8c953b8306f40e039bde0f0a", func := "platterhold/platterholdlaw2.FdsShare", spec := "fdsShare", apart := false }
def FdsShareSaid : Prop := fdsShareRow.holds Try.pinned (OpenSpec.ofChange fdsShareSpec)

/-- ITS FALSE NEIGHBOUR: 'it returns false'. Refute it at one input. -/
def fdsShareWrong : ChangeSpec := { name := "fdsShare", fn := fun _ => fun
  | [d1, d2, d3] => { results := [.lit (.bool false)], args := [d1, d2, d3] }
  | _ => none }
def FdsShareWrongFalsely : Prop := fdsShareRow.holds Try.pinned (OpenSpec.ofChange fdsShareWrong)

/-- 'platterholdlaw2.FdsMove': WHATEVER THE INPUT: true; the input reads as it did. -/
def fdsMoveSpec : ChangeSpec := { name := "fdsMove", fn := fun _ => fun
  | [d1, d2, d3] => { results := [.lit (.bool true)], args := [d1, d2, d3] }
  | _ => none }
def fdsMoveRow : OpenClaim := { program := "ytmgalnkcpolafaa", sum := "08e8dbf15bfad82cf564457b26eca8f40dee773a8c953b8306f40e039bde0f0a", func := "platterhold/platterholdlaw2.FdsMove", spec := "fdsMove", apart := false }
def FdsMoveSaid : Prop := fdsMoveRow.holds Try.pinned (OpenSpec.ofChange fdsMoveSpec)

/-- ITS FALSE NEIGHBOUR: 'it returns false'. Refute it at one input. -/
def fdsMoveWrong : ChangeSpec := { name := "fdsMove", fn := fun _ => fun
  | [d1, d2, d3] => { results := [.lit (.bool false)], args := [d1, d2, d3] }
  | _ => none }
def FdsMoveWrongFalsely : Prop := fdsMoveRow.holds Try.pinned (OpenSpec.ofChange fdsMoveWrong)

/-- 'platterholdlaw2.SparseBack': WHATEVER THE INPUT: true; the input reads as it did. -/
def sparseBackSpec : ChangeSpec := { name := "sparseBack", fn := fun _ => fun
  | [d1, d2, d3] => { results := [.lit (.bool true)], args := [d1, d2, d3] }
  | _ => none }
def sparseBackRow : OpenClaim := { program := "ytmgalnkcpolafaa", sum := "08e8dbf15bfad82cf564457b26eca8f40dee773a8c953b8306f40e039bde0f0a", func := "platterhold/platterholdlaw2.SparseBack", spec := "sparseBack", apart := false }
def SparseBackSaid : Prop := sparseBackRow.holds Try.pinned (OpenSpec.ofChange sparseBackSpec)

/-- ITS FALSE NEIGHBOUR: 'it returns false'. Refute it at one input. -/
def sparseBackWrong : ChangeSpec := { name := "sparseBack", fn := fun _ => fun
  | [d1, d2, d3] => { results := [.lit (.bool false)], args := [d1, d2, d3] }
  | _ => none }
def SparseBackWrongFalsely : Prop := sparseBackRow.holds Try.pinned (OpenSpec.ofChange sparseBackWrong)

/-- 'platterholdlaw2.SparseHole': WHATEVER THE INPUT: true; the input reads as it did. -/
def sparseHoleSpec : ChangeSpec := { name := "sparseHole", fn := fun _ => fun
  | [d] => { results := [.lit (.bool true)], args := [d] }
  | _ => none }
def sparseHoleRow : OpenClaim := { program := "ytmgalnkcpolafaa", sum := "08e8dbf15bfad82cf564457b26eca8f40dee773a8c953b8306f40e039bde0f0a", func := "platterhold/platterholdlaw2.SparseHole", spec := "sparseHole", apart := false }
def SparseHoleSaid : Prop := sparseHoleRow.holds Try.pinned (OpenSpec.ofChange sparseHoleSpec)

/-- ITS FALSE NEIGHBOUR: 'it returns false'. Refute it at one input. -/
def sparseHoleWrong : ChangeSpec := { name := "sparseHole", fn := fun _ => fun
  | [d] => { results := [.lit (.bool false)], args := [d] }
  | _ => none }
def SparseHoleWrongFalsely : Prop := sparseHoleRow.holds Try.pinned (OpenSpec.ofChange sparseHoleWrong)

/-- 'platterholdlaw2.SparseCut': WHATEVER THE INPUT: true; the input reads as it did. -/
def sparseCutSpec : ChangeSpec := { name := "sparseCut", fn := fun _ => fun
  | [d1, d2] => { results := [.lit (.bool true)], args := [d1, d2] }
  | _ => none }
def sparseCutRow : OpenClaim := { program := "ytmgalnkcpolafaa", sum := "08e8dbf15bfad82cf564457b26eca8f40dee773a8c953b8306f40e039bde0f0a", func := "platterhold/platterholdlaw2.SparseCut", spec := "sparseCut", apart := false }
def SparseCutSaid : Prop := sparseCutRow.holds Try.pinned (OpenSpec.ofChange sparseCutSpec)

/-- ITS FALSE NEIGHBOUR: 'it returns false'. Refute it at one input. -/
def sparseCutWrong : ChangeSpec := { name := "sparseCut", fn := fun _ => fun
  | [d1, d2] => { results := [.lit (.bool false)], args := [d1, d2] }
  | _ => none }
def SparseCutWrongFalsely : Prop := sparseCutRow.holds Try.pinned (OpenSpec.ofChange sparseCutWrong)

/- THE SECOND FORM. 'bulk': how many values and letters a reading holds, each counted each time it is reached (what is shared counts as often as it is met; a slice's spare places count too). A statement '..UptoSaid' is the law's where the arguments, and the package variables that the reading takes, are together of bulk at most 1048576: NARROWER than '..Said'. Prove '..Said' where nothing that the law and all that it calls make is longer than what came in: it says more and counts as full. Else prove '..UptoSaid'. A law counts once. -/
mutual
def uptoBulk {H : Type} : DataW H → Nat
  | .lit (.string bytes) => bytes.length + 1
  | .lit _ => 1
  | .nil => 1
  | .ptr d => uptoBulk d + 1
  | .slice elems spare => uptoBulkAll elems + uptoBulkAll spare + 1
  | .agg parts => uptoBulkAll parts + 1
  | .iface _ d => uptoBulk d + 1
  | .map entries => uptoBulkEntries entries + 1
  | .held _ => 1
def uptoBulkAll {H : Type} : List (DataW H) → Nat
  | [] => 0
  | d :: r => uptoBulk d + uptoBulkAll r
def uptoBulkEntries {H : Type} : List (Lit × DataW H) → Nat
  | [] => 0
  | x :: r => uptoBulkEntry x + uptoBulkEntries r
def uptoBulkEntry {H : Type} : Lit × DataW H → Nat
  | (.string bytes, d) => bytes.length + uptoBulk d + 1
  | (_, d) => uptoBulk d + 1
 end
def uptoSmall : (H : Type) → List (DataW H) → Bool := fun _ ds => decide (uptoBulkAll ds ≤ 1048576)
def OpenSpec.upto (s : _root_.Go.ChangeSpec) : _root_.Go.OpenSpec := { _root_.Go.OpenSpec.ofChange s with cond := some uptoSmall }

/-- 'platterholdlaw2.FdsShare', WHERE WHAT IT READS IS OF BULK AT MOST 1048576: true; the input reads as it did. -/
def fdsShareUptoRow : OpenClaim := { program := "ytmgalnkcpolafaa", sum := "08e8dbf15bfad82cf564457b26eca8f40dee773a8c953b8306f40e039bde0f0a", func := "platterhold/platterholdlaw2.FdsShare", spec := "fdsShare", apart := false, narrowed := true }
def FdsShareUptoSaid : Prop := fdsShareUptoRow.holds Try.pinned (OpenSpec.upto fdsShareSpec)

/-- 'platterholdlaw2.FdsMove', WHERE WHAT IT READS IS OF BULK AT MOST 1048576: true; the input reads as it did. -/
def fdsMoveUptoRow : OpenClaim := { program := "ytmgalnkcpolafaa", sum := "08e8dbf15bfad82cf564457b26eca8f40dee773a8c953b8306f40e039bde0f0a", func := "platterhold/platterholdlaw2.FdsMove", spec := "fdsMove", apart := false, narrowed := true }
def FdsMoveUptoSaid : Prop := fdsMoveUptoRow.holds Try.pinned (OpenSpec.upto fdsMoveSpec)

/-- 'platterholdlaw2.SparseBack', WHERE WHAT IT READS IS OF BULK AT MOST 1048576: true; the input reads as it did. -/
def sparseBackUptoRow : OpenClaim := { program := "ytmgalnkcpolafaa", sum := "08e8dbf15bfad82cf564457b26eca8f40dee773a8c953b8306f40e039bde0f0a", func := "platterhold/platterholdlaw2.SparseBack", spec := "sparseBack", apart := false, narrowed := true }
def SparseBackUptoSaid : Prop := sparseBackUptoRow.holds Try.pinned (OpenSpec.upto sparseBackSpec)

/-- 'platterholdlaw2.SparseHole', WHERE WHAT IT READS IS OF BULK AT MOST 1048576: true; the input reads as it did. -/
def sparseHoleUptoRow : OpenClaim := { program := "ytmgalnkcpolafaa", sum := "08e8dbf15bfad82cf564457b26eca8f40dee773a8c953b8306f40e039bde0f0a", func := "platterhold/platterholdlaw2.SparseHole", spec := "sparseHole", apart := false, narrowed := true }
def SparseHoleUptoSaid : Prop := sparseHoleUptoRow.holds Try.pinned (OpenSpec.upto sparseHoleSpec)

/-- 'platterholdlaw2.SparseCut', WHERE WHAT IT READS IS OF BULK AT MOST 1048576: true; the input reads as it did. -/
def sparseCutUptoRow : OpenClaim := { program := "ytmgalnkcpolafaa", sum := "08e8dbf15bfad82cf564457b26eca8f40dee773a8c953b8306f40e039bde0f0a", func := "platterhold/platterholdlaw2.SparseCut", spec := "sparseCut", apart := false, narrowed := true }
def SparseCutUptoSaid : Prop := sparseCutUptoRow.holds Try.pinned (OpenSpec.upto sparseCutSpec)

end Rows
end Go.Proofs.Ytmgalnkcpolafaa
