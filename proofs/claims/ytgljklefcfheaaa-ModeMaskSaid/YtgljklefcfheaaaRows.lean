/-
  No cell of these rows narrows 'for every input' (looked for: loops, veiled, ifaces, maps, wideKeys, modest, calm, conditions, laid).
  DERIVED. THE GIVEN ROWS OF THIS SEAT. 3 by the template 'for every input the law returns true; each argument reads behind the call as it read before'; 0 by the template 'total and deterministic' (their statements: YtgljklefcfheaaaTotals.lean).
  GIVEN WITH THE SEED: the statements are not yours to turn. If you find one false, say at which input.
  Laid BY PROGRAM, IN A SANDBOX (cutbox-rows.mjs): the forced cells as the released guide's own fill.sh prints them over the translation c7bcc97541eb2875… (all of the seat's roots in one cut). By AI agents, Wed Nov 11 2026. No macro, syntax, notation, axiom, sorry.
-/
import Derived.Test.YtgljklefcfheaaaChecked
import GoSem.Claim
import GoSem.ClaimJoined
import GoSem.ClaimMapViews
import Derived.JoinedTies
import Derived.KernelRfl
namespace Go.Proofs.Ytgljklefcfheaaa
/- THE CELL 'sum', in the pinned program and in every row, IS THE sha256 OF THE DUMP (.gsa) THAT YtgljklefcfheaaaProg.lean LOADS. Nothing in Lean hashes anything: it is a label: what it is worth is what the hold of that sum in a sandbox is worth. -/
noncomputable def Try.pinned : Pinned := { name := "ytgljklefcfheaaa", sum := "c7bcc97541eb2875b5bed06b0b35481fc48db9e110917563623ef9231fbbe79d", checked := Try.checked }
namespace Rows
def none {H : Type} : Left H := { results := [], args := [] }

/-- 'platterholdlaw2.ModeLess': WHATEVER THE INPUT: true; the input reads as it did. -/
def modeLessSpec : ChangeSpec := { name := "modeLess", fn := fun _ => fun
  | [d1, d2, d3, d4, d5, d6, d7] => { results := [.lit (.bool true)], args := [d1, d2, d3, d4, d5, d6, d7] }
  | _ => none }
def modeLessRow : OpenClaim := { program := "ytgljklefcfheaaa", sum := "c7bcc97541eb2875b5bed06b0b35481fc48db9e110917563623ef9231fbbe79d", func := "platterhold/platterholdlaw2.ModeLess", spec := "modeLess", inPlace := ["internal/abi.NoEscape", "internal/bytealg.MakeNoZero"], apart := false }
def ModeLessSaid : Prop := modeLessRow.holds Try.pinned (OpenSpec.ofChange modeLessSpec)

/-- ITS FALSE NEIGHBOUR: 'it returns false'. Refute it at one input. -/
def modeLessWrong : ChangeSpec := { name := "modeLess", fn := fun _ => fun
  | [d1, d2, d3, d4, d5, d6, d7] => { results := [.lit (.bool false)], args := [d1, d2, d3, d4, d5, d6, d7] }
  | _ => none }
def ModeLessWrongFalsely : Prop := modeLessRow.holds Try.pinned (OpenSpec.ofChange modeLessWrong)

/-- 'platterholdlaw2.ModeMask': WHATEVER THE INPUT: true; the input reads as it did. -/
def modeMaskSpec : ChangeSpec := { name := "modeMask", fn := fun _ => fun
  | [d1, d2, d3, d4, d5, d6, d7] => { results := [.lit (.bool true)], args := [d1, d2, d3, d4, d5, d6, d7] }
  | _ => none }
def modeMaskRow : OpenClaim := { program := "ytgljklefcfheaaa", sum := "c7bcc97541eb2875b5bed06b0b35481fc48db9e110917563623ef9231fbbe79d", func := "platterhold/platterholdlaw2.ModeMask", spec := "modeMask", inPlace := ["internal/abi.NoEscape", "internal/bytealg.MakeNoZero"], apart := false }
def ModeMaskSaid : Prop := modeMaskRow.holds Try.pinned (OpenSpec.ofChange modeMaskSpec)

/-- ITS FALSE NEIGHBOUR: 'it returns false'. Refute it at one input. -/
def modeMaskWrong : ChangeSpec := { name := "modeMask", fn := fun _ => fun
  | [d1, d2, d3, d4, d5, d6, d7] => { results := [.lit (.bool false)], args := [d1, d2, d3, d4, d5, d6, d7] }
  | _ => none }
def ModeMaskWrongFalsely : Prop := modeMaskRow.holds Try.pinned (OpenSpec.ofChange modeMaskWrong)

/-- 'platterholdlaw2.ModeBack': WHATEVER THE INPUT: true; the input reads as it did. -/
def modeBackSpec : ChangeSpec := { name := "modeBack", fn := fun _ => fun
  | [d1, d2] => { results := [.lit (.bool true)], args := [d1, d2] }
  | _ => none }
def modeBackRow : OpenClaim := { program := "ytgljklefcfheaaa", sum := "c7bcc97541eb2875b5bed06b0b35481fc48db9e110917563623ef9231fbbe79d", func := "platterhold/platterholdlaw2.ModeBack", spec := "modeBack", inPlace := ["internal/abi.NoEscape", "internal/bytealg.MakeNoZero"], apart := false }
def ModeBackSaid : Prop := modeBackRow.holds Try.pinned (OpenSpec.ofChange modeBackSpec)

/-- ITS FALSE NEIGHBOUR: 'it returns false'. Refute it at one input. -/
def modeBackWrong : ChangeSpec := { name := "modeBack", fn := fun _ => fun
  | [d1, d2] => { results := [.lit (.bool false)], args := [d1, d2] }
  | _ => none }
def ModeBackWrongFalsely : Prop := modeBackRow.holds Try.pinned (OpenSpec.ofChange modeBackWrong)

/- THE SECOND FORM. 'bulk': how many values and letters a reading holds, each counted each time it is reached (what is shared counts as often as it is met; a slice's spare places count too). A statement '..UptoSaid' is the law's where the arguments, and the package variables that the reading takes, are together of bulk at most 1048576: NARROWER than '..Said'. Prove '..Said' where nothing that the law and all that it calls make is longer than what came in: it says more and counts as full. Else prove '..UptoSaid'. A law counts once. -/
mutual
def uptoBulk {H : Type} : DataW H → Nat
  | .lit (.string bytes) => bytes.length + 1
  | .lit _ => 1
  | .nil => 1
  | .ptr d => uptoBulk d + 1
  | .slice elems spare => uptoBulkAll elems + uptoBulkAll spare + 1
  | .agg parts => uptoBulkAll parts + 1
  | .iface _ d => uptoBulk d + 1
  | .map entries => uptoBulkEntries entries + 1
  | .held _ => 1
def uptoBulkAll {H : Type} : List (DataW H) → Nat
  | [] => 0
  | d :: r => uptoBulk d + uptoBulkAll r
def uptoBulkEntries {H : Type} : List (Lit × DataW H) → Nat
  | [] => 0
  | x :: r => uptoBulkEntry x + uptoBulkEntries r
def uptoBulkEntry {H : Type} : Lit × DataW H → Nat
  | (.string bytes, d) => bytes.length + uptoBulk d + 1
  | (_, d) => uptoBulk d + 1
 end
def uptoSmall : (H : Type) → List (DataW H) → Bool := fun _ ds => decide (uptoBulkAll ds ≤ 1048576)
def OpenSpec.upto (s : _root_.Go.ChangeSpec) : _root_.Go.OpenSpec := { _root_.Go.OpenSpec.ofChange s with cond := some uptoSmall }

/-- 'platterholdlaw2.ModeLess', WHERE WHAT IT READS IS OF BULK AT MOST 1048576: true; the input reads as it did. -/
def modeLessUptoRow : OpenClaim := { program := "ytgljklefcfheaaa", sum := "c7bcc97541eb2875b5bed06b0b35481fc48db9e110917563623ef9231fbbe79d", func := "platterhold/platterholdlaw2.ModeLess", spec := "modeLess", inPlace := ["internal/abi.NoEscape", "internal/bytealg.MakeNoZero"], apart := false, narrowed := true }
def ModeLessUptoSaid : Prop := modeLessUptoRow.holds Try.pinned (OpenSpec.upto modeLessSpec)

/-- 'platterholdlaw2.ModeMask', WHERE WHAT IT READS IS OF BULK AT MOST 1048576: true; the input reads as it did. -/
def modeMaskUptoRow : OpenClaim := { program := "ytgljklefcfheaaa", sum := "c7bcc97541eb2875b5bed06b0b35481fc48db9e110917563623ef9231fbbe79d", func := "platterhold/platterholdlaw2.ModeMask", spec := "modeMask", inPlace := ["internal/abi.NoEscape", "internal/bytealg.MakeNoZero"], apart := false, narrowed := true }
def ModeMaskUptoSaid : Prop := modeMaskUptoRow.holds Try.pinned (OpenSpec.upto modeMaskSpec)

/-- 'platterholdlaw2.ModeBack', WHERE WHAT IT READS IS OF BULK AT MOST 1048576: true; the input reads as it did. -/
def modeBackUptoRow : OpenClaim := { program := "ytgljklefcfheaaa", sum := "c7bcc97541eb2875b5bed06b0b35481fc48db9e110917563623ef9231fbbe79d", func := "platterhold/platterholdlaw2.ModeBack", spec := "modeBack", inPlace := ["internal/abi.NoEscape", "internal/bytealg.MakeNoZero"], apart := false, narrowed := true }
def ModeBackUptoSaid : Prop := modeBackUptoRow.holds Try.pinned (OpenSpec.upto modeBackSpec)

end Rows
end Go.Proofs.Ytgljklefcfheaaa
