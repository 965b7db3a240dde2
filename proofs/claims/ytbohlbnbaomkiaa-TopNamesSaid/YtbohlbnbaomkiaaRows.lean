/-
  No cell of these rows narrows 'for every input' (looked for: loops, veiled, ifaces, maps, wideKeys, modest, calm, conditions, laid).
  DERIVED. THE GIVEN ROWS OF THIS SEAT. 4 by the template 'for every input the law returns true; each argument reads behind the call as it read before'; 0 by the template 'total and deterministic' (their statements: YtbohlbnbaomkiaaTotals.lean).
  GIVEN WITH THE SEED: the statements are not yours to turn. If you find one false, say at which input.
  Laid BY PROGRAM, IN A SANDBOX (cutbox-rows.mjs): the forced cells as the released guide's own fill.sh prints them over the translation 159dc745a7430eb9… (all of the seat's roots in one cut). By AI agents, Wed Nov 11 2026. No macro, syntax, notation, axiom, sorry.
-/
import Derived.Test.YtbohlbnbaomkiaaChecked
import GoSem.Claim
import GoSem.ClaimJoined
import GoSem.ClaimMapViews
import Derived.JoinedTies
import Derived.KernelRfl
namespace Go.Proofs.Ytbohlbnbaomkiaa
/- THE CELL 'sum', in the pinned program and in every row, IS THE sha256 OF THE DUMP (.gsa) THAT YtbohlbnbaomkiaaProg.lean LOADS. Nothing in Lean hashes anything: it is a label: what it is worth is what the hold of that sum in a sandbox is worth. -/
noncomputable def Try.pinned : Pinned := { name := "ytbohlbnbaomkiaa", sum := "159dc745a7430eb9a5f04ead1ee67959b89e2b6195b60f7b1e1cca3982839b8d", checked := Try.checked }
namespace Rows
def none {H : Type} : Left H := { results := [], args := [] }

/-- 'platterholdlaw3.FsckMends': WHATEVER THE INPUT: true; the input reads as it did. -/
def fsckMendsSpec : ChangeSpec := { name := "fsckMends", fn := fun _ => fun
  | [d] => { results := [.lit (.bool true)], args := [d] }
  | _ => none }
def fsckMendsRow : OpenClaim := { program := "ytbohlbnbaomkiaa", sum := "159dc745a7430eb9a5f04ead1ee67959b89e2b6195b60f7b1e1cca3982839b8d", func := "platterhold/platterholdlaw3.FsckMends", spec := "fsckMends", apart := false }
def FsckMendsSaid : Prop := fsckMendsRow.holds Try.pinned (OpenSpec.ofChange fsckMendsSpec)

/-- ITS FALSE NEIGHBOUR: 'it returns false'. Refute it at one input. -/
def fsckMendsWrong : ChangeSpec := { name := "fsckMends", fn := fun _ => fun
  | [d] => { results := [.lit (.bool false)], args := [d] }
  | _ => none }
def FsckMendsWrongFalsely : Prop := fsckMendsRow.holds Try.pinned (OpenSpec.ofChange fsckMendsWrong)

/-- 'platterholdlaw3.FsckKeeps': WHATEVER THE INPUT: true; the input reads as it did. -/
def fsckKeepsSpec : ChangeSpec := { name := "fsckKeeps", fn := fun _ => fun
  | [d] => { results := [.lit (.bool true)], args := [d] }
  | _ => none }
def fsckKeepsRow : OpenClaim := { program := "ytbohlbnbaomkiaa", sum := "159dc745a7430eb9a5f04ead1ee67959b89e2b6195b60f7b1e1cca3982839b8d", func := "platterhold/platterholdlaw3.FsckKeeps", spec := "fsckKeeps", apart := false }
def FsckKeepsSaid : Prop := fsckKeepsRow.holds Try.pinned (OpenSpec.ofChange fsckKeepsSpec)

/-- ITS FALSE NEIGHBOUR: 'it returns false'. Refute it at one input. -/
def fsckKeepsWrong : ChangeSpec := { name := "fsckKeeps", fn := fun _ => fun
  | [d] => { results := [.lit (.bool false)], args := [d] }
  | _ => none }
def FsckKeepsWrongFalsely : Prop := fsckKeepsRow.holds Try.pinned (OpenSpec.ofChange fsckKeepsWrong)

/-- 'platterholdlaw3.FsckLeaks': WHATEVER THE INPUT: true; the input reads as it did. -/
def fsckLeaksSpec : ChangeSpec := { name := "fsckLeaks", fn := fun _ => fun
  | [d1, d2, d3] => { results := [.lit (.bool true)], args := [d1, d2, d3] }
  | _ => none }
def fsckLeaksRow : OpenClaim := { program := "ytbohlbnbaomkiaa", sum := "159dc745a7430eb9a5f04ead1ee67959b89e2b6195b60f7b1e1cca3982839b8d", func := "platterhold/platterholdlaw3.FsckLeaks", spec := "fsckLeaks", apart := false }
def FsckLeaksSaid : Prop := fsckLeaksRow.holds Try.pinned (OpenSpec.ofChange fsckLeaksSpec)

/-- ITS FALSE NEIGHBOUR: 'it returns false'. Refute it at one input. -/
def fsckLeaksWrong : ChangeSpec := { name := "fsckLeaks", fn := fun _ => fun
  | [d1, d2, d3] => { results := [.lit (.bool false)], args := [d1, d2, d3] }
  | _ => none }
def FsckLeaksWrongFalsely : Prop := fsckLeaksRow.holds Try.pinned (OpenSpec.ofChange fsckLeaksWrong)

/-- 'platterholdtop.TopNames': WHATEVER THE INPUT: true; the input reads as it did. -/
def topNamesSpec : ChangeSpec := { name := "topNames", fn := fun _ => fun
  | [d] => { results := [.lit (.bool true)], args := [d] }
  | _ => none }
def topNamesRow : OpenClaim := { program := "ytbohlbnbaomkiaa", sum := "159dc745a7430eb9a5f04ead1ee67959b89e2b6195b60f7b1e1cca3982839b8d", func := "platterhold/platterholdtop.TopNames", spec := "topNames", unfollowed := true, recurses := true, apart := false }
def TopNamesSaid : Prop := topNamesRow.holds Try.pinned (OpenSpec.ofChange topNamesSpec)

/-- ITS FALSE NEIGHBOUR: 'it returns false'. Refute it at one input. -/
def topNamesWrong : ChangeSpec := { name := "topNames", fn := fun _ => fun
  | [d] => { results := [.lit (.bool false)], args := [d] }
  | _ => none }
def TopNamesWrongFalsely : Prop := topNamesRow.holds Try.pinned (OpenSpec.ofChange topNamesWrong)

/- THE SECOND FORM. 'bulk': how many values and letters a reading holds, each counted each time it is reached (what is shared counts as often as it is met; a slice's spare places count too). A statement '..UptoSaid' is the law's where the arguments, and the package variables that the reading takes, are together of bulk at most 1048576: NARROWER than '..Said'. Prove '..Said' where nothing that the law and all that it calls make is longer than what came in: it says more and counts as full. Else prove '..UptoSaid'. A law counts once. -/
mutual
def uptoBulk {H : Type} : DataW H → Nat
  | .lit (.string bytes) => bytes.length + 1
  | .lit _ => 1
  | .nil => 1
  | .ptr d => uptoBulk d + 1
  | .slice elems spare => uptoBulkAll elems + uptoBulkAll spare + 1
  | .agg parts => uptoBulkAll parts + 1
  | .iface _ d => uptoBulk d + 1
  | .map entries => uptoBulkEntries entries + 1
  | .held _ => 1
def uptoBulkAll {H : Type} : List (DataW H) → Nat
  | [] => 0
  | d :: r => uptoBulk d + uptoBulkAll r
def uptoBulkEntries {H : Type} : List (Lit × DataW H) → Nat
  | [] => 0
  | x :: r => uptoBulkEntry x + uptoBulkEntries r
def uptoBulkEntry {H : Type} : Lit × DataW H → Nat
  | (.string bytes, d) => bytes.length + uptoBulk d + 1
  | (_, d) => uptoBulk d + 1
 end
def uptoSmall : (H : Type) → List (DataW H) → Bool := fun _ ds => decide (uptoBulkAll ds ≤ 1048576)
def OpenSpec.upto (s : _root_.Go.ChangeSpec) : _root_.Go.OpenSpec := { _root_.Go.OpenSpec.ofChange s with cond := some uptoSmall }

/-- 'platterholdlaw3.FsckMends', WHERE WHAT IT READS IS OF BULK AT MOST 1048576: true; the input reads as it did. -/
def fsckMendsUptoRow : OpenClaim := { program := "ytbohlbnbaomkiaa", sum := "159dc745a7430eb9a5f04ead1ee67959b89e2b6195b60f7b1e1cca3982839b8d", func := "platterhold/platterholdlaw3.FsckMends", spec := "fsckMends", apart := false, narrowed := true }
def FsckMendsUptoSaid : Prop := fsckMendsUptoRow.holds Try.pinned (OpenSpec.upto fsckMendsSpec)

/-- 'platterholdlaw3.FsckKeeps', WHERE WHAT IT READS IS OF BULK AT MOST 1048576: true; the input reads as it did. -/
def fsckKeepsUptoRow : OpenClaim := { program := "ytbohlbnbaomkiaa", sum := "159dc745a7430eb9a5f04ead1ee67959b89e2b6195b60f7b1e1cca3982839b8d", func := "platterhold/platterholdlaw3.FsckKeeps", spec := "fsckKeeps", apart := false, narrowed := true }
def FsckKeepsUptoSaid : Prop := fsckKeepsUptoRow.holds Try.pinned (OpenSpec.upto fsckKeepsSpec)

/-- 'platterholdlaw3.FsckLeaks', WHERE WHAT IT READS IS OF BULK AT MOST 1048576: true; the input reads as it did. -/
def fsckLeaksUptoRow : OpenClaim := { program := "ytbohlbnbaomkiaa", sum := "159dc745a7430eb9a5f04ead1ee67959b89e2b6195b60f7b1e1cca3982839b8d", func := "platterhold/platterholdlaw3.FsckLeaks", spec := "fsckLeaks", apart := false, narrowed := true }
def FsckLeaksUptoSaid : Prop := fsckLeaksUptoRow.holds Try.pinned (OpenSpec.upto fsckLeaksSpec)

/-- 'platterholdtop.TopNames', WHERE WHAT IT READS IS OF BULK AT MOST 1048576: true; the input reads as it did. -/
def topNamesUptoRow : OpenClaim := { program := "ytbohlbnbaomkiaa", sum := "159dc745a7430eb9a5f04ead1ee67959b89e2b6195b60f7b1e1cca3982839b8d", func := "platterhold/platterholdtop.TopNames", spec := "topNames", unfollowed := true, recurses := true, apart := false, narrowed := true }
def TopNamesUptoSaid : Prop := topNamesUptoRow.holds Try.pinned (OpenSpec.upto topNamesSpec)

end Rows
end Go.Proofs.Ytbohlbnbaomkiaa
