/-
  No cell of these rows narrows 'for every input' (looked for: loops, veiled, ifaces, maps, wideKeys, modest, calm, conditions, laid).
  DERIVED. THE GIVEN ROWS OF THIS SEAT. 2 by the template 'for every input the law returns true; each argument reads behind the call as it read before'; 0 by the template 'total and deterministic' (their statements: YtcgmpccpeocmjaaTotals.lean).
  GIVEN WITH THE SEED: the statements are not yours to turn. If you find one false, say at which input.
  Laid BY PROGRAM, IN A SANDBOX (cutbox-rows.mjs): the forced cells as the released guide's own fill.sh prints them over the translation 7f038f94e1c1f877… (all of the seat's roots in one cut). By AI agents, Wed Nov 11 2026. No macro, syntax, notation, axiom, sorry.
-/
import Derived.Test.YtcgmpccpeocmjaaChecked
import GoSem.Claim
import GoSem.ClaimJoined
import GoSem.ClaimMapViews
import Derived.JoinedTies
import Derived.KernelRfl
namespace Go.Proofs.Ytcgmpccpeocmjaa
/- THE CELL 'sum', in the pinned program and in every row, IS THE sha256 OF THE DUMP (.gsa) THAT YtcgmpccpeocmjaaProg.lean LOADS. Nothing in Lean hashes anything: it is a label: what it is worth is what the hold of that sum in a sandbox is worth. -/
noncomputable def Try.pinned : Pinned := { name := "ytcgmpccpeocmjaa", sum := "7f038f94e1c1f877ab3a08936e955878ffb265bdff845e35685c7ea74752f3de", checked := Try.checked }
namespace Rows
def none {H : Type} : Left H := { results := [], args := [] }

/-- 'platterholdlaw3.LfsReads': WHATEVER THE INPUT: true; the input reads as it did. -/
def lfsReadsSpec : ChangeSpec := { name := "lfsReads", fn := fun _ => fun
  | [d1, d2] => { results := [.lit (.bool true)], args := [d1, d2] }
  | _ => none }
def lfsReadsRow : OpenClaim := { program := "ytcgmpccpeocmjaa", sum := "7f038f94e1c1f877ab3a08936e955878ffb265bdff845e35685c7ea74752f3de", func := "platterhold/platterholdlaw3.LfsReads", spec := "lfsReads", apart := false }
def LfsReadsSaid : Prop := lfsReadsRow.holds Try.pinned (OpenSpec.ofChange lfsReadsSpec)

/-- ITS FALSE NEIGHBOUR: 'it returns false'. Refute it at one input. -/
def lfsReadsWrong : ChangeSpec := { name := "lfsReads", fn := fun _ => fun
  | [d1, d2] => { results := [.lit (.bool false)], args := [d1, d2] }
  | _ => none }
def LfsReadsWrongFalsely : Prop := lfsReadsRow.holds Try.pinned (OpenSpec.ofChange lfsReadsWrong)

/-- 'platterholdlaw3.LfsLive': WHATEVER THE INPUT: true; the input reads as it did. -/
def lfsLiveSpec : ChangeSpec := { name := "lfsLive", fn := fun _ => fun
  | [d] => { results := [.lit (.bool true)], args := [d] }
  | _ => none }
def lfsLiveRow : OpenClaim := { program := "ytcgmpccpeocmjaa", sum := "7f038f94e1c1f877ab3a08936e955878ffb265bdff845e35685c7ea74752f3de", func := "platterhold/platterholdlaw3.LfsLive", spec := "lfsLive", apart := false }
def LfsLiveSaid : Prop := lfsLiveRow.holds Try.pinned (OpenSpec.ofChange lfsLiveSpec)

/-- ITS FALSE NEIGHBOUR: 'it returns false'. Refute it at one input. -/
def lfsLiveWrong : ChangeSpec := { name := "lfsLive", fn := fun _ => fun
  | [d] => { results := [.lit (.bool false)], args := [d] }
  | _ => none }
def LfsLiveWrongFalsely : Prop := lfsLiveRow.holds Try.pinned (OpenSpec.ofChange lfsLiveWrong)

/- THE SECOND FORM. 'bulk': how many values and letters a reading holds, each counted each time it is reached (what is shared counts as often as it is met; a slice's spare places count too). A statement '..UptoSaid' is the law's where the arguments, and the package variables that the reading takes, are together of bulk at most 1048576: NARROWER than '..Said'. Prove '..Said' where nothing that the law and all that it calls make is longer than what came in: it says more and counts as full. Else prove '..UptoSaid'. A law counts once. -/
mutual
def uptoBulk {H : Type} : DataW H → Nat
  | .lit (.string bytes) => bytes.length + 1
  | .lit _ => 1
  | .nil => 1
  | .ptr d => uptoBulk d + 1
  | .slice elems spare => uptoBulkAll elems + uptoBulkAll spare + 1
  | .agg parts => uptoBulkAll parts + 1
  | .iface _ d => uptoBulk d + 1
  | .map entries => uptoBulkEntries entries + 1
  | .held _ => 1
def uptoBulkAll {H : Type} : List (DataW H) → Nat
  | [] => 0
  | d :: r => uptoBulk d + uptoBulkAll r
def uptoBulkEntries {H : Type} : List (Lit × DataW H) → Nat
  | [] => 0
  | x :: r => uptoBulkEntry x + uptoBulkEntries r
def uptoBulkEntry {H : Type} : Lit × DataW H → Nat
  | (.string bytes, d) => bytes.length + uptoBulk d + 1
  | (_, d) => uptoBulk d + 1
 end
def uptoSmall : (H : Type) → List (DataW H) → Bool := fun _ ds => decide (uptoBulkAll ds ≤ 1048576)
def OpenSpec.upto (s : _root_.Go.ChangeSpec) : _root_.Go.OpenSpec := { _root_.Go.OpenSpec.ofChange s with cond := some uptoSmall }

/-- 'platterholdlaw3.LfsReads', WHERE WHAT IT READS IS OF BULK AT MOST 1048576: true; the input reads as it did. -/
def lfsReadsUptoRow : OpenClaim := { program := "ytcgmpccpeocmjaa", sum := "7f038f94e1c1f877ab3a08936e955878ffb265bdff845e35685c7ea74752f3de", func := "platterhold/platterholdlaw3.LfsReads", spec := "lfsReads", apart := false, narrowed := true }
def LfsReadsUptoSaid : Prop := lfsReadsUptoRow.holds Try.pinned (OpenSpec.upto lfsReadsSpec)

/-- 'platterholdlaw3.LfsLive', WHERE WHAT IT READS IS OF BULK AT MOST 1048576: true; the input reads as it did. -/
def lfsLiveUptoRow : OpenClaim := { program := "ytcgmpccpeocmjaa", sum := "7f038f94e1c1f877ab3a08936e955878ffb265bdff845e35685c7ea74752f3de", func := "platterhold/platterholdlaw3.LfsLive", spec := "lfsLive", apart := false, narrowed := true }
def LfsLiveUptoSaid : Prop := lfsLiveUptoRow.holds Try.pinned (OpenSpec.upto lfsLiveSpec)

end Rows
end Go.Proofs.Ytcgmpccpeocmjaa
