/-
  No cell of these rows narrows 'for every input' (looked for: loops, veiled, ifaces, maps, wideKeys, modest, calm, conditions, laid).
  DERIVED. THE GIVEN ROWS OF THIS SEAT. 5 by the template 'for every input the law returns true; each argument reads behind the call as it read before'; 0 by the template 'total and deterministic' (their statements: YtokbhiokcoldbaaTotals.lean).
  GIVEN WITH THE SEED: the statements are not yours to turn. If you find one false, say at which input.
  Laid BY PROGRAM, IN A SANDBOX (cutbox-rows.mjs): the forced cells as the released guide's own fill.sh prints them over the translation 0bbf7169efcf6f81… (all of the seat's roots in one cut). By AI agents, Wed Nov 11 2026. No macro, syntax, notation, axiom, sorry.
-/
import Derived.Test.YtokbhiokcoldbaaChecked
import GoSem.Claim
import GoSem.ClaimJoined
import GoSem.ClaimMapViews
import Derived.JoinedTies
import Derived.KernelRfl
namespace Go.Proofs.Ytokbhiokcoldbaa
/- THE CELL 'sum', in the pinned program and in every row, IS THE sha256 OF THE DUMP (.gsa) THAT YtokbhiokcoldbaaProg.lean LOADS. Nothing in Lean hashes anything: it is a label: what it is worth is what the hold of that sum in a sandbox is worth. -/
noncomputable def Try.pinned : Pinned := { name := "ytokbhiokcoldbaa", sum := "0bbf7169efcf6f81074c5e1ff67c02a27471cf0a9530061572cbe8954715dbc5", checked := Try.checked }
namespace Rows
def none {H : Type} : Left H := { results := [], args := [] }

/-- 'platterholdlaw3.BtreeEven': WHATEVER THE INPUT: true; the input reads as it did. -/
def btreeEvenSpec : ChangeSpec := { name := "btreeEven", fn := fun _ => fun
  | [d] => { results := [.lit (.bool true)], args := [d] }
  | _ => none }
def btreeEvenRow : OpenClaim := { program := "ytokbhiokcoldbaa", sum := "0bbf7169efcf6f81074c5e1ff67c02a27471cf0a9530061572cbe8954715dbc5", func := "platterhold/platterholdlaw3.BtreeEven", spec := "btreeEven", inPlace := ["slices.overlaps[int]", "slices.overlaps[*platterhold/btree.node]"], recurses := true, apart := false }
def BtreeEvenSaid : Prop := btreeEvenRow.holds Try.pinned (OpenSpec.ofChange btreeEvenSpec)

/-- ITS FALSE NEIGHBOUR: 'it returns false'. Refute it at one input. -/
def btreeEvenWrong : ChangeSpec := { name := "btreeEven", fn := fun _ => fun
  | [d] => { results := [.lit (.bool false)], args := [d] }
  | _ => none }
def BtreeEvenWrongFalsely : Prop := btreeEvenRow.holds Try.pinned (OpenSpec.ofChange btreeEvenWrong)

/-- 'platterholdlaw3.BtreeOrder': WHATEVER THE INPUT: true; the input reads as it did. -/
def btreeOrderSpec : ChangeSpec := { name := "btreeOrder", fn := fun _ => fun
  | [d] => { results := [.lit (.bool true)], args := [d] }
  | _ => none }
def btreeOrderRow : OpenClaim := { program := "ytokbhiokcoldbaa", sum := "0bbf7169efcf6f81074c5e1ff67c02a27471cf0a9530061572cbe8954715dbc5", func := "platterhold/platterholdlaw3.BtreeOrder", spec := "btreeOrder", inPlace := ["slices.overlaps[int]", "slices.overlaps[*platterhold/btree.node]"], unfollowed := true, recurses := true, apart := false }
def BtreeOrderSaid : Prop := btreeOrderRow.holds Try.pinned (OpenSpec.ofChange btreeOrderSpec)

/-- ITS FALSE NEIGHBOUR: 'it returns false'. Refute it at one input. -/
def btreeOrderWrong : ChangeSpec := { name := "btreeOrder", fn := fun _ => fun
  | [d] => { results := [.lit (.bool false)], args := [d] }
  | _ => none }
def BtreeOrderWrongFalsely : Prop := btreeOrderRow.holds Try.pinned (OpenSpec.ofChange btreeOrderWrong)

/-- 'platterholdlaw3.BtreeHigh': WHATEVER THE INPUT: true; the input reads as it did. -/
def btreeHighSpec : ChangeSpec := { name := "btreeHigh", fn := fun _ => fun
  | [d1, d2] => { results := [.lit (.bool true)], args := [d1, d2] }
  | _ => none }
def btreeHighRow : OpenClaim := { program := "ytokbhiokcoldbaa", sum := "0bbf7169efcf6f81074c5e1ff67c02a27471cf0a9530061572cbe8954715dbc5", func := "platterhold/platterholdlaw3.BtreeHigh", spec := "btreeHigh", inPlace := ["slices.overlaps[int]", "slices.overlaps[*platterhold/btree.node]"], unfollowed := true, recurses := true, apart := false }
def BtreeHighSaid : Prop := btreeHighRow.holds Try.pinned (OpenSpec.ofChange btreeHighSpec)

/-- ITS FALSE NEIGHBOUR: 'it returns false'. Refute it at one input. -/
def btreeHighWrong : ChangeSpec := { name := "btreeHigh", fn := fun _ => fun
  | [d1, d2] => { results := [.lit (.bool false)], args := [d1, d2] }
  | _ => none }
def BtreeHighWrongFalsely : Prop := btreeHighRow.holds Try.pinned (OpenSpec.ofChange btreeHighWrong)

/-- 'platterholdlaw3.LsmRuns': WHATEVER THE INPUT: true; the input reads as it did. -/
def lsmRunsSpec : ChangeSpec := { name := "lsmRuns", fn := fun _ => fun
  | [d] => { results := [.lit (.bool true)], args := [d] }
  | _ => none }
def lsmRunsRow : OpenClaim := { program := "ytokbhiokcoldbaa", sum := "0bbf7169efcf6f81074c5e1ff67c02a27471cf0a9530061572cbe8954715dbc5", func := "platterhold/platterholdlaw3.LsmRuns", spec := "lsmRuns", inPlace := ["slices.overlaps[platterhold/lsm.entry]", "slices.overlaps[[]platterhold/lsm.entry]"], unfollowed := true, recurses := true, apart := false }
def LsmRunsSaid : Prop := lsmRunsRow.holds Try.pinned (OpenSpec.ofChange lsmRunsSpec)

/-- ITS FALSE NEIGHBOUR: 'it returns false'. Refute it at one input. -/
def lsmRunsWrong : ChangeSpec := { name := "lsmRuns", fn := fun _ => fun
  | [d] => { results := [.lit (.bool false)], args := [d] }
  | _ => none }
def LsmRunsWrongFalsely : Prop := lsmRunsRow.holds Try.pinned (OpenSpec.ofChange lsmRunsWrong)

/-- 'platterholdtop.TopKeys': WHATEVER THE INPUT: true; the input reads as it did. -/
def topKeysSpec : ChangeSpec := { name := "topKeys", fn := fun _ => fun
  | [d1, d2] => { results := [.lit (.bool true)], args := [d1, d2] }
  | _ => none }
def topKeysRow : OpenClaim := { program := "ytokbhiokcoldbaa", sum := "0bbf7169efcf6f81074c5e1ff67c02a27471cf0a9530061572cbe8954715dbc5", func := "platterhold/platterholdtop.TopKeys", spec := "topKeys", inPlace := ["slices.overlaps[platterhold/lsm.entry]", "slices.overlaps[[]platterhold/lsm.entry]", "slices.overlaps[int]", "slices.overlaps[*platterhold/btree.node]"], unfollowed := true, recurses := true, apart := false }
def TopKeysSaid : Prop := topKeysRow.holds Try.pinned (OpenSpec.ofChange topKeysSpec)

/-- ITS FALSE NEIGHBOUR: 'it returns false'. Refute it at one input. -/
def topKeysWrong : ChangeSpec := { name := "topKeys", fn := fun _ => fun
  | [d1, d2] => { results := [.lit (.bool false)], args := [d1, d2] }
  | _ => none }
def TopKeysWrongFalsely : Prop := topKeysRow.holds Try.pinned (OpenSpec.ofChange topKeysWrong)

/- THE SECOND FORM. 'bulk': how many values and letters a reading holds, each counted each time it is reached (what is shared counts as often as it is met; a slice's spare places count too). A statement '..UptoSaid' is the law's where the arguments, and the package variables that the reading takes, are together of bulk at most 1048576: NARROWER than '..Said'. Prove '..Said' where nothing that the law and all that it calls make is longer than what came in: it says more and counts as full. Else prove '..UptoSaid'. A law counts once. -/
mutual
def uptoBulk {H : Type} : DataW H → Nat
  | .lit (.string bytes) => bytes.length + 1
  | .lit _ => 1
  | .nil => 1
  | .ptr d => uptoBulk d + 1
  | .slice elems spare => uptoBulkAll elems + uptoBulkAll spare + 1
  | .agg parts => uptoBulkAll parts + 1
  | .iface _ d => uptoBulk d + 1
  | .map entries => uptoBulkEntries entries + 1
  | .held _ => 1
def uptoBulkAll {H : Type} : List (DataW H) → Nat
  | [] => 0
  | d :: r => uptoBulk d + uptoBulkAll r
def uptoBulkEntries {H : Type} : List (Lit × DataW H) → Nat
  | [] => 0
  | x :: r => uptoBulkEntry x + uptoBulkEntries r
def uptoBulkEntry {H : Type} : Lit × DataW H → Nat
  | (.string bytes, d) => bytes.length + uptoBulk d + 1
  | (_, d) => uptoBulk d + 1
 end
def uptoSmall : (H : Type) → List (DataW H) → Bool := fun _ ds => decide (uptoBulkAll ds ≤ 1048576)
def OpenSpec.upto (s : _root_.Go.ChangeSpec) : _root_.Go.OpenSpec := { _root_.Go.OpenSpec.ofChange s with cond := some uptoSmall }

/-- 'platterholdlaw3.BtreeEven', WHERE WHAT IT READS IS OF BULK AT MOST 1048576: true; the input reads as it did. -/
def btreeEvenUptoRow : OpenClaim := { program := "ytokbhiokcoldbaa", sum := "0bbf7169efcf6f81074c5e1ff67c02a27471cf0a9530061572cbe8954715dbc5", func := "platterhold/platterholdlaw3.BtreeEven", spec := "btreeEven", inPlace := ["slices.overlaps[int]", "slices.overlaps[*platterhold/btree.node]"], recurses := true, apart := false, narrowed := true }
def BtreeEvenUptoSaid : Prop := btreeEvenUptoRow.holds Try.pinned (OpenSpec.upto btreeEvenSpec)

/-- 'platterholdlaw3.BtreeOrder', WHERE WHAT IT READS IS OF BULK AT MOST 1048576: true; the input reads as it did. -/
def btreeOrderUptoRow : OpenClaim := { program := "ytokbhiokcoldbaa", sum := "0bbf7169efcf6f81074c5e1ff67c02a27471cf0a9530061572cbe8954715dbc5", func := "platterhold/platterholdlaw3.BtreeOrder", spec := "btreeOrder", inPlace := ["slices.overlaps[int]", "slices.overlaps[*platterhold/btree.node]"], unfollowed := true, recurses := true, apart := false, narrowed := true }
def BtreeOrderUptoSaid : Prop := btreeOrderUptoRow.holds Try.pinned (OpenSpec.upto btreeOrderSpec)

/-- 'platterholdlaw3.BtreeHigh', WHERE WHAT IT READS IS OF BULK AT MOST 1048576: true; the input reads as it did. -/
def btreeHighUptoRow : OpenClaim := { program := "ytokbhiokcoldbaa", sum := "0bbf7169efcf6f81074c5e1ff67c02a27471cf0a9530061572cbe8954715dbc5", func := "platterhold/platterholdlaw3.BtreeHigh", spec := "btreeHigh", inPlace := ["slices.overlaps[int]", "slices.overlaps[*platterhold/btree.node]"], unfollowed := true, recurses := true, apart := false, narrowed := true }
def BtreeHighUptoSaid : Prop := btreeHighUptoRow.holds Try.pinned (OpenSpec.upto btreeHighSpec)

/-- 'platterholdlaw3.LsmRuns', WHERE WHAT IT READS IS OF BULK AT MOST 1048576: true; the input reads as it did. -/
def lsmRunsUptoRow : OpenClaim := { program := "ytokbhiokcoldbaa", sum := "0bbf7169efcf6f81074c5e1ff67c02a27471cf0a9530061572cbe8954715dbc5", func := "platterhold/platterholdlaw3.LsmRuns", spec := "lsmRuns", inPlace := ["slices.overlaps[platterhold/lsm.entry]", "slices.overlaps[[]platterhold/lsm.entry]"], unfollowed := true, recurses := true, apart := false, narrowed := true }
def LsmRunsUptoSaid : Prop := lsmRunsUptoRow.holds Try.pinned (OpenSpec.upto lsmRunsSpec)

/-- 'platterholdtop.TopKeys', WHERE WHAT IT READS IS OF BULK AT MOST 1048576: true; the input reads as it did. -/
def topKeysUptoRow : OpenClaim := { program := "ytokbhiokcoldbaa", sum := "0bbf7169efcf6f81074c5e1ff67c02a27471cf0a9530061572cbe8954715dbc5", func := "platterhold/platterholdtop.TopKeys", spec := "topKeys", inPlace := ["slices.overlaps[platterhold/lsm.entry]", "slices.overlaps[[]platterhold/lsm.entry]", "slices.overlaps[int]", "slices.overlaps[*platterhold/btree.node]"], unfollowed := true, recurses := true, apart := false, narrowed := true }
def TopKeysUptoSaid : Prop := topKeysUptoRow.holds Try.pinned (OpenSpec.upto topKeysSpec)

end Rows
end Go.Proofs.Ytokbhiokcoldbaa
