/-
  No cell of these rows narrows 'for every input' (looked for: loops, veiled, ifaces, maps, wideKeys, modest, calm, conditions, laid).
  DERIVED. THE GIVEN ROWS OF THIS SEAT. 3 by the template 'for every input the law returns true; each argument reads behind the call as it read before'; 0 by the template 'total and deterministic' (their statements: YtbedfffmicbgmaaTotals.lean).
  GIVEN WITH THE SEED: the statements are not yours to turn. If you find one false, say at which input.
  Laid BY PROGRAM, IN A SANDBOX (cutbox-rows.mjs): the forced cells as the released guide's own fill.sh prints them over the translation dae58a8eeaa976c0… (all of the seat's roots in one cut). By AI agents, Wed Nov 11 2026. No macro, syntax, notation, axiom, sorry.
-/
import Derived.Test.YtbedfffmicbgmaaChecked
import GoSem.Claim
import GoSem.ClaimJoined
import GoSem.ClaimMapViews
import Derived.JoinedTies
import Derived.KernelRfl
namespace Go.Proofs.Ytbedfffmicbgmaa
/- THE CELL 'sum', in the pinned program and in every row, IS THE sha256 OF THE DUMP (.gsa) THAT YtbedfffmicbgmaaProg.lean LOADS. Nothing in Lean hashes anything: it is a label: what it is worth is what the hold of that sum in a sandbox is worth. -/
noncomputable def Try.pinned : Pinned := { name := "ytbedfffmicbgmaa", sum := "dae58a8eeaa976c0c3b4e8ab40e9d47d4823334e28aa094cc2c9c5155b4cda7b", checked := Try.checked }
namespace Rows
def none {H : Type} : Left H := { results := [], args := [] }

/-- 'platterholdlaw3.CowKeys': WHATEVER THE INPUT: true; the input reads as it did. -/
def cowKeysSpec : ChangeSpec := { name := "cowKeys", fn := fun _ => fun
  | [d1, d2, d3, d4] => { results := [.lit (.bool true)], args := [d1, d2, d3, d4] }
  | _ => none }
def cowKeysRow : OpenClaim := { program := "ytbedfffmicbgmaa", sum := "dae58a8eeaa976c0c3b4e8ab40e9d47d4823334e28aa094cc2c9c5155b4cda7b", func := "platterhold/platterholdlaw3.CowKeys", spec := "cowKeys", unfollowed := true, recurses := true, apart := false }
def CowKeysSaid : Prop := cowKeysRow.holds Try.pinned (OpenSpec.ofChange cowKeysSpec)

/-- ITS FALSE NEIGHBOUR: 'it returns false'. Refute it at one input. -/
def cowKeysWrong : ChangeSpec := { name := "cowKeys", fn := fun _ => fun
  | [d1, d2, d3, d4] => { results := [.lit (.bool false)], args := [d1, d2, d3, d4] }
  | _ => none }
def CowKeysWrongFalsely : Prop := cowKeysRow.holds Try.pinned (OpenSpec.ofChange cowKeysWrong)

/-- 'platterholdlaw3.CowShared': WHATEVER THE INPUT: true; the input reads as it did. -/
def cowSharedSpec : ChangeSpec := { name := "cowShared", fn := fun _ => fun
  | [d1, d2, d3, d4] => { results := [.lit (.bool true)], args := [d1, d2, d3, d4] }
  | _ => none }
def cowSharedRow : OpenClaim := { program := "ytbedfffmicbgmaa", sum := "dae58a8eeaa976c0c3b4e8ab40e9d47d4823334e28aa094cc2c9c5155b4cda7b", func := "platterhold/platterholdlaw3.CowShared", spec := "cowShared", unfollowed := true, recurses := true, apart := false }
def CowSharedSaid : Prop := cowSharedRow.holds Try.pinned (OpenSpec.ofChange cowSharedSpec)

/-- ITS FALSE NEIGHBOUR: 'it returns false'. Refute it at one input. -/
def cowSharedWrong : ChangeSpec := { name := "cowShared", fn := fun _ => fun
  | [d1, d2, d3, d4] => { results := [.lit (.bool false)], args := [d1, d2, d3, d4] }
  | _ => none }
def CowSharedWrongFalsely : Prop := cowSharedRow.holds Try.pinned (OpenSpec.ofChange cowSharedWrong)

/-- 'platterholdlaw3.CowOld': WHATEVER THE INPUT: true; the input reads as it did. -/
def cowOldSpec : ChangeSpec := { name := "cowOld", fn := fun _ => fun
  | [d1, d2, d3, d4, d5] => { results := [.lit (.bool true)], args := [d1, d2, d3, d4, d5] }
  | _ => none }
def cowOldRow : OpenClaim := { program := "ytbedfffmicbgmaa", sum := "dae58a8eeaa976c0c3b4e8ab40e9d47d4823334e28aa094cc2c9c5155b4cda7b", func := "platterhold/platterholdlaw3.CowOld", spec := "cowOld", unfollowed := true, recurses := true, apart := false }
def CowOldSaid : Prop := cowOldRow.holds Try.pinned (OpenSpec.ofChange cowOldSpec)

/-- ITS FALSE NEIGHBOUR: 'it returns false'. Refute it at one input. -/
def cowOldWrong : ChangeSpec := { name := "cowOld", fn := fun _ => fun
  | [d1, d2, d3, d4, d5] => { results := [.lit (.bool false)], args := [d1, d2, d3, d4, d5] }
  | _ => none }
def CowOldWrongFalsely : Prop := cowOldRow.holds Try.pinned (OpenSpec.ofChange cowOldWrong)

/- THE SECOND FORM. 'bulk': how many values and letters a reading holds, each counted each time it is reached (what is shared counts as often as it is met; a slice's spare places count too). A statement '..UptoSaid' is the law's where the arguments, and the package variables that the reading takes, are together of bulk at most 1048576: NARROWER than '..Said'. Prove '..Said' where nothing that the law and all that it calls make is longer than what came in: it says more and counts as full. Else prove '..UptoSaid'. A law counts once. -/
mutual
def uptoBulk {H : Type} : DataW H → Nat
  | .lit (.string bytes) => bytes.length + 1
  | .lit _ => 1
  | .nil => 1
  | .ptr d => uptoBulk d + 1
  | .slice elems spare => uptoBulkAll elems + uptoBulkAll spare + 1
  | .agg parts => uptoBulkAll parts + 1
  | .iface _ d => uptoBulk d + 1
  | .map entries => uptoBulkEntries entries + 1
  | .held _ => 1
def uptoBulkAll {H : Type} : List (DataW H) → Nat
  | [] => 0
  | d :: r => uptoBulk d + uptoBulkAll r
def uptoBulkEntries {H : Type} : List (Lit × DataW H) → Nat
  | [] => 0
  | x :: r => uptoBulkEntry x + uptoBulkEntries r
def uptoBulkEntry {H : Type} : Lit × DataW H → Nat
  | (.string bytes, d) => bytes.length + uptoBulk d + 1
  | (_, d) => uptoBulk d + 1
 end
def uptoSmall : (H : Type) → List (DataW H) → Bool := fun _ ds => decide (uptoBulkAll ds ≤ 1048576)
def OpenSpec.upto (s : _root_.Go.ChangeSpec) : _root_.Go.OpenSpec := { _root_.Go.OpenSpec.ofChange s with cond := some uptoSmall }

/-- 'platterholdlaw3.CowKeys', WHERE WHAT IT READS IS OF BULK AT MOST 1048576: true; the input reads as it did. -/
def cowKeysUptoRow : OpenClaim := { program := "ytbedfffmicbgmaa", sum := "dae58a8eeaa976c0c3b4e8ab40e9d47d4823334e28aa094cc2c9c5155b4cda7b", func := "platterhold/platterholdlaw3.CowKeys", spec := "cowKeys", unfollowed := true, recurses := true, apart := false, narrowed := true }
def CowKeysUptoSaid : Prop := cowKeysUptoRow.holds Try.pinned (OpenSpec.upto cowKeysSpec)

/-- 'platterholdlaw3.CowShared', WHERE WHAT IT READS IS OF BULK AT MOST 1048576: true; the input reads as it did. -/
def cowSharedUptoRow : OpenClaim := { program := "ytbedfffmicbgmaa", sum := "dae58a8eeaa976c0c3b4e8ab40e9d47d4823334e28aa094cc2c9c5155b4cda7b", func := "platterhold/platterholdlaw3.CowShared", spec := "cowShared", unfollowed := true, recurses := true, apart := false, narrowed := true }
def CowSharedUptoSaid : Prop := cowSharedUptoRow.holds Try.pinned (OpenSpec.upto cowSharedSpec)

/-- 'platterholdlaw3.CowOld', WHERE WHAT IT READS IS OF BULK AT MOST 1048576: true; the input reads as it did. -/
def cowOldUptoRow : OpenClaim := { program := "ytbedfffmicbgmaa", sum := "dae58a8eeaa976c0c3b4e8ab40e9d47d4823334e28aa094cc2c9c5155b4cda7b", func := "platterhold/platterholdlaw3.CowOld", spec := "cowOld", unfollowed := true, recurses := true, apart := false, narrowed := true }
def CowOldUptoSaid : Prop := cowOldUptoRow.holds Try.pinned (OpenSpec.upto cowOldSpec)

end Rows
end Go.Proofs.Ytbedfffmicbgmaa
