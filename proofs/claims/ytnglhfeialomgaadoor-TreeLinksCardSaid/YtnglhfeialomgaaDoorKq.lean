/- What a loop over an iterator keeps. No program in sight. -/
import Derived.RangeFuncNested
import Derived.RangeFuncBound
import Derived.RangeFuncCalls
import Derived.RangeFuncLeaves
import Derived.Shelf.Abstract
import Derived.WalkKit
import Derived.Test.YtnglhfeialomgaaDoorBase
namespace Go.Proofs.YtnglhfeialomgaaDoor
open Go.RowKit Go.Shelf

/-- What lay below n₀ lies as it lay, but for the blocks of S. -/
structure Kq (n₀ : Nat) (S : List Nat) (w w' : World) : Prop where
  os : w'.os = w.os
  tape : w'.tape = w.tape
  output : w'.output = w.output
  size : w.heap.size ≤ w'.heap.size
  block : ∀ k, k < n₀ → k ∉ S → w'.heap[k]? = w.heap[k]?
section
variable {n₀ : Nat} {S : List Nat} {a b c w : World}
theorem Kq.refl (n₀ : Nat) (S : List Nat) (w : World) : Kq n₀ S w w := ⟨rfl, rfl, rfl, Nat.le_refl _, fun _ _ _ => rfl⟩
theorem Kq.trans (h : Kq n₀ S a b) (k : Kq n₀ S b c) : Kq n₀ S a c := ⟨k.os.trans h.os, k.tape.trans h.tape, k.output.trans h.output, Nat.le_trans h.size k.size, fun i hi hn => (k.block i hi hn).trans (h.block i hi hn)⟩
theorem Kq.of_fr (h : Fr S a b) (hn : n₀ ≤ a.heap.size) : Kq n₀ S a b := ⟨h.os, h.tape, h.output, h.size, fun k hk hs => h.block k (by omega) hs⟩
theorem Kq.of_frT {T : List Nat} (h : Fr T a b) (hn : n₀ ≤ a.heap.size) (hT : ∀ x ∈ T, x ∈ S ∨ n₀ ≤ x) : Kq n₀ S a b := ⟨h.os, h.tape, h.output, h.size, fun k hk hs => h.block k (by omega) (fun e => (hT k e).elim hs (by omega))⟩
theorem Kq.fr (h : Kq a.heap.size S a b) : Fr S a b := ⟨h.os, h.tape, h.output, h.size, fun k hk hs => h.block k hk hs⟩
theorem Kq.putObj (W : World) (l : Nat) (o : Obj) (hl : n₀ ≤ l) : Kq n₀ S W (W.putObj l o) := ⟨rfl, rfl, rfl, by simp, fun k hk _ => World.putObj_heap_other (by omega)⟩
theorem Kq.get (h : Kq n₀ S a b) {k : Nat} {o : Obj} (hk : a.heap[k]? = some o) (hl : k < n₀) (hs : k ∉ S) : b.heap[k]? = some o := (h.block k hl hs).trans hk
theorem Kq.cell (h : Kq n₀ S a b) {p : Addr} {v : Value} (hk : a.cell? p = some v) (hl : p.block < n₀) (hs : p.block ∉ S) : b.cell? p = some v := (World.cell?_of_block (h.block _ hl hs)).trans hk
theorem Kq.grown (h : Kq n₀ S w a) {row : Option Nat} (hg : a.grownBy b row) (hr : ∀ r, row = some r → n₀ ≤ r) (hn : n₀ ≤ a.heap.size) : Kq n₀ S w b :=
  h.trans ⟨hg.os, hg.tape, hg.output, hg.size, fun k hk _ => hg.block k (by omega) (fun e => by have := hr k e.symm; omega)⟩
theorem Kq.own {β : Type} {B : Nat} (hB : n₀ ≤ B) (hn : n₀ ≤ w.heap.size) : OwnFrom B (fun (_ : β) W => Kq n₀ S w W) := fun _ X Y row hs hg hr => hs.grown hg (fun r e => Nat.le_trans hB (hr r e).1) (Nat.le_trans hn hs.size)
end
/-- All cells lie as they lay. -/
def CellsKept (w w' : World) : Prop := ∀ (k : Nat) (o : Obj), w.heap[k]? = some o → o.isCells = true → w'.heap[k]? = some o
theorem CellsKept.of_grown {B : Nat} {w w' : World} {row : Option Nat} (hg : w.grownBy w' row) (hr : ∀ r, row = some r → B ≤ r ∧ ∃ o : Obj, w.heap[r]? = some o ∧ o.isCells = false) : CellsKept w w' := fun k o hk ho =>
  (hg.block k (lt_of_heap hk) (fun e => by
    obtain ⟨_, o', h1, h2⟩ := hr k e.symm
    rw [hk] at h1
    cases h1
    rw [ho] at h2
    cases h2)).trans hk
theorem Kq.frOf {n₀ : Nat} {S : List Nat} {w W0 W : World} (h : Kq n₀ S W0 W) (f : Fr [] w W0) (hn : w.heap.size ≤ n₀) (hS : ∀ k ∈ S, w.heap.size ≤ k) : Fr [] w W :=
  ⟨h.os.trans f.os, h.tape.trans f.tape, h.output.trans f.output, Nat.le_trans f.size h.size, fun k hk _ => (h.block k (by omega) (fun hm => by have := hS k hm; omega)).trans (f.block k hk (by simp))⟩
/-- Only a block of cells turns: all walks and maps lie as they lay. -/
theorem KeepsWalks.of_fr {W W' : World} {S : List Nat} (h : Fr S W W') (hS : ∀ k ∈ S, ∀ o, W.heap[k]? = some o → o.isCells = true) : KeepsWalks W W' :=
  ⟨h.size, fun k o hk ho => (h.block k (lt_of_heap hk) (fun hm => by
    have := hS k hm o hk
    cases o <;> simp [Obj.isCells, Obj.isWalk] at this ho)).trans hk⟩
theorem KeepsFrom.of_fr {W W' : World} {S : List Nat} {B : Nat} (h : Fr S W W') (hS : ∀ k ∈ S, ∀ o, W.heap[k]? = some o → o.isCells = true) : KeepsFrom B W W' :=
  ⟨h.size, fun k o _ hk ho => (h.block k (lt_of_heap hk) (fun hm => by
    have := hS k hm o hk
    rw [ho] at this
    cases this)).trans hk⟩
end Go.Proofs.YtnglhfeialomgaaDoor
