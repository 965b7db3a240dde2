/- What a loop over an iterator keeps. No program in sight. -/
import Derived.RangeFuncNested
import Derived.RangeFuncBound
import Derived.RangeFuncCalls
import Derived.RangeFuncLeaves
import Derived.Shelf.Abstract
import Derived.WalkKit
import Derived.Test.YtnglhfeialomgaaDoorTd01
import Derived.Test.YtnglhfeialomgaaDoorTd03
namespace Go.Proofs.YtnglhfeialomgaaDoor
open Go.RowKit Go.Shelf

/-- What lay below n₀ lies as it lay, but for the blocks of S. -/
structure Kq (n₀ : Nat) (S : List Nat) (w w' : World) : Prop where
  os : w'.os = w.os
  tape : w'.tape = w.tape
  output : w'.output = w.output
  size : w.heap.size ≤ w'.heap.size
  block : ∀ k, k < n₀ → k ∉ S → w'.heap[k]? = w.heap[k]?
section
variable {n₀ : Nat} {S : List Nat} {a b c w : World}
theorem Kq.refl (n₀ : Nat) (S : List Nat) (w : World) : Kq n₀ S w w := ⟨rfl, rfl, rfl, Nat.le_refl _, fun _ _ _ => rfl⟩
theorem Kq.trans (h : Kq n₀ S a b) (k : Kq n₀ S b c) : Kq n₀ S a c := ⟨k.os.trans h.os, k.tape.trans h.tape, k.output.trans h.output, Nat.le_trans h.size k.size, fun i hi hn => (k.block i hi hn).trans (h.block i hi hn)⟩
theorem Kq.of_fr (h : Fr S a b) (hn : n₀ ≤ a.heap.size) : Kq n₀ S a b := ⟨h.os, h.tape, h.output, h.size, fun k hk hs => h.block k (by omega) hs⟩
theorem Kq.of_frT {T : List Nat} (h : Fr T a b) (hn : n₀ ≤ a.heap.size) (hT : ∀ x ∈ T, x ∈ S ∨ n₀ ≤ x) : Kq n₀ S a b := ⟨h.os, h.tape, h.output, h.size, fun k hk hs => h.block k (by omega) (fun e => (hT k e).elim hs (by omega))⟩
theorem Kq.fr (h : Kq a.heap.size S a b) : Fr S a b := ⟨h.os, h.tape, h.output, h.size, fun k hk hs => h.block k hk hs⟩
theorem Kq.putObj (W : World) (l : Nat) (o : Obj) (hl : n₀ ≤ l) : Kq n₀ S W (W.putObj l o) := ⟨rfl, rfl, rfl, by simp, fun k hk _ => World.putObj_heap_other (by omega)⟩
theorem Kq.get (h : Kq n₀ S a b) {k : Nat} {o : Obj} (hk : a.heap[k]? = some o) (hl : k < n₀) (hs : k ∉ S) : b.heap[k]? = some o := (h.block k hl hs).trans hk
theorem Kq.cell (h : Kq n₀ S a b) {p : Addr} {v : Value} (hk : a.cell? p = some v) (hl : p.block < n₀) (hs : p.block ∉ S) : b.cell? p = some v := (World.cell?_of_block (h.block _ hl hs)).trans hk
theorem Kq.grown (h : Kq n₀ S w a) {row : Option Nat} (hg : a.grownBy b row) (hr : ∀ r, row = some r → n₀ ≤ r) (hn : n₀ ≤ a.heap.size) : Kq n₀ S w b :=
  h.trans ⟨hg.os, hg.tape, hg.output, hg.size, fun k hk _ => hg.block k (by omega) (fun e => by have := hr k e.symm; omega)⟩
theorem Kq.own {β : Type} {B : Nat} (hB : n₀ ≤ B) (hn : n₀ ≤ w.heap.size) : OwnFrom B (fun (_ : β) W => Kq n₀ S w W) := fun _ X Y row hs hg hr => hs.grown hg (fun r e => Nat.le_trans hB (hr r e).1) (Nat.le_trans hn hs.size)
end
/-- All cells lie as they lay. -/
def CellsKept (w w' : World) : Prop := ∀ (k : Nat) (o : Obj), w.heap[k]? = some o → o.isCells = true → w'.heap[k]? = some o
theorem CellsKept.of_grown {B : Nat} {w w' : World} {row : Option Nat} (hg : w.grownBy w' row) (hr : ∀ r, row = some r → B ≤ r ∧ ∃ o : Obj, w.heap[r]? = some o ∧ o.isCells = false) : CellsKept w w' := fun k o hk ho =>
  (hg.block k (lt_of_heap hk) (fun e => by
    obtain ⟨_, o', h1, h2⟩ := hr k e.symm
    rw [hk] at h1
    cases h1
    rw [ho] at h2
    cases h2)).trans hk
theorem Kq.frOf {n₀ : Nat} {S : List Nat} {w W0 W : World} (h : Kq n₀ S W0 W) (f : Fr [] w W0) (hn : w.heap.size ≤ n₀) (hS : ∀ k ∈ S, w.heap.size ≤ k) : Fr [] w W :=
  ⟨h.os.trans f.os, h.tape.trans f.tape, h.output.trans f.output, Nat.le_trans f.size h.size, fun k hk _ => (h.block k (by omega) (fun hm => by have := hS k hm; omega)).trans (f.block k hk (by simp))⟩
/-- Only a block of cells turns: all walks and maps lie as they lay. -/
theorem KeepsWalks.of_fr {W W' : World} {S : List Nat} (h : Fr S W W') (hS : ∀ k ∈ S, ∀ o, W.heap[k]? = some o → o.isCells = true) : KeepsWalks W W' :=
  ⟨h.size, fun k o hk ho => (h.block k (lt_of_heap hk) (fun hm => by
    have := hS k hm o hk
    cases o <;> simp [Obj.isCells, Obj.isWalk] at this ho)).trans hk⟩
theorem KeepsFrom.of_fr {W W' : World} {S : List Nat} {B : Nat} (h : Fr S W W') (hS : ∀ k ∈ S, ∀ o, W.heap[k]? = some o → o.isCells = true) : KeepsFrom B W W' :=
  ⟨h.size, fun k o _ hk ho => (h.block k (lt_of_heap hk) (fun hm => by
    have := hS k hm o hk
    rw [ho] at this
    cases this)).trans hk⟩
end Go.Proofs.YtnglhfeialomgaaDoor
/- Trees of directories: a graph of nodes, what is found along a path, what a set entry does to it. No program in sight. -/
namespace Go.Proofs.YtnglhfeialomgaaDoor
namespace Tr
abbrev Nme := List UInt8

/-- Nodes by their blocks: a directory's entries (none: a file), the block of its map, how often a node is named. -/
structure G where
  root : Nat
  many : Int
  ent : Nat → Option (Nme → Option Nat)
  mb : Nat → Nat
  nms : Nat → Int
inductive Rs where
  | ok (n : Nat)
  | err (c : Int)
/-- What find finds. -/
def fnd (g : G) : Nat → List Nme → Rs
  | n, [] => .ok n
  | n, p :: r => match g.ent n with
    | none => .err 3
    | some m => match m p with
      | none => .err 5
      | some c => fnd g c r
theorem fnd_cons (g : G) (n : Nat) (p : Nme) (r : List Nme) : fnd g n (p :: r) = match g.ent n with
    | none => .err 3
    | some m => match m p with
      | none => .err 5
      | some c => fnd g c r := rfl
theorem fnd_file {g : G} {n : Nat} (h : g.ent n = none) (x : Nme) (r : List Nme) : fnd g n (x :: r) = .err 3 := by rw [fnd_cons, h]
theorem fnd_miss {g : G} {n : Nat} {m : Nme → Option Nat} (h : g.ent n = some m) {x : Nme} (hx : m x = none) (r : List Nme) : fnd g n (x :: r) = .err 5 := by
  rw [fnd_cons, h]
  show (match m x with | none => Rs.err 5 | some c => fnd g c r) = _
  rw [hx]
theorem fnd_hit {g : G} {n c : Nat} {m : Nme → Option Nat} (h : g.ent n = some m) {x : Nme} (hx : m x = some c) (r : List Nme) : fnd g n (x :: r) = fnd g c r := by
  rw [fnd_cons, h]
  show (match m x with | none => Rs.err 5 | some c => fnd g c r) = _
  rw [hx]
theorem fnd_app (g : G) : ∀ (p q : List Nme) (n : Nat), fnd g n (p ++ q) = match fnd g n p with
    | .ok c => fnd g c q
    | .err e => .err e
  | [], q, n => rfl
  | x :: p, q, n => by
    show fnd g n (x :: (p ++ q)) = _
    rw [fnd_cons, fnd_cons]
    cases g.ent n with
    | none => rfl
    | some m =>
      show (match m x with | none => Rs.err 5 | some c => fnd g c (p ++ q)) = match (match m x with | none => Rs.err 5 | some c => fnd g c p) with
        | .ok c => fnd g c q
        | .err e => .err e
      cases m x with
      | none => rfl
      | some c => exact fnd_app g p q c
theorem fnd_app_ok {g : G} {p : List Nme} {n c : Nat} (h : fnd g n p = .ok c) (q : List Nme) : fnd g n (p ++ q) = fnd g c q := by rw [fnd_app, h]
theorem fnd_app_err {g : G} {p : List Nme} {n : Nat} {e : Int} (h : fnd g n p = .err e) (q : List Nme) : fnd g n (p ++ q) = .err e := by rw [fnd_app, h]
/-- What is ahead of something found is found, too, and is a directory. -/
theorem fnd_front {g : G} {p : List Nme} {x : Nme} {r : List Nme} {n c : Nat} (h : fnd g n (p ++ x :: r) = .ok c) : ∃ d m e, fnd g n p = .ok d ∧ g.ent d = some m ∧ m x = some e ∧ fnd g e r = .ok c := by
  rw [fnd_app] at h
  cases hp : fnd g n p with
  | err e => rw [hp] at h; cases h
  | ok d =>
    rw [hp] at h
    have h : fnd g d (x :: r) = .ok c := h
    rw [fnd_cons] at h
    cases hm : g.ent d with
    | none => rw [hm] at h; cases h
    | some m =>
      rw [hm] at h
      have h : (match m x with | none => Rs.err 5 | some c => fnd g c r) = .ok c := h
      cases hx : m x with
      | none => rw [hx] at h; cases h
      | some e => rw [hx] at h; exact ⟨d, m, e, rfl, hm, hx, h⟩
/-- An entry set, or struck. -/
def setE (g : G) (d : Nat) (x : Nme) (o : Option Nat) : G := { g with ent := fun b => if b = d then (g.ent d).map (fun m y => if y = x then o else m y) else g.ent b }
theorem setE_d {g : G} {d : Nat} {m : Nme → Option Nat} (h : g.ent d = some m) (x : Nme) (o : Option Nat) : (setE g d x o).ent d = some (fun y => if y = x then o else m y) := by
  show (if d = d then _ else _) = _
  rw [if_pos rfl, h]; rfl
theorem setE_ne {g : G} {d b : Nat} (h : b ≠ d) (x : Nme) (o : Option Nat) : (setE g d x o).ent b = g.ent b := if_neg h
theorem setE_some {g : G} {d b : Nat} {x : Nme} {o : Option Nat} : ((setE g d x o).ent b).isSome = (g.ent b).isSome := by
  by_cases h : b = d
  · subst h
    show (if b = b then _ else _ : Option _).isSome = _
    rw [if_pos rfl]
    cases g.ent b <;> rfl
  · rw [setE_ne h]
/-- A way that does not take the entry is as it was. -/
theorem fnd_far {g : G} {d : Nat} {x : Nme} {o : Option Nat} : ∀ (p : List Nme) (n : Nat), (∀ p1 r, p = p1 ++ x :: r → fnd g n p1 ≠ .ok d) → fnd (setE g d x o) n p = fnd g n p
  | [], n, _ => rfl
  | y :: r, n, h => by
    rw [fnd_cons, fnd_cons]
    by_cases hn : n = d
    · subst hn
      have hy : y ≠ x := fun e => h [] r (by rw [e]; rfl) rfl
      cases hm : g.ent n with
      | none =>
        have : (setE g n x o).ent n = none := by show (if n = n then _ else _) = _; rw [if_pos rfl, hm]; rfl
        rw [this]
      | some m =>
        rw [setE_d hm]
        show (match (if y = x then o else m y) with | none => Rs.err 5 | some c => fnd (setE g n x o) c r) = match m y with | none => Rs.err 5 | some c => fnd g c r
        rw [if_neg hy]
        cases hx : m y with
        | none => rfl
        | some c => exact fnd_far r c (fun p1 r1 e he => h (y :: p1) r1 (by rw [e]; rfl) (by rw [fnd_cons, hm]; show (match m y with | none => Rs.err 5 | some c => fnd g c p1) = _; rw [hx]; exact he))
    · rw [setE_ne hn]
      cases hm : g.ent n with
      | none => rfl
      | some m =>
        show (match m y with | none => Rs.err 5 | some c => fnd (setE g d x o) c r) = match m y with | none => Rs.err 5 | some c => fnd g c r
        cases hx : m y with
        | none => rfl
        | some c => exact fnd_far r c (fun p1 r1 e he => h (y :: p1) r1 (by rw [e]; rfl) (by rw [fnd_cons, hm]; show (match m y with | none => Rs.err 5 | some c => fnd g c p1) = _; rw [hx]; exact he))
/-- The node d has one way from the root: P. -/
def One (g : G) (d : Nat) (P : List Nme) : Prop := fnd g g.root P = .ok d ∧ ∀ p, fnd g g.root p = .ok d → p = P
/-- What is found behind a set entry. -/
theorem fnd_set_at {g : G} {d : Nat} {P : List Nme} {m : Nme → Option Nat} (h1 : One g d P) (hm : g.ent d = some m) (x : Nme) (o : Option Nat) (r : List Nme) :
    fnd (setE g d x o) g.root (P ++ x :: r) = match o with | none => .err 5 | some c => fnd (setE g d x o) c r := by
  have hP : fnd (setE g d x o) g.root P = .ok d := by
    rw [fnd_far P g.root (fun p1 r1 e he => ?_)]
    · exact h1.1
    · have := h1.2 p1 he
      rw [this] at e
      have := congrArg List.length e
      simp at this
  rw [fnd_app_ok hP, fnd_cons, setE_d hm]
  show (match (if x = x then o else m x) with | none => Rs.err 5 | some c => fnd (setE g d x o) c r) = _
  rw [if_pos rfl]
theorem fnd_set_far {g : G} {d : Nat} {P : List Nme} (h1 : One g d P) (x : Nme) (o : Option Nat) {p : List Nme} (h : ¬ ∃ r, p = P ++ x :: r) : fnd (setE g d x o) g.root p = fnd g g.root p :=
  fnd_far p g.root (fun p1 r e he => h ⟨r, by rw [← h1.2 p1 he]; exact e⟩)
/-- A graph in order: each way is short, each directory has one way, names are names. -/
structure OK (g : G) : Prop where
  root : (g.ent g.root).isSome = true
  short : ∀ p c, fnd g g.root p = .ok c → p.length ≤ 8
  one : ∀ p q c, fnd g g.root p = .ok c → fnd g g.root q = .ok c → (g.ent c).isSome = true → p = q
  name : ∀ d m x c, g.ent d = some m → m x = some c → Pa.IsName x
theorem OK.way {g : G} (h : OK g) {d : Nat} {P : List Nme} (hp : fnd g g.root P = .ok d) (hd : (g.ent d).isSome = true) : One g d P := ⟨hp, fun p hp' => h.one p P d hp' hp hd⟩
theorem isSome_some {α : Type} {o : Option α} {a : α} (h : o = some a) : o.isSome = true := by rw [h]; rfl
/-- No way from c on leads to d. -/
def Off (g : G) (c d : Nat) : Prop := ∀ q, fnd g c q ≠ .ok d
theorem fnd_off {g : G} {c d : Nat} (h : Off g c d) (x : Nme) (o : Option Nat) (q : List Nme) : fnd (setE g d x o) c q = fnd g c q := fnd_far q c (fun p1 _ _ he => h p1 he)
end Tr
end Go.Proofs.YtnglhfeialomgaaDoor
