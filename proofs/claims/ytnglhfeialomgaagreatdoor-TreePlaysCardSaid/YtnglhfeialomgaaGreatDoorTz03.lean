/- What all the walks of this seat share: Within, small words on lists of numbers, the forms of answers. -/
import Derived.Test.YtnglhfeialomgaaGreatDoorRows
import Derived.RangeFuncNested
import Derived.RangeFuncBound
import Derived.RangeFuncCalls
import Derived.RangeFuncLeaves
import Derived.RangeFuncMany
import Derived.Shelf.Abstract
import Derived.Shelf.RegionOpen
import Derived.Sort.MapsRangeIn
import Derived.Sort.KeysCollected
import Derived.WalkKit
import Derived.OwnWalkIn
import Derived.TacticsInMore
import Derived.RegionIn
import Derived.LoopNIn
import Derived.LoopIn
import Derived.Laws.IdiomRangeMap
import Derived.Test.YtnglhfeialomgaaGreatDoorTz01
import Derived.Test.YtnglhfeialomgaaGreatDoorTz02
namespace Go.Proofs.YtnglhfeialomgaaGreatDoor
open Go.RowKit

theorem within_any (n lo hi : Int) (w : World) :
    Calls Tryz.prog 86 #[.int .i64 n, .int .i64 lo, .int .i64 hi] w fun e w' => e = .returned (.bool (decide (lo ≤ n ∧ n ≤ hi))) ∧ w = w' := by
  go_enter Tryz.func86, Tryz.ntmps86
  go_wp2
  all_goals (go_ret; refine ⟨?_, rfl⟩; congr; try simp; try omega)
theorem within_is (n lo hi : Int) (b : Bool) (w : World) (h : decide (lo ≤ n ∧ n ≤ hi) = b) :
    Calls Tryz.prog 86 #[.int .i64 n, .int .i64 lo, .int .i64 hi] w fun e w' => e = .returned (.bool b) ∧ w' = w :=
  (within_any n lo hi w).mono fun _ _ ⟨h1, h2⟩ => ⟨by rw [h1, h], h2.symm⟩
theorem getD_mem {xs : List Int} {k : Nat} (h : k < xs.length) : nth xs k ∈ xs := by
  simp [nth, List.getD, h]
theorem not_mem_of {xs : List Int} {x : Int} (h : ∀ j, j < xs.length → nth xs j ≠ x) : x ∉ xs := fun hm => by
  obtain ⟨k, hk, e⟩ := List.getElem_of_mem hm
  exact h k hk (by simp [nth, List.getD, hk, e])
/-- Two lists, held against each other. -/
theorem eq_of_getD {xs ys : List Int} (hl : xs.length = ys.length) (h : ∀ j, j < xs.length → nth xs j = nth ys j) : xs = ys := by
  apply List.ext_getElem hl
  intro i h1 h2
  have := h i h1
  simpa [nth, List.getD, h1, h2] using this
def SameAs (b : Bool) (w : World) (e : Ending) (w' : World) : Prop := e = .returned (.bool b) ∧ Dr w w'
/-- An error of the project's own: 0 is nil. -/
def errV (c : Int) : Value := if c = 0 then .nilIface else .iface 66 (.int .i64 c)
theorem errV_no {c : Int} (h : c ≠ 0) : errV c = .iface 66 (.int .i64 c) := by unfold errV; rw [if_neg h]
/-- The answer b, and nothing that was there has turned. -/
def OkB (b : Bool) (w : World) (e : Ending) (w' : World) : Prop := e = .returned (.bool b) ∧ Fr [] w w'
/-- The answer true, and nothing that was there has turned. -/
def OkT (w : World) (e : Ending) (w' : World) : Prop := e = .returned (.bool true) ∧ Fr [] w w'
end Go.Proofs.YtnglhfeialomgaaGreatDoor
/- maps.Values at a map from texts to pointers. -/
namespace Go.Proofs.YtnglhfeialomgaaGreatDoor
open Go.RowKit Go.Maps Go.Sort Go.Shelf
attribute [local go_sem] Oper.semAt_some

/-- What a map from texts to pointers has as its values. -/
abbrev Kid (m : Nm → Option Nat) := { c : Nat // ∃ x, m x = some c }
def AllKids (m : Nm → Option Nat) (xs : List (Kid m)) : Prop := ∀ x c, x.length ≤ maxLen → m x = some c → ∃ y ∈ xs, y.1 = c
theorem u_map : Tryz.prog.underlying 54 = some (.map 9 53) := Tryz.underlying54
set_option maxRecDepth 100000 in
set_option maxHeartbeats 1000000 in
theorem tr_vals1 (F : Fence) (n : Nat) (h8 : F.fn 78) (hro : F.round = none) (hn : 1 ≤ n) (l Bm b nn : Nat) (D0 : DataW Unit) (m : Nm → Option Nat) (hm0 : SMapIs D0 m) (J Jx : List (Kid m) → World → Prop)
    (hY : ∀ pre x W, J pre W → pre.length < Maps.size D0 → YieldAt F (n - 1) Tryz.prog l #[.pointer (some ⟨x.1, 0, none⟩)] W fun e W' =>
      (e = .returned (.bool true) ∧ J (pre ++ [x]) W' ∧ KeepsWalks W W') ∨ (e = .returned (.bool false) ∧ Jx (pre ++ [x]) W'))
    (W : World) (hJ : AbidesFrom W.heap.size J) (hm : W.cell? ⟨Bm, 0, none⟩ = some (.map (some b))) (hown : W.ownsMap Tryz.prog 9 ptrR b nn D0) (h0 : J [] W) :
    CallsIn F n Tryz.prog 78 #[.func (.yield l) #[] #[], .pointer (some ⟨Bm, 0, none⟩)] W fun e W' => (∃ v, e = .returned v) ∧
      ((∃ xs, AllKids m xs ∧ J xs W') ∨ (∃ pre, True ∧ Jx pre W')) := by
  refine callsIn_of_wp Tryz.func78 rfl h8 ?_ hro
  simp only [Tryz.ntmps78, List.size_toArray, List.length_cons, List.length_nil, Nat.reduceAdd, Nat.reduceSub, Array.replicate_succ, Array.replicate_zero, List.push_toArray, List.append_toArray, List.nil_append, List.cons_append]
  gi_wp2_with (first
    | (gi_at_range; refine wpListIn_range_own _ rfl _ 54 rfl 9 53 (string_keyed Tryz.underlying9) Tryz.underlying54 ptrR b nn D0 rfl hown ?_; intro w0 hrg0 hg0 hs0)
    | gi_in)
  go_frame
  gi_loopw [4] (fun _ wr => ∃ (left : Lit → Bool) (cnt : Nat) (xs : List (Kid m)), wr.ranges Tryz.prog 9 ptrR b W.heap.size nn D0 left cnt ∧ xs.length + cnt ≤ Maps.size D0 ∧ (∀ x c, x.length ≤ maxLen → m x = some c → left (.string x) = true ∨ ∃ y ∈ xs, y.1 = c) ∧ J xs wr)
    (fun _ wr => wr.rangeLeft b W.heap.size)
  case atStart =>
    exact ⟨_, _, [], hrg0, by simp, fun x c _ hx => .inl (by rw [hm0.has x, hx]; rfl), hJ [] W w0 none h0 hg0 (fun r e => by cases e)⟩
  case round =>
    obtain ⟨left, cnt, xs, hrg, hcs, hC, hJs⟩ := hrel
    gi_wp2_with (first
      | (gi_at_next; refine wpListIn_next_ranges _ rfl _ rfl 9 (string_keyed Tryz.underlying9) ptrR encStr ptrO (fun key kl hk => by obtain ⟨x, hx, _⟩ := Maps.keyOf_str Tryz.underlying9 hk; exact ⟨x, hx⟩) (fun v y hv => by obtain ⟨c, rfl, _⟩ := ptrR_inv hv; exact ⟨c, rfl⟩) b W.heap.size nn _ _ _ rfl hrg ?_ ?_)
      | gi_in)
    · intro hc0 hl0
      gi_wp2
      go_end0
      exact ⟨⟨_, rfl⟩, .inl ⟨xs, fun x c hx hxc => (hC x c hx hxc).resolve_left (by rw [hl0]; simp), hJs⟩⟩
    · intro x c kl yd yp w2 cnt2 hkey hlk hv hat hrg2 hlt hg2 hs2 hen
      obtain ⟨x', ex, rfl, _⟩ := Maps.keyOf_str Tryz.underlying9 hkey
      obtain rfl : x = x' := encStr_inj ex
      obtain ⟨c', ec, ez⟩ := ptrR_inv hv
      have ec' : c = c' := by
        cases c <;> cases c' <;> simp [ptrO] at ec ⊢
        exact ec
      subst ec'
      obtain rfl : yd = .lit (.int .i64 (numO c)) := (Prod.mk.inj ez).1
      have e1 := hat .nil
      rw [hm0 x] at e1
      cases hmx : m x with
      | none => rw [hmx] at e1; cases e1
      | some q =>
      rw [hmx] at e1
      simp only [DataW.lit.injEq, Lit.int.injEq, true_and] at e1
      have e2 : c = some q := by
        cases c with
        | none => simp [numO] at e1
        | some y => simp only [numO] at e1; congr 1; omega
      subst e2
      have hJ2 : J xs w2 := hJ xs wr w2 (some W.heap.size) hJs hg2 (fun r e => by cases e; exact ⟨Nat.le_refl _, hrg.iter_walk⟩)
      obtain ⟨fn, tmps, assign, body, hy, hR⟩ := hY xs ⟨q, x, hmx⟩ w2 hJ2 (by omega)
      dsimp only at hy
      unfold ptrO at hen
      simp only [Option.map_some] at hen
      have hC2 : ∀ z c, z.length ≤ maxLen → m z = some c → (fun z => left z && !z.sameKey (.string x)) (.string z) = true ∨ ∃ y ∈ xs ++ [(⟨q, x, hmx⟩ : Kid m)], y.1 = c := fun z c hz hzc => by
        rcases hC z c hz hzc with h1 | ⟨y, hy1, hy2⟩
        · by_cases ez : z = x
          · subst ez
            rw [hmx] at hzc
            exact .inr ⟨⟨q, z, hmx⟩, by simp, Option.some.inj hzc⟩
          · refine .inl ?_
            show (left (.string z) && !Lit.sameKey (.string z) (.string x)) = true
            rw [h1, same_str]
            simpa using ez
        · exact .inr ⟨y, by simp [hy1], hy2⟩
      have HC2 := Lib.hid hC2
      clear hs2 hC hC2 e1 ec ez
      gi_wp2
      refine hR.mono ?_
      rintro e W3 (⟨rfl, hJ3, hk3⟩ | ⟨rfl, hJx3⟩)
      · gi_wp2
        have hrg3 := hrg2.of_walks hk3
        go_roundw
        case rel => exact ⟨_, cnt2, _, hrg3, by simp; omega, HC2.out, hJ3⟩
        case measure => rw [hrg3.left_eq, hrg.left_eq]; exact hlt
      · gi_wp2
        refine bodyPost_ret (results_none rfl _ _ _) rfl ?_
        exact ⟨⟨_, rfl⟩, .inr ⟨_, trivial, hJx3⟩⟩
/-- maps.Values(m), m not nil. -/
theorem tr_vals0 (mb : Option Nat) (w : World) :
    Calls Tryz.prog 58 #[.map mb] w fun e w' => e = .returned (.func (.func 78) #[] #[.pointer (some ⟨w.heap.size, 0, none⟩)]) ∧ w' = w.alloc (.cells #[.map mb] 54) := by
  go_enter Tryz.func58, Tryz.ntmps58
  go_wp2
  go_ret
  exact ⟨rfl, rfl⟩
/-- What it hands back. -/
theorem tr_vals (F : Fence) (n : Nat) (h8 : F.fn 78) (hro : F.round = none) (hn : 1 ≤ n) (Bm b nn : Nat) (m : Nm → Option Nat) (w : World) (hBm : Bm < w.heap.size)
    (hm : w.cell? ⟨Bm, 0, none⟩ = some (.map (some b))) (hown : SMap Tryz.prog 9 w b nn m) :
    ∃ N, SeqStopsK F n Tryz.prog 78 #[.pointer (some ⟨Bm, 0, none⟩)] (fun x : Kid m => #[.pointer (some ⟨x.1, 0, none⟩)]) KeepsWalks (AllKids m) (fun _ => True) N w := by
  obtain ⟨D0, hown, hm0⟩ := hown
  refine ⟨Maps.size D0, fun l J Jx W hW hJ _ hY h0 => ?_⟩
  have hown' : W.ownsMap Tryz.prog 9 ptrR b nn D0 := by
    have hbl := hown.lt
    obtain ⟨es, clock, hb, Ft, hs, hD⟩ := hown
    exact ⟨es, clock, (hW.block b hbl).trans hb, Ft, hs, hD⟩
  exact tr_vals1 F n h8 hro hn l Bm b nn D0 m hm0 J Jx hY W hJ ((hW.cell (p := ⟨Bm, 0, none⟩) hBm).trans hm) hown' h0
set_option maxRecDepth 100000 in
set_option maxHeartbeats 1000000 in
theorem tr_vals1Nil {α : Type} (F : Fence) (n : Nat) (hf : F.fn 78) (hro : F.round = none) (l Bm : Nat) (J : List α → World → Prop) (W : World) (hJ : AbidesFrom W.heap.size J)
    (hm : W.cell? ⟨Bm, 0, none⟩ = some (.map none)) (h0 : J [] W) :
    CallsIn F n Tryz.prog 78 #[.func (.yield l) #[] #[], .pointer (some ⟨Bm, 0, none⟩)] W fun e W' => (∃ v, e = .returned v) ∧ J [] W' := by
  refine callsIn_of_wp Tryz.func78 rfl hf ?_ hro
  simp only [Tryz.ntmps78, List.size_toArray, List.length_cons, List.length_nil, Nat.reduceAdd, Nat.reduceSub, Array.replicate_succ, Array.replicate_zero, List.push_toArray, List.append_toArray, List.nil_append, List.cons_append]
  have hrg := run_range_nilMap (P := Tryz.prog) W 54 9 53 Tryz.underlying54
  have hnx : ∀ ty, (Instr.next (.pointer (some ⟨W.heap.size, 0, none⟩)) false ty).run Tryz.prog (W.alloc (.mapIter none 0 #[] 0)) = _ := fun ty => run_next_nilMap _ ty 0 0 #[]
  gi_wp2
  refine wpIn_loop_rounds 1 ?_
  rw [roundsIn_succ]
  gi_wp2
  go_end0
  exact ⟨⟨_, rfl⟩, hJ [] W _ none h0 (World.grownBy_alloc W _ none) (fun r e => by cases e)⟩
/-- What it hands back at a nil map. -/
theorem tr_valsNil (F : Fence) (n : Nat) (h8 : F.fn 78) (hro : F.round = none) (Bm : Nat) (m : Nm → Option Nat) (hm0 : ∀ x, m x = none) (w : World) (hBm : Bm < w.heap.size)
    (hm : w.cell? ⟨Bm, 0, none⟩ = some (.map none)) :
    ∃ N, SeqStopsK F n Tryz.prog 78 #[.pointer (some ⟨Bm, 0, none⟩)] (fun x : Kid m => #[.pointer (some ⟨x.1, 0, none⟩)]) KeepsWalks (AllKids m) (fun _ => True) N w :=
  ⟨0, fun l J _ W hW hJ _ _ h0 => (tr_vals1Nil F n h8 hro l Bm J W hJ ((hW.cell (p := ⟨Bm, 0, none⟩) hBm).trans hm) h0).mono fun _ _ ⟨he, hj⟩ => ⟨he, .inl ⟨[], fun x c _ hx => (by rw [hm0 x] at hx; cases hx), hj⟩⟩⟩
end Go.Proofs.YtnglhfeialomgaaGreatDoor

/- What a loop over an iterator keeps. No program in sight. -/
namespace Go.Proofs.YtnglhfeialomgaaGreatDoor
open Go.RowKit Go.Shelf

/-- What lay below n₀ lies as it lay, but for the blocks of S. -/
structure Kq (n₀ : Nat) (S : List Nat) (w w' : World) : Prop where
  os : w'.os = w.os
  tape : w'.tape = w.tape
  output : w'.output = w.output
  size : w.heap.size ≤ w'.heap.size
  block : ∀ k, k < n₀ → k ∉ S → w'.heap[k]? = w.heap[k]?
section
variable {n₀ : Nat} {S : List Nat} {a b c w : World}
theorem Kq.refl (n₀ : Nat) (S : List Nat) (w : World) : Kq n₀ S w w := ⟨rfl, rfl, rfl, Nat.le_refl _, fun _ _ _ => rfl⟩
theorem Kq.trans (h : Kq n₀ S a b) (k : Kq n₀ S b c) : Kq n₀ S a c := ⟨k.os.trans h.os, k.tape.trans h.tape, k.output.trans h.output, Nat.le_trans h.size k.size, fun i hi hn => (k.block i hi hn).trans (h.block i hi hn)⟩
theorem Kq.of_fr (h : Fr S a b) (hn : n₀ ≤ a.heap.size) : Kq n₀ S a b := ⟨h.os, h.tape, h.output, h.size, fun k hk hs => h.block k (by omega) hs⟩
theorem Kq.of_frT {T : List Nat} (h : Fr T a b) (hn : n₀ ≤ a.heap.size) (hT : ∀ x ∈ T, x ∈ S ∨ n₀ ≤ x) : Kq n₀ S a b := ⟨h.os, h.tape, h.output, h.size, fun k hk hs => h.block k (by omega) (fun e => (hT k e).elim hs (by omega))⟩
theorem Kq.fr (h : Kq a.heap.size S a b) : Fr S a b := ⟨h.os, h.tape, h.output, h.size, fun k hk hs => h.block k hk hs⟩
theorem Kq.putObj (W : World) (l : Nat) (o : Obj) (hl : n₀ ≤ l) : Kq n₀ S W (W.putObj l o) := ⟨rfl, rfl, rfl, by simp, fun k hk _ => World.putObj_heap_other (by omega)⟩
theorem Kq.get (h : Kq n₀ S a b) {k : Nat} {o : Obj} (hk : a.heap[k]? = some o) (hl : k < n₀) (hs : k ∉ S) : b.heap[k]? = some o := (h.block k hl hs).trans hk
theorem Kq.cell (h : Kq n₀ S a b) {p : Addr} {v : Value} (hk : a.cell? p = some v) (hl : p.block < n₀) (hs : p.block ∉ S) : b.cell? p = some v := (World.cell?_of_block (h.block _ hl hs)).trans hk
theorem Kq.grown (h : Kq n₀ S w a) {row : Option Nat} (hg : a.grownBy b row) (hr : ∀ r, row = some r → n₀ ≤ r) (hn : n₀ ≤ a.heap.size) : Kq n₀ S w b :=
  h.trans ⟨hg.os, hg.tape, hg.output, hg.size, fun k hk _ => hg.block k (by omega) (fun e => by have := hr k e.symm; omega)⟩
theorem Kq.own {β : Type} {B : Nat} (hB : n₀ ≤ B) (hn : n₀ ≤ w.heap.size) : OwnFrom B (fun (_ : β) W => Kq n₀ S w W) := fun _ X Y row hs hg hr => hs.grown hg (fun r e => Nat.le_trans hB (hr r e).1) (Nat.le_trans hn hs.size)
end
/-- All cells lie as they lay. -/
def CellsKept (w w' : World) : Prop := ∀ (k : Nat) (o : Obj), w.heap[k]? = some o → o.isCells = true → w'.heap[k]? = some o
theorem CellsKept.of_grown {B : Nat} {w w' : World} {row : Option Nat} (hg : w.grownBy w' row) (hr : ∀ r, row = some r → B ≤ r ∧ ∃ o : Obj, w.heap[r]? = some o ∧ o.isCells = false) : CellsKept w w' := fun k o hk ho =>
  (hg.block k (lt_of_heap hk) (fun e => by
    obtain ⟨_, o', h1, h2⟩ := hr k e.symm
    rw [hk] at h1
    cases h1
    rw [ho] at h2
    cases h2)).trans hk
theorem Kq.frOf {n₀ : Nat} {S : List Nat} {w W0 W : World} (h : Kq n₀ S W0 W) (f : Fr [] w W0) (hn : w.heap.size ≤ n₀) (hS : ∀ k ∈ S, w.heap.size ≤ k) : Fr [] w W :=
  ⟨h.os.trans f.os, h.tape.trans f.tape, h.output.trans f.output, Nat.le_trans f.size h.size, fun k hk _ => (h.block k (by omega) (fun hm => by have := hS k hm; omega)).trans (f.block k hk (by simp))⟩
/-- Only a block of cells turns: all walks and maps lie as they lay. -/
theorem KeepsWalks.of_fr {W W' : World} {S : List Nat} (h : Fr S W W') (hS : ∀ k ∈ S, ∀ o, W.heap[k]? = some o → o.isCells = true) : KeepsWalks W W' :=
  ⟨h.size, fun k o hk ho => (h.block k (lt_of_heap hk) (fun hm => by
    have := hS k hm o hk
    cases o <;> simp [Obj.isCells, Obj.isWalk] at this ho)).trans hk⟩
theorem KeepsFrom.of_fr {W W' : World} {S : List Nat} {B : Nat} (h : Fr S W W') (hS : ∀ k ∈ S, ∀ o, W.heap[k]? = some o → o.isCells = true) : KeepsFrom B W W' :=
  ⟨h.size, fun k o _ hk ho => (h.block k (lt_of_heap hk) (fun hm => by
    have := hS k hm o hk
    rw [ho] at this
    cases this)).trans hk⟩
end Go.Proofs.YtnglhfeialomgaaGreatDoor

/- Trees of directories: a graph of nodes, what is found along a path, what a set entry does to it. No program in sight. -/
namespace Go.Proofs.YtnglhfeialomgaaGreatDoor
namespace Tr
abbrev Nme := List UInt8

/-- Nodes by their blocks: a directory's entries (none: a file), the block of its map, how often a node is named. -/
structure G where
  root : Nat
  many : Int
  ent : Nat → Option (Nme → Option Nat)
  mb : Nat → Nat
  nms : Nat → Int
inductive Rs where
  | ok (n : Nat)
  | err (c : Int)
/-- What find finds. -/
def fnd (g : G) : Nat → List Nme → Rs
  | n, [] => .ok n
  | n, p :: r => match g.ent n with
    | none => .err 3
    | some m => match m p with
      | none => .err 5
      | some c => fnd g c r
theorem fnd_cons (g : G) (n : Nat) (p : Nme) (r : List Nme) : fnd g n (p :: r) = match g.ent n with
    | none => .err 3
    | some m => match m p with
      | none => .err 5
      | some c => fnd g c r := rfl
theorem fnd_file {g : G} {n : Nat} (h : g.ent n = none) (x : Nme) (r : List Nme) : fnd g n (x :: r) = .err 3 := by rw [fnd_cons, h]
theorem fnd_miss {g : G} {n : Nat} {m : Nme → Option Nat} (h : g.ent n = some m) {x : Nme} (hx : m x = none) (r : List Nme) : fnd g n (x :: r) = .err 5 := by
  rw [fnd_cons, h]
  show (match m x with | none => Rs.err 5 | some c => fnd g c r) = _
  rw [hx]
theorem fnd_hit {g : G} {n c : Nat} {m : Nme → Option Nat} (h : g.ent n = some m) {x : Nme} (hx : m x = some c) (r : List Nme) : fnd g n (x :: r) = fnd g c r := by
  rw [fnd_cons, h]
  show (match m x with | none => Rs.err 5 | some c => fnd g c r) = _
  rw [hx]
theorem fnd_app (g : G) : ∀ (p q : List Nme) (n : Nat), fnd g n (p ++ q) = match fnd g n p with
    | .ok c => fnd g c q
    | .err e => .err e
  | [], q, n => rfl
  | x :: p, q, n => by
    show fnd g n (x :: (p ++ q)) = _
    rw [fnd_cons, fnd_cons]
    cases g.ent n with
    | none => rfl
    | some m =>
      show (match m x with | none => Rs.err 5 | some c => fnd g c (p ++ q)) = match (match m x with | none => Rs.err 5 | some c => fnd g c p) with
        | .ok c => fnd g c q
        | .err e => .err e
      cases m x with
      | none => rfl
      | some c => exact fnd_app g p q c
theorem fnd_app_ok {g : G} {p : List Nme} {n c : Nat} (h : fnd g n p = .ok c) (q : List Nme) : fnd g n (p ++ q) = fnd g c q := by rw [fnd_app, h]
theorem fnd_app_err {g : G} {p : List Nme} {n : Nat} {e : Int} (h : fnd g n p = .err e) (q : List Nme) : fnd g n (p ++ q) = .err e := by rw [fnd_app, h]
/-- What is ahead of something found is found, too, and is a directory. -/
theorem fnd_front {g : G} {p : List Nme} {x : Nme} {r : List Nme} {n c : Nat} (h : fnd g n (p ++ x :: r) = .ok c) : ∃ d m e, fnd g n p = .ok d ∧ g.ent d = some m ∧ m x = some e ∧ fnd g e r = .ok c := by
  rw [fnd_app] at h
  cases hp : fnd g n p with
  | err e => rw [hp] at h; cases h
  | ok d =>
    rw [hp] at h
    have h : fnd g d (x :: r) = .ok c := h
    rw [fnd_cons] at h
    cases hm : g.ent d with
    | none => rw [hm] at h; cases h
    | some m =>
      rw [hm] at h
      have h : (match m x with | none => Rs.err 5 | some c => fnd g c r) = .ok c := h
      cases hx : m x with
      | none => rw [hx] at h; cases h
      | some e => rw [hx] at h; exact ⟨d, m, e, rfl, hm, hx, h⟩
/-- An entry set, or struck. -/
def setE (g : G) (d : Nat) (x : Nme) (o : Option Nat) : G := { g with ent := fun b => if b = d then (g.ent d).map (fun m y => if y = x then o else m y) else g.ent b }
theorem setE_d {g : G} {d : Nat} {m : Nme → Option Nat} (h : g.ent d = some m) (x : Nme) (o : Option Nat) : (setE g d x o).ent d = some (fun y => if y = x then o else m y) := by
  show (if d = d then _ else _) = _
  rw [if_pos rfl, h]; rfl
theorem setE_ne {g : G} {d b : Nat} (h : b ≠ d) (x : Nme) (o : Option Nat) : (setE g d x o).ent b = g.ent b := if_neg h
theorem setE_some {g : G} {d b : Nat} {x : Nme} {o : Option Nat} : ((setE g d x o).ent b).isSome = (g.ent b).isSome := by
  by_cases h : b = d
  · subst h
    show (if b = b then _ else _ : Option _).isSome = _
    rw [if_pos rfl]
    cases g.ent b <;> rfl
  · rw [setE_ne h]
/-- A way that does not take the entry is as it was. -/
theorem fnd_far {g : G} {d : Nat} {x : Nme} {o : Option Nat} : ∀ (p : List Nme) (n : Nat), (∀ p1 r, p = p1 ++ x :: r → fnd g n p1 ≠ .ok d) → fnd (setE g d x o) n p = fnd g n p
  | [], n, _ => rfl
  | y :: r, n, h => by
    rw [fnd_cons, fnd_cons]
    by_cases hn : n = d
    · subst hn
      have hy : y ≠ x := fun e => h [] r (by rw [e]; rfl) rfl
      cases hm : g.ent n with
      | none =>
        have : (setE g n x o).ent n = none := by show (if n = n then _ else _) = _; rw [if_pos rfl, hm]; rfl
        rw [this]
      | some m =>
        rw [setE_d hm]
        show (match (if y = x then o else m y) with | none => Rs.err 5 | some c => fnd (setE g n x o) c r) = match m y with | none => Rs.err 5 | some c => fnd g c r
        rw [if_neg hy]
        cases hx : m y with
        | none => rfl
        | some c => exact fnd_far r c (fun p1 r1 e he => h (y :: p1) r1 (by rw [e]; rfl) (by rw [fnd_cons, hm]; show (match m y with | none => Rs.err 5 | some c => fnd g c p1) = _; rw [hx]; exact he))
    · rw [setE_ne hn]
      cases hm : g.ent n with
      | none => rfl
      | some m =>
        show (match m y with | none => Rs.err 5 | some c => fnd (setE g d x o) c r) = match m y with | none => Rs.err 5 | some c => fnd g c r
        cases hx : m y with
        | none => rfl
        | some c => exact fnd_far r c (fun p1 r1 e he => h (y :: p1) r1 (by rw [e]; rfl) (by rw [fnd_cons, hm]; show (match m y with | none => Rs.err 5 | some c => fnd g c p1) = _; rw [hx]; exact he))
/-- The node d has one way from the root: P. -/
def One (g : G) (d : Nat) (P : List Nme) : Prop := fnd g g.root P = .ok d ∧ ∀ p, fnd g g.root p = .ok d → p = P
/-- What is found behind a set entry. -/
theorem fnd_set_at {g : G} {d : Nat} {P : List Nme} {m : Nme → Option Nat} (h1 : One g d P) (hm : g.ent d = some m) (x : Nme) (o : Option Nat) (r : List Nme) :
    fnd (setE g d x o) g.root (P ++ x :: r) = match o with | none => .err 5 | some c => fnd (setE g d x o) c r := by
  have hP : fnd (setE g d x o) g.root P = .ok d := by
    rw [fnd_far P g.root (fun p1 r1 e he => ?_)]
    · exact h1.1
    · have := h1.2 p1 he
      rw [this] at e
      have := congrArg List.length e
      simp at this
  rw [fnd_app_ok hP, fnd_cons, setE_d hm]
  show (match (if x = x then o else m x) with | none => Rs.err 5 | some c => fnd (setE g d x o) c r) = _
  rw [if_pos rfl]
theorem fnd_set_far {g : G} {d : Nat} {P : List Nme} (h1 : One g d P) (x : Nme) (o : Option Nat) {p : List Nme} (h : ¬ ∃ r, p = P ++ x :: r) : fnd (setE g d x o) g.root p = fnd g g.root p :=
  fnd_far p g.root (fun p1 r e he => h ⟨r, by rw [← h1.2 p1 he]; exact e⟩)
/-- A graph in order: each way is short, each directory has one way, names are names. -/
structure OK (g : G) : Prop where
  root : (g.ent g.root).isSome = true
  short : ∀ p c, fnd g g.root p = .ok c → p.length ≤ 8
  one : ∀ p q c, fnd g g.root p = .ok c → fnd g g.root q = .ok c → (g.ent c).isSome = true → p = q
  name : ∀ d m x c, g.ent d = some m → m x = some c → Pa.IsName x
theorem OK.way {g : G} (h : OK g) {d : Nat} {P : List Nme} (hp : fnd g g.root P = .ok d) (hd : (g.ent d).isSome = true) : One g d P := ⟨hp, fun p hp' => h.one p P d hp' hp hd⟩
theorem isSome_some {α : Type} {o : Option α} {a : α} (h : o = some a) : o.isSome = true := by rw [h]; rfl
/-- No way from c on leads to d. -/
def Off (g : G) (c d : Nat) : Prop := ∀ q, fnd g c q ≠ .ok d
theorem fnd_off {g : G} {c d : Nat} (h : Off g c d) (x : Nme) (o : Option Nat) (q : List Nme) : fnd (setE g d x o) c q = fnd g c q := fnd_far q c (fun p1 _ _ he => h p1 he)
end Tr
end Go.Proofs.YtnglhfeialomgaaGreatDoor
