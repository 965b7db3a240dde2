/- core.Back at what was there: it goes through the records, the last one first. -/
import Derived.RangeFuncNested
import Derived.RangeFuncBound
import Derived.RangeFuncCalls
import Derived.RangeFuncLeaves
import Derived.Shelf.Abstract
import Derived.Shelf.RegionOpen
import Derived.WalkKit
import Derived.OwnWalkIn
import Derived.TacticsInMore
import Derived.LoopNIn
import Derived.LoopIn
import Derived.Test.YtmhmbgkpojgbbabDoorMixIn
import Derived.Test.YtmhmbgkpojgbbabDoorUnLeave
namespace Go.Proofs.YtmhmbgkpojgbbabDoor
open Go.RowKit Go.Shelf
attribute [local go_sem] Oper.semAt_some

/-- What lay below n₀ lies as it lay, but for the blocks of S. -/
structure Kq (n₀ : Nat) (S : List Nat) (w w' : World) : Prop where
  os : w'.os = w.os
  tape : w'.tape = w.tape
  output : w'.output = w.output
  size : w.heap.size ≤ w'.heap.size
  block : ∀ k, k < n₀ → k ∉ S → w'.heap[k]? = w.heap[k]?
section
variable {n₀ : Nat} {S : List Nat} {a b c w : World}
theorem Kq.refl (n₀ : Nat) (S : List Nat) (w : World) : Kq n₀ S w w := ⟨rfl, rfl, rfl, Nat.le_refl _, fun _ _ _ => rfl⟩
theorem Kq.trans (h : Kq n₀ S a b) (k : Kq n₀ S b c) : Kq n₀ S a c := ⟨k.os.trans h.os, k.tape.trans h.tape, k.output.trans h.output, Nat.le_trans h.size k.size, fun i hi hn => (k.block i hi hn).trans (h.block i hi hn)⟩
theorem Kq.of_fr (h : Fr S a b) (hn : n₀ ≤ a.heap.size) : Kq n₀ S a b := ⟨h.os, h.tape, h.output, h.size, fun k hk hs => h.block k (by omega) hs⟩
theorem Kq.of_frT {T : List Nat} (h : Fr T a b) (hn : n₀ ≤ a.heap.size) (hT : ∀ x ∈ T, x ∈ S ∨ n₀ ≤ x) : Kq n₀ S a b := ⟨h.os, h.tape, h.output, h.size, fun k hk hs => h.block k (by omega) (fun e => (hT k e).elim hs (by omega))⟩
theorem Kq.fr (h : Kq a.heap.size S a b) : Fr S a b := ⟨h.os, h.tape, h.output, h.size, fun k hk hs => h.block k hk hs⟩
theorem Kq.putObj (W : World) (l : Nat) (o : Obj) (hl : n₀ ≤ l) : Kq n₀ S W (W.putObj l o) := ⟨rfl, rfl, rfl, by simp, fun k hk _ => World.putObj_heap_other (by omega)⟩
theorem Kq.get (h : Kq n₀ S a b) {k : Nat} {o : Obj} (hk : a.heap[k]? = some o) (hl : k < n₀) (hs : k ∉ S) : b.heap[k]? = some o := (h.block k hl hs).trans hk
theorem Kq.cell (h : Kq n₀ S a b) {p : Addr} {v : Value} (hk : a.cell? p = some v) (hl : p.block < n₀) (hs : p.block ∉ S) : b.cell? p = some v := (World.cell?_of_block (h.block _ hl hs)).trans hk
theorem Kq.grown (h : Kq n₀ S w a) {row : Option Nat} (hg : a.grownBy b row) (hr : ∀ r, row = some r → n₀ ≤ r) (hn : n₀ ≤ a.heap.size) : Kq n₀ S w b :=
  h.trans ⟨hg.os, hg.tape, hg.output, hg.size, fun k hk _ => hg.block k (by omega) (fun e => by have := hr k e.symm; omega)⟩
theorem Kq.own {β : Type} {B : Nat} (hB : n₀ ≤ B) (hn : n₀ ≤ w.heap.size) : OwnFrom B (fun (_ : β) W => Kq n₀ S w W) := fun _ X Y row hs hg hr => hs.grown hg (fun r e => Nat.le_trans hB (hr r e).1) (Nat.le_trans hn hs.size)
end
/-- All cells lie as they lay. -/
def CellsKept (w w' : World) : Prop := ∀ (k : Nat) (o : Obj), w.heap[k]? = some o → o.isCells = true → w'.heap[k]? = some o
theorem CellsKept.of_grown {B : Nat} {w w' : World} {row : Option Nat} (hg : w.grownBy w' row) (hr : ∀ r, row = some r → B ≤ r ∧ ∃ o : Obj, w.heap[r]? = some o ∧ o.isCells = false) : CellsKept w w' := fun k o hk ho =>
  (hg.block k (lt_of_heap hk) (fun e => by
    obtain ⟨_, o', h1, h2⟩ := hr k e.symm
    rw [hk] at h1
    cases h1
    rw [ho] at h2
    cases h2)).trans hk
theorem UnB.cells {P : Nat → Prop} {w w' : World} {b : Nat} {lv : Value} {d : Un.D} (h : UnB P w b lv d) (hf : CellsKept w w') : UnB P w' b lv d := by
  refine ⟨h.gb, h.gl, hf _ _ h.file rfl, ?_⟩
  obtain ⟨h1, h2⟩ := h.row
  refine ⟨h1, ?_⟩
  rcases h2 with h2 | ⟨g, cap, cur, e, hb, hg, r⟩
  · exact .inl h2
  · exact .inr ⟨g, cap, cur, e, hb, hf _ _ hg rfl, r⟩
/-- The first k numbers, from the last one down. -/
def Un.down (n k : Nat) : List (Fin n) := ((List.finRange n).reverse).take k
theorem Un.down_zero (n : Nat) : Un.down n 0 = [] := rfl
theorem Un.down_len {n k : Nat} (h : k ≤ n) : (Un.down n k).length = k := by simp [Un.down]; omega
theorem Un.down_succ {n k : Nat} (h : k < n) : Un.down n (k + 1) = Un.down n k ++ [⟨n - 1 - k, by omega⟩] := by
  unfold Un.down
  rw [List.take_succ_eq_append_getElem (by simpa using h)]
  congr 2
  simp
theorem Un.down_succ' {n k i : Nat} (h : i + k + 1 = n) : Un.down n (k + 1) = Un.down n k ++ [⟨i, by omega⟩] := by
  rw [Un.down_succ (by omega)]
  congr 3
  omega
theorem Un.down_fold {α : Type} (f : α → Un.P → α) (xs : List Un.P) (a : α) {k : Nat} (h : k < xs.length) : (Un.down xs.length (k + 1)).foldl (fun z i => f z (xs[i.1]'i.2)) a = f ((Un.down xs.length k).foldl (fun z i => f z (xs[i.1]'i.2)) a) (xs[xs.length - 1 - k]'(by omega)) := by
  rw [Un.down_succ h, List.foldl_append]; rfl
/-- What the rounds do to the blocks. -/
def Un.step (p : Un.P → Bool) (blk : List Int) (r : Un.P) : List Int := if p r then blk.set r.b.toNat r.v else blk
theorem Un.down_un (p : Un.P → Bool) (xs : List Un.P) (blk : List Int) : ∀ k, k ≤ xs.length → (Un.down xs.length k).foldl (fun z i => Un.step p z (xs[i.1]'i.2)) blk = Un.un p (xs.drop (xs.length - k)) blk
  | 0, _ => by rw [Nat.sub_zero, List.drop_length, Un.down_zero]; rfl
  | k + 1, h => by
    rw [Un.down_fold _ _ _ (by omega), Un.down_un p xs blk k (by omega)]
    have e := Un.un_drop p xs (xs.length - (k + 1)) (by omega) blk
    have e1 : xs.length - (k + 1) + 1 = xs.length - k := by omega
    have e2 : xs.length - 1 - k = xs.length - (k + 1) := by omega
    rw [e1] at e
    rw [e]
    simp only [e2]
    rfl
/-- A record as a value. -/
def putV (r : Un.P) : Value := .agg #[.int .i64 r.t, .int .i64 r.b, .int .i64 r.v]
set_option maxRecDepth 100000 in
set_option maxHeartbeats 2000000 in
theorem un_back1 (F : Fence) (n : Nat) (h56 : F.fn 28) (hro : F.round = none) (hn : 1 ≤ n) (l Bs n₀ g cap : Nat) (A : Option Addr) (S : List Nat) (xs : List Un.P) (hlen : xs.length ≤ 60) (W : World) (hA : RwP W A g cap xs)
    (hg : g ∉ S ∧ Bs ∉ S ∧ Bs < n₀ ∧ (A = none ∨ g < n₀)) (J Jx : List (Fin xs.length) → World → Prop)
    (hY : ∀ pre x W, J pre W → pre.length < xs.length → YieldAt F (n - 1) Tryd.prog l #[.int .i64 (x.1 : Nat), putV (xs[x.1]'x.2)] W fun e W' =>
      (e = .returned (.bool true) ∧ J (pre ++ [x]) W' ∧ Kq n₀ S W W') ∨ (e = .returned (.bool false) ∧ Jx (pre ++ [x]) W'))
    (hBs : W.cell? ⟨Bs, 0, none⟩ = some (.slice A xs.length cap)) (h0 : J [] W) :
    CallsIn F n Tryd.prog 28 #[.func (.yield l) #[] #[], .pointer (some ⟨Bs, 0, none⟩)] W fun e W' => (∃ v, e = .returned v) ∧
      ((∃ ys, ys = Un.down xs.length xs.length ∧ J ys W') ∨ (∃ pre, True ∧ Jx pre W')) := by
  have HA : Hid (∀ W', Kq n₀ S W W' → ∀ i (h : i < xs.length), A = some ⟨g, 0, none⟩ ∧ ∃ cur, W'.heap[g]? = some (.cells cur 36 (0, 0)) ∧ i * 3 + 3 ≤ cur.size ∧ ((cur.toList.drop (i * 3)).take 3).toArray = #[.int .i64 xs[i].t, .int .i64 xs[i].b, .int .i64 xs[i].v]) := fun W' hk i h => by
    obtain ⟨e, hD⟩ := hA.use (by omega)
    obtain ⟨cur, c1, c2, c3⟩ := hD.room h
    refine ⟨e, cur, hk.get c1 ?_ hg.1, c2, c3⟩
    rcases hg.2.2.2 with h | h
    · rw [h] at e; cases e
    · exact h
  have HB : Hid (∀ W', Kq n₀ S W W' → W'.cell? ⟨Bs, 0, none⟩ = some (.slice A xs.length cap)) := fun W' hk => hk.cell hBs hg.2.2.1 hg.2.1
  clear hA hg
  refine callsIn_of_wp Tryd.func28 rfl h56 ?_ hro
  simp only [Tryd.ntmps28, List.size_toArray, List.length_cons, List.length_nil, Nat.reduceAdd, Nat.reduceSub, Array.replicate_succ, Array.replicate_zero, List.push_toArray, List.append_toArray, List.nil_append, List.cons_append]
  gi_wp2
  gi_loopw [3] (fun i wr => ∃ k : Nat, k ≤ xs.length ∧ i = .int .i64 ((xs.length : Int) - 1 - k) ∧ J (Un.down xs.length k) wr ∧ Hid (Kq n₀ S W wr)) (fun i _ => (intOf i + 1).toNat)
  case atStart => exact ⟨0, Nat.zero_le _, by go_num, h0, Kq.refl _ _ _⟩
  case round =>
    obtain ⟨k, hk, rfl, hJs, hnx⟩ := hrel
    by_cases hlt : k < xs.length
    · obtain ⟨i, hi⟩ : ∃ i : Nat, Hid (i + k + 1 = xs.length) := ⟨xs.length - 1 - k, (by omega : xs.length - 1 - k + k + 1 = xs.length)⟩
      have hio := hi.out
      have hil : i < xs.length := by omega
      obtain ⟨fn, tmps, assign, body, hy, hR⟩ := hY _ ⟨i, hil⟩ wr hJs (by rw [Un.down_len hk]; exact hlt)
      dsimp only [putV] at hy
      obtain ⟨rfl, cur, q1, q2, q3⟩ := HA.out wr hnx.out i hil
      have hbs := HB.out wr hnx.out
      have HDS := Lib.hid (Un.down_succ' hi.out)
      have e0 : (xs.length : Int) - 1 - k = (i : Int) := by omega
      have HE := Lib.hid (show (i : Int) - 1 = (xs.length : Int) - 1 - ((k + 1 : Nat) : Int) by omega)
      have HM := Lib.hid (show k + 1 ≤ xs.length by omega)
      rw [e0]
      have hi60 : i < 60 := by omega
      have hI : (i : Int) < xs.length := by omega
      clear e0 hlt HA HB hio
      gi_wp2_with (refine wpListIn_load_part rfl 36 _ rfl g (i * 3) 3 rfl _ cur _ _ q1 Tryd.underlying36 rfl (by kernel_rfl) q2 _ q3 ?_)
      refine hR.mono ?_
      rintro e W3 (⟨rfl, hJ3, hk3⟩ | ⟨rfl, hJx3⟩)
      · have HK3 : Hid (Kq n₀ S W W3) := hnx.out.trans hk3
        clear hnx hk3 hJs hy hR hBs q1 q2 q3 hbs
        gi_wp2
        go_roundw
        case rel => exact ⟨k + 1, HM.out, (by rw [← HE.out]), by rw [HDS.out]; exact hJ3, HK3⟩
        case measure => simp [intOf]
      · gi_wp2
        refine bodyPost_ret (results_none rfl _ _ _) rfl ?_
        exact ⟨⟨_, rfl⟩, .inr ⟨_, trivial, hJx3⟩⟩
    · have hke : k = xs.length := by omega
      have e0 : (xs.length : Int) - 1 - k = -1 := by omega
      rw [hke] at hJs
      rw [e0]
      clear e0 hlt hke hY HA HB
      gi_wp2
      go_end0
      exact ⟨⟨_, rfl⟩, .inl ⟨_, rfl, hJs⟩⟩
/-- core.Back(s): the slice is boxed; the function value has caught the box. -/
theorem un_back0 (A : Option Addr) (n cap : Nat) (w : World) :
    Calls Tryd.prog 21 #[.slice A n cap] w fun e w' => e = .returned (.func (.func 28) #[] #[.pointer (some ⟨w.heap.size, 0, none⟩)]) ∧ w' = w.alloc (.cells #[.slice A n cap] 26) := by
  go_enter Tryd.func21, Tryd.ntmps21
  go_wp2
  go_ret
  exact ⟨rfl, rfl⟩
/-- The contract of what core.Back hands back. -/
theorem un_back (F : Fence) (n : Nat) (h56 : F.fn 28) (hro : F.round = none) (hn : 1 ≤ n) (Bs n₀ g cap : Nat) (A : Option Addr) (S : List Nat) (xs : List Un.P) (hlen : xs.length ≤ 60) (w : World) (hA : RwP w A g cap xs)
    (hg : g ∉ S ∧ Bs ∉ S ∧ Bs < n₀ ∧ (A = none ∨ g < n₀)) (hn₀ : n₀ ≤ w.heap.size) (hBs : w.cell? ⟨Bs, 0, none⟩ = some (.slice A xs.length cap)) :
    SeqStopsK F n Tryd.prog 28 #[.pointer (some ⟨Bs, 0, none⟩)] (fun x : Fin xs.length => #[.int .i64 (x.1 : Nat), putV (xs[x.1]'x.2)]) (Kq n₀ S) (fun ys => ys = Un.down xs.length xs.length) (fun _ => True) xs.length w := fun l J Jx W hW _ _ hY h0 =>
  un_back1 F n h56 hro hn l Bs n₀ g cap A S xs hlen W (by
    rcases hA with h | ⟨h1, cur, h2, h3⟩
    · exact .inl h
    · exact .inr ⟨h1, cur, (hW.block g (lt_of_heap h2)).trans h2, h3⟩) hg J Jx hY ((hW.cell (p := ⟨Bs, 0, none⟩) (show Bs < w.heap.size by omega)).trans hBs) h0
end Go.Proofs.YtmhmbgkpojgbbabDoor
