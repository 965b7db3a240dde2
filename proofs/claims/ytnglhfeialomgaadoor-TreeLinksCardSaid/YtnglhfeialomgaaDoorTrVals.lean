/- maps.Values at a map from texts to pointers. -/
import Derived.RangeFuncNested
import Derived.RangeFuncBound
import Derived.RangeFuncCalls
import Derived.RangeFuncLeaves
import Derived.RangeFuncMany
import Derived.Shelf.Abstract
import Derived.Shelf.RegionOpen
import Derived.Sort.MapsRangeIn
import Derived.Sort.KeysCollected
import Derived.WalkKit
import Derived.OwnWalkIn
import Derived.TacticsInMore
import Derived.RegionIn
import Derived.LoopNIn
import Derived.LoopIn
import Derived.Laws.IdiomRangeMap
import Derived.Test.YtnglhfeialomgaaDoorSMap
import Derived.Test.YtnglhfeialomgaaDoorCommon0
namespace Go.Proofs.YtnglhfeialomgaaDoor
open Go.RowKit Go.Maps Go.Sort Go.Shelf
attribute [local go_sem] Oper.semAt_some

/-- What a map from texts to pointers has as its values. -/
abbrev Kid (m : Nm → Option Nat) := { c : Nat // ∃ x, m x = some c }
def AllKids (m : Nm → Option Nat) (xs : List (Kid m)) : Prop := ∀ x c, x.length ≤ maxLen → m x = some c → ∃ y ∈ xs, y.1 = c
theorem u_map : Tryd.prog.underlying 49 = some (.map 9 46) := Tryd.underlying49
set_option maxRecDepth 100000 in
set_option maxHeartbeats 1000000 in
theorem tr_vals1 (F : Fence) (n : Nat) (h8 : F.fn 67) (hro : F.round = none) (hn : 1 ≤ n) (l Bm b nn : Nat) (D0 : DataW Unit) (m : Nm → Option Nat) (hm0 : SMapIs D0 m) (J Jx : List (Kid m) → World → Prop)
    (hY : ∀ pre x W, J pre W → pre.length < Maps.size D0 → YieldAt F (n - 1) Tryd.prog l #[.pointer (some ⟨x.1, 0, none⟩)] W fun e W' =>
      (e = .returned (.bool true) ∧ J (pre ++ [x]) W' ∧ KeepsWalks W W') ∨ (e = .returned (.bool false) ∧ Jx (pre ++ [x]) W'))
    (W : World) (hJ : AbidesFrom W.heap.size J) (hm : W.cell? ⟨Bm, 0, none⟩ = some (.map (some b))) (hown : W.ownsMap Tryd.prog 9 ptrR b nn D0) (h0 : J [] W) :
    CallsIn F n Tryd.prog 67 #[.func (.yield l) #[] #[], .pointer (some ⟨Bm, 0, none⟩)] W fun e W' => (∃ v, e = .returned v) ∧
      ((∃ xs, AllKids m xs ∧ J xs W') ∨ (∃ pre, True ∧ Jx pre W')) := by
  refine callsIn_of_wp Tryd.func67 rfl h8 ?_ hro
  simp only [Tryd.ntmps67, List.size_toArray, List.length_cons, List.length_nil, Nat.reduceAdd, Nat.reduceSub, Array.replicate_succ, Array.replicate_zero, List.push_toArray, List.append_toArray, List.nil_append, List.cons_append]
  gi_wp2_with (first
    | (gi_at_range; refine wpListIn_range_own _ rfl _ 49 rfl 9 46 (string_keyed Tryd.underlying9) Tryd.underlying49 ptrR b nn D0 rfl hown ?_; intro w0 hrg0 hg0 hs0)
    | gi_in)
  go_frame
  gi_loopw [4] (fun _ wr => ∃ (left : Lit → Bool) (cnt : Nat) (xs : List (Kid m)), wr.ranges Tryd.prog 9 ptrR b W.heap.size nn D0 left cnt ∧ xs.length + cnt ≤ Maps.size D0 ∧ (∀ x c, x.length ≤ maxLen → m x = some c → left (.string x) = true ∨ ∃ y ∈ xs, y.1 = c) ∧ J xs wr)
    (fun _ wr => wr.rangeLeft b W.heap.size)
  case atStart =>
    exact ⟨_, _, [], hrg0, by simp, fun x c _ hx => .inl (by rw [hm0.has x, hx]; rfl), hJ [] W w0 none h0 hg0 (fun r e => by cases e)⟩
  case round =>
    obtain ⟨left, cnt, xs, hrg, hcs, hC, hJs⟩ := hrel
    gi_wp2_with (first
      | (gi_at_next; refine wpListIn_next_ranges _ rfl _ rfl 9 (string_keyed Tryd.underlying9) ptrR encStr ptrO (fun key kl hk => by obtain ⟨x, hx, _⟩ := Maps.keyOf_str Tryd.underlying9 hk; exact ⟨x, hx⟩) (fun v y hv => by obtain ⟨c, rfl, _⟩ := ptrR_inv hv; exact ⟨c, rfl⟩) b W.heap.size nn _ _ _ rfl hrg ?_ ?_)
      | gi_in)
    · intro hc0 hl0
      gi_wp2
      go_end0
      exact ⟨⟨_, rfl⟩, .inl ⟨xs, fun x c hx hxc => (hC x c hx hxc).resolve_left (by rw [hl0]; simp), hJs⟩⟩
    · intro x c kl yd yp w2 cnt2 hkey hlk hv hat hrg2 hlt hg2 hs2 hen
      obtain ⟨x', ex, rfl, _⟩ := Maps.keyOf_str Tryd.underlying9 hkey
      obtain rfl : x = x' := encStr_inj ex
      obtain ⟨c', ec, ez⟩ := ptrR_inv hv
      have ec' : c = c' := by
        cases c <;> cases c' <;> simp [ptrO] at ec ⊢
        exact ec
      subst ec'
      obtain rfl : yd = .lit (.int .i64 (numO c)) := (Prod.mk.inj ez).1
      have e1 := hat .nil
      rw [hm0 x] at e1
      cases hmx : m x with
      | none => rw [hmx] at e1; cases e1
      | some q =>
      rw [hmx] at e1
      simp only [DataW.lit.injEq, Lit.int.injEq, true_and] at e1
      have e2 : c = some q := by
        cases c with
        | none => simp [numO] at e1
        | some y => simp only [numO] at e1; congr 1; omega
      subst e2
      have hJ2 : J xs w2 := hJ xs wr w2 (some W.heap.size) hJs hg2 (fun r e => by cases e; exact ⟨Nat.le_refl _, hrg.iter_walk⟩)
      obtain ⟨fn, tmps, assign, body, hy, hR⟩ := hY xs ⟨q, x, hmx⟩ w2 hJ2 (by omega)
      dsimp only at hy
      unfold ptrO at hen
      simp only [Option.map_some] at hen
      have hC2 : ∀ z c, z.length ≤ maxLen → m z = some c → (fun z => left z && !z.sameKey (.string x)) (.string z) = true ∨ ∃ y ∈ xs ++ [(⟨q, x, hmx⟩ : Kid m)], y.1 = c := fun z c hz hzc => by
        rcases hC z c hz hzc with h1 | ⟨y, hy1, hy2⟩
        · by_cases ez : z = x
          · subst ez
            rw [hmx] at hzc
            exact .inr ⟨⟨q, z, hmx⟩, by simp, Option.some.inj hzc⟩
          · refine .inl ?_
            show (left (.string z) && !Lit.sameKey (.string z) (.string x)) = true
            rw [h1, same_str]
            simpa using ez
        · exact .inr ⟨y, by simp [hy1], hy2⟩
      have HC2 := Lib.hid hC2
      clear hs2 hC hC2 e1 ec ez
      gi_wp2
      refine hR.mono ?_
      rintro e W3 (⟨rfl, hJ3, hk3⟩ | ⟨rfl, hJx3⟩)
      · gi_wp2
        have hrg3 := hrg2.of_walks hk3
        go_roundw
        case rel => exact ⟨_, cnt2, _, hrg3, by simp; omega, HC2.out, hJ3⟩
        case measure => rw [hrg3.left_eq, hrg.left_eq]; exact hlt
      · gi_wp2
        refine bodyPost_ret (results_none rfl _ _ _) rfl ?_
        exact ⟨⟨_, rfl⟩, .inr ⟨_, trivial, hJx3⟩⟩
/-- maps.Values(m), m not nil. -/
theorem tr_vals0 (mb : Option Nat) (w : World) :
    Calls Tryd.prog 45 #[.map mb] w fun e w' => e = .returned (.func (.func 67) #[] #[.pointer (some ⟨w.heap.size, 0, none⟩)]) ∧ w' = w.alloc (.cells #[.map mb] 49) := by
  go_enter Tryd.func45, Tryd.ntmps45
  go_wp2
  go_ret
  exact ⟨rfl, rfl⟩
/-- What it hands back. -/
theorem tr_vals (F : Fence) (n : Nat) (h8 : F.fn 67) (hro : F.round = none) (hn : 1 ≤ n) (Bm b nn : Nat) (m : Nm → Option Nat) (w : World) (hBm : Bm < w.heap.size)
    (hm : w.cell? ⟨Bm, 0, none⟩ = some (.map (some b))) (hown : SMap Tryd.prog 9 w b nn m) :
    ∃ N, SeqStopsK F n Tryd.prog 67 #[.pointer (some ⟨Bm, 0, none⟩)] (fun x : Kid m => #[.pointer (some ⟨x.1, 0, none⟩)]) KeepsWalks (AllKids m) (fun _ => True) N w := by
  obtain ⟨D0, hown, hm0⟩ := hown
  refine ⟨Maps.size D0, fun l J Jx W hW hJ _ hY h0 => ?_⟩
  have hown' : W.ownsMap Tryd.prog 9 ptrR b nn D0 := by
    have hbl := hown.lt
    obtain ⟨es, clock, hb, Ft, hs, hD⟩ := hown
    exact ⟨es, clock, (hW.block b hbl).trans hb, Ft, hs, hD⟩
  exact tr_vals1 F n h8 hro hn l Bm b nn D0 m hm0 J Jx hY W hJ ((hW.cell (p := ⟨Bm, 0, none⟩) hBm).trans hm) hown' h0
set_option maxRecDepth 100000 in
set_option maxHeartbeats 1000000 in
theorem tr_vals1Nil {α : Type} (F : Fence) (n : Nat) (hf : F.fn 67) (hro : F.round = none) (l Bm : Nat) (J : List α → World → Prop) (W : World) (hJ : AbidesFrom W.heap.size J)
    (hm : W.cell? ⟨Bm, 0, none⟩ = some (.map none)) (h0 : J [] W) :
    CallsIn F n Tryd.prog 67 #[.func (.yield l) #[] #[], .pointer (some ⟨Bm, 0, none⟩)] W fun e W' => (∃ v, e = .returned v) ∧ J [] W' := by
  refine callsIn_of_wp Tryd.func67 rfl hf ?_ hro
  simp only [Tryd.ntmps67, List.size_toArray, List.length_cons, List.length_nil, Nat.reduceAdd, Nat.reduceSub, Array.replicate_succ, Array.replicate_zero, List.push_toArray, List.append_toArray, List.nil_append, List.cons_append]
  have hrg := run_range_nilMap (P := Tryd.prog) W 49 9 46 Tryd.underlying49
  have hnx : ∀ ty, (Instr.next (.pointer (some ⟨W.heap.size, 0, none⟩)) false ty).run Tryd.prog (W.alloc (.mapIter none 0 #[] 0)) = _ := fun ty => run_next_nilMap _ ty 0 0 #[]
  gi_wp2
  refine wpIn_loop_rounds 1 ?_
  rw [roundsIn_succ]
  gi_wp2
  go_end0
  exact ⟨⟨_, rfl⟩, hJ [] W _ none h0 (World.grownBy_alloc W _ none) (fun r e => by cases e)⟩
/-- What it hands back at a nil map. -/
theorem tr_valsNil (F : Fence) (n : Nat) (h8 : F.fn 67) (hro : F.round = none) (Bm : Nat) (m : Nm → Option Nat) (hm0 : ∀ x, m x = none) (w : World) (hBm : Bm < w.heap.size)
    (hm : w.cell? ⟨Bm, 0, none⟩ = some (.map none)) :
    ∃ N, SeqStopsK F n Tryd.prog 67 #[.pointer (some ⟨Bm, 0, none⟩)] (fun x : Kid m => #[.pointer (some ⟨x.1, 0, none⟩)]) KeepsWalks (AllKids m) (fun _ => True) N w :=
  ⟨0, fun l J _ W hW hJ _ _ h0 => (tr_vals1Nil F n h8 hro l Bm J W hJ ((hW.cell (p := ⟨Bm, 0, none⟩) hBm).trans hm) h0).mono fun _ _ ⟨he, hj⟩ => ⟨he, .inl ⟨[], fun x c _ hx => (by rw [hm0 x] at hx; cases hx), hj⟩⟩⟩
end Go.Proofs.YtnglhfeialomgaaDoor
