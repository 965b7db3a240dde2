/- slices.Sort at a row of integers that the call owns, off the shelf. -/
import Derived.Shelf.Lay
import Derived.Shelf.Sort.Plain
import Derived.Shelf.Slices.In.SortNone
import Derived.Maps.OwnSet
import Derived.Test.YtokbhiokcoldbaaDoorLqM01
import Derived.Test.YtokbhiokcoldbaaDoorLqM02
import Derived.Test.YtokbhiokcoldbaaDoorLqM06
namespace Go.Proofs
open Go.Shelf
shelf_lay Lays.n189 Nm 189 at Tryd as Tryd.lays189
namespace YtokbhiokcoldbaaDoor
open Go.RowKit Go.Lib Go.Sort

theorem fr_sorted (w : World) (g o n : Nat) (d : Array Int) (os : Array Obj) : Fr [g] w (grow (putRow (Value.int .i64) (Sort.ahead w n) g o d) os) := by
  refine ⟨rfl, rfl, rfl, ?_, fun k hk hn => ?_⟩
  · rw [size_grow, size_putRow]
    exact Nat.le_add_right _ _
  · have hne : g ≠ k := by rintro rfl; simp at hn
    show (((Sort.ahead w n).heap.modify g _) ++ os)[k]? = _
    rw [Array.getElem?_append_left (by rw [Array.size_modify]; exact hk), Array.getElem?_modify, if_neg hne]
    rfl
theorem sort_own (w : World) (B : Nat) (v : Value) (xs : List Int) (h : Own w B 3 v xs) (hl : xs.length ≤ 100000) :
    Calls Tryd.prog 76 #[v] w fun e w' => e = .returned (.tuple #[]) ∧ (∃ g, (B ≤ g ∨ xs = []) ∧ Sl w' v g (Ls.srt xs)) ∧ Fr v.ownBlock.toList w w' := by
  obtain ⟨h1, h2⟩ := h
  rcases h2 with ⟨rfl, hn⟩ | ⟨g, cap, cur, rfl, hb, hg, hc, hm, hs, ht⟩
  · have hx := List.eq_nil_of_length_eq_zero hn
    subst hx
    refine (Any.slices_Sort_int_none Tryd.lays189 none 0 w).mono ?_
    rintro e w' ⟨rfl, rfl⟩
    exact ⟨rfl, ⟨0, .inr rfl, .inl ⟨by simp [Ls.srt], none, 0, rfl⟩⟩, Fr.refl _ _⟩
  · have hcell : ∀ j, j < xs.length → w.cell? ⟨g, j, none⟩ = some (.int .i64 (nth xs j)) := fun j hj => by
      rw [cell_of_row w g j cur _ _ hg]
      have h3 : cur.toList[j]? = (xs.map (Value.int .i64))[j]? := by rw [← ht, List.getElem?_take, if_pos (by omega)]
      simpa [hj, nth, List.getD] using h3
    have hH : Holds (Value.int .i64) w g 0 xs.toArray := fun j hj => by
      have hj' : j < xs.length := by simpa using hj
      refine ⟨?_, free_block hg _ _⟩
      rw [Nat.zero_add, hcell j hj', getElem!_pos _ j (by simpa using hj')]
      simp [nth, List.getD, hj']
    refine (Any.slices_Sort_int Tryd.lays189 g 0 cap xs w hH (lt_of_heap hg) (by omega)).mono ?_
    rintro e w' ⟨rfl, n, os, rfl⟩
    have hls : (Ls.srt xs).length = xs.length := (Ls.srt_perm xs).length_eq
    refine ⟨rfl, ⟨g, .inl hb, .inr ⟨0, cap, by rw [hls], by rw [hls]; exact hc, hm, fun i hi => ?_⟩⟩, fr_sorted w g 0 n _ os⟩
    have hp := cell?_putRow (Value.int .i64) (Sort.ahead w n) g 0 xs.toArray (xs.mergeSort fun x y => decide (x ≤ y)).toArray (holds_ahead _ w n g 0 _ hH) (by simp) i (by rw [hls] at hi; simpa using hi)
    have hgr : (grow (putRow (Value.int .i64) (Sort.ahead w n) g 0 (xs.mergeSort fun x y => decide (x ≤ y)).toArray) os).cell? ⟨g, 0 + i, none⟩ = (putRow (Value.int .i64) (Sort.ahead w n) g 0 (xs.mergeSort fun x y => decide (x ≤ y)).toArray).cell? ⟨g, 0 + i, none⟩ := by
      refine World.cell?_of_block ?_
      show ((putRow _ _ _ _ _).heap ++ os)[g]? = _
      rw [Array.getElem?_append_left (by rw [size_putRow]; exact lt_of_heap hg)]
    rw [hgr, hp, getElem!_pos _ i (by rw [hls] at hi; simpa using hi)]
    have hi2 : i < (xs.mergeSort fun x y => decide (x ≤ y)).length := hi
    simp only [nth, List.getD, Ls.srt]
    rw [List.getElem?_eq_getElem hi2]
    rfl
end YtokbhiokcoldbaaDoor
end Go.Proofs
/- Sets of integers (maps from int to bool): what a call reads and writes in one. No program in sight. -/
namespace Go.Proofs.YtokbhiokcoldbaaDoor
open Go.RowKit Go.Maps

theorem wf_i64 {x : Int} (h : I64 x) : (Lit.int .i64 x).wf = true := by
  unfold I64 at h
  simp [Lit.wf, IntKind.min, IntKind.max, IntKind.signed, IntKind.bits]
  omega
/-- Block b is a set of the numbers of L, of at most n. -/
def SetI (P : Program) (k e : TypeId) (w : World) (b n : Nat) (L : List Int) : Prop :=
  w.ownsMap P k (plainElem (H := Unit) P e) b n (setOf (.lit (.bool true)) (L.map (Lit.int .i64)))
section
variable {P : Program} {k e t : TypeId} {w : World} {b n : Nat} {L : List Int}
theorem SetI.fr {w' : World} {S : List Nat} (h : SetI P k e w b n L) (hf : Fr S w w') (hb : b ∉ S) : SetI P k e w' b n L := by
  obtain ⟨es, clock, h0, r⟩ := h
  exact ⟨es, clock, (hf.block b (lt_of_heap h0) hb).trans h0, r⟩
theorem SetI.lt (h : SetI P k e w b n L) : b < w.heap.size := World.ownsMap.lt h
theorem SetI.made (w : World) (P : Program) (k e : TypeId) : SetI P k e (w.alloc (.map #[] 0)) w.heap.size 0 [] := World.ownsMap_made w P k _
theorem Fr.turned {w' : World} (h : w.mapTurned w' b) : Fr [b] w w' :=
  let g := h.grown
  ⟨g.os, g.tape, g.output, g.size, fun i hi hn => g.block i hi (by simp at hn; simpa using hn)⟩
theorem keys_lit (L : List Int) : ∀ x ∈ L.map (Lit.int .i64), WideAt.IsKeyLit x := by
  intro x hx
  obtain ⟨y, _, rfl⟩ := List.mem_map.1 hx
  trivial
theorem atKey_fold (x : Int) (z : DataW Unit) : ∀ (L : List Int) (m : DataW Unit), IsMap m → ((L.map (Lit.int .i64)).foldl (fun m x => m.put x (.lit (.bool true))) m).atKey (.int .i64 x) z = if L.contains x then .lit (.bool true) else m.atKey (.int .i64 x) z
  | [], m, _ => by simp
  | y :: r, m, hm => by
    rw [List.map_cons, List.foldl_cons, atKey_fold x z r _ (hm.put _ _), List.contains_cons]
    by_cases hr : r.contains x = true
    · rw [if_pos hr, hr, Bool.or_true, if_pos rfl]
    · rw [if_neg hr]
      by_cases exy : x = y
      · subst exy
        rw [atKey_put_same hm (show WideAt.IsKeyLit (.int .i64 x) from trivial)]
        simp
      · rw [atKey_put_other (by simpa using exy)]
        have : (x == y || r.contains x) = false := by simp [exy]; simpa using hr
        rw [this]
        simp
theorem atKey_set (x : Int) (L : List Int) : (setOf (.lit (.bool true) : DataW Unit) (L.map (Lit.int .i64))).atKey (.int .i64 x) (.lit (.bool false)) = .lit (.bool (L.contains x)) := by
  rw [setOf, atKey_fold x _ L _ isMap_empty]
  cases h : L.contains x
  · rw [if_neg (by decide)]; rfl
  · rw [if_pos rfl]
theorem plainElem_bool_inv {v : Value} {z : DataW Unit × List MemPlace} (he : P.underlying e = some .bool) (h : plainElem P e v = some z) : ∃ x, v = .bool x ∧ z = (.lit (.bool x), []) := by
  unfold plainElem at h
  rw [he] at h
  cases v <;> simp at h
  exact ⟨_, rfl, h.symm⟩
theorem run_lookup_set (h : SetI P k e w b n L) (hk : P.underlying k = some (.int .i64)) (he : P.underlying e = some .bool) (ht : P.underlying t = some (.map k e)) (hz : (zeroValue e).run P w = .ok (.bool false) w) {x : Int} (hx : I64 x) :
    (Instr.lookup t (.map (some b)) (.int .i64 x) false).run P w = .ok (.bool (hasB L x)) w := by
  obtain ⟨v, ps, hrun, hv⟩ := World.ownsMap.lookup (H := Unit) h (int_keyed hk) ht hz (plainElem_bool he false) (keyOf_int_mk hk (wf_i64 hx))
  rw [atKey_set] at hv
  obtain ⟨y, rfl, e1⟩ := plainElem_bool_inv he hv
  simp only [Prod.mk.injEq, DataW.lit.injEq, Lit.bool.injEq] at e1
  rw [hrun, ← e1.1]
  rfl
/-- 's[x]' of a set. -/
theorem wpList_lookup_set {ops : Array Oper} {rest : List Oper} {o : Oper} {a : Act} {Q : Exit → Act → World → Prop} (hg : o.guard = none) (m x : Operand) (hop : o.op = Op.lookup t m x false) (h : SetI P k e w b n L)
    (hk : P.underlying k = some (.int .i64)) (he : P.underlying e = some .bool) (ht : P.underlying t = some (.map k e)) (hz : (zeroValue e).run P w = .ok (.bool false) w) (hm : a.eval m = .map (some b)) (y : Int) (hx : a.eval x = .int .i64 y) (hy : I64 y)
    (hK : wpList P ops Q rest (a.put o.dst (.bool (hasB L y))) w) : wpList P ops Q (o :: rest) a w := by
  refine wpList_plain hg fun K' hK' => ?_
  unfold Oper.wp
  simp [execOp, hop, hm, hx, run_lookup_set h hk he ht hz hy, Result.andThen]
  exact hK' _ _ hK
/-- 's[x] = true' of a set. -/
theorem wpList_update_set {ops : Array Oper} {rest : List Oper} {o : Oper} {a : Act} {Q : Exit → Act → World → Prop} (hg : o.guard = none) (m x v : Operand) (hop : o.op = Op.mapUpdate t m x v) (h : SetI P k e w b n L)
    (hk : P.underlying k = some (.int .i64)) (he : P.underlying e = some .bool) (ht : P.underlying t = some (.map k e)) (hn : n < maxLen) (hm : a.eval m = .map (some b)) (y : Int) (hx : a.eval x = .int .i64 y) (hv : a.eval v = .bool true) (hy : I64 y)
    (hK : ∀ w', SetI P k e w' b (n + 1) (L ++ [y]) → Fr [b] w w' → wpList P ops Q rest (a.put o.dst undef) w') : wpList P ops Q (o :: rest) a w := by
  refine wpList_mapUpdate_in (H := Unit) w hg m x v t hop k e (int_keyed hk) ht _ b n _ hm h hn _ _ _ hx hv (keyOf_int_mk hk (wf_i64 hy)) _ [] (plainElem_bool he true) ?_
  intro w' h1 h2
  refine hK w' ?_ (Fr.turned h2)
  unfold SetI
  rw [List.map_append]
  have := setOf_snoc (.lit (.bool true) : DataW Unit) (L.map (Lit.int .i64)) (.int .i64 y)
  rw [show [y].map (Lit.int .i64) = [Lit.int .i64 y] from rfl, this]
  exact h1
end
end Go.Proofs.YtokbhiokcoldbaaDoor

/- The contract of core.Set's Add. -/
namespace Go.Proofs.YtokbhiokcoldbaaDoor
open Go.RowKit Go.Maps

theorem zero_bool (w : World) : (zeroValue 4).run Tryd.prog w = .ok (.bool false) w := by kernel_rfl
/-- A set of the program's own. -/
abbrev St (w : World) (b n : Nat) (L : List Int) : Prop := SetI Tryd.prog 3 4 w b n L
theorem set_Add (w : World) (b n : Nat) (L : List Int) (x : Int) (h : St w b n L) (hx : I64 x) (hn : n < 1000000) :
    Calls Tryd.prog 75 #[.map (some b), .int .i64 x] w fun e w' => e = .returned (.bool (!hasB L x)) ∧ St w' b (n + 1) (L ++ [x]) ∧ Fr [b] w w' := by
  have H := Lib.hid h
  have HX := Lib.hid hx
  have hn' : n < maxLen := by unfold maxLen; omega
  clear h hx
  go_enter Tryd.func75, Tryd.ntmps75
  go_wp2_with (first
    | (at_lookup; refine wpList_lookup_set rfl _ _ rfl H.out Tryd.underlying3 Tryd.underlying4 Tryd.underlying126 (zero_bool _) rfl _ rfl HX.out ?_)
    | (at_mapUpdate; refine wpList_update_set rfl _ _ _ rfl H.out Tryd.underlying3 Tryd.underlying4 Tryd.underlying126 hn' rfl _ rfl rfl HX.out ?_; intro w1 h1 h2; have H1 := Lib.hid h1; have H2 := Lib.hid h2; clear h1 h2))
  go_ret
  exact ⟨rfl, H1.out, H2.out⟩
end Go.Proofs.YtokbhiokcoldbaaDoor
