/- Sets of integers (maps from int to bool): what a call reads and writes in one. No program in sight. -/
import Derived.Test.YtokbhiokcoldbaaDoorBase
import Derived.Maps.OwnSet
namespace Go.Proofs.YtokbhiokcoldbaaDoor
open Go.RowKit Go.Maps

theorem wf_i64 {x : Int} (h : I64 x) : (Lit.int .i64 x).wf = true := by
  unfold I64 at h
  simp [Lit.wf, IntKind.min, IntKind.max, IntKind.signed, IntKind.bits]
  omega
/-- Block b is a set of the numbers of L, of at most n. -/
def SetI (P : Program) (k e : TypeId) (w : World) (b n : Nat) (L : List Int) : Prop :=
  w.ownsMap P k (plainElem (H := Unit) P e) b n (setOf (.lit (.bool true)) (L.map (Lit.int .i64)))
section
variable {P : Program} {k e t : TypeId} {w : World} {b n : Nat} {L : List Int}
theorem SetI.fr {w' : World} {S : List Nat} (h : SetI P k e w b n L) (hf : Fr S w w') (hb : b ∉ S) : SetI P k e w' b n L := by
  obtain ⟨es, clock, h0, r⟩ := h
  exact ⟨es, clock, (hf.block b (lt_of_heap h0) hb).trans h0, r⟩
theorem SetI.lt (h : SetI P k e w b n L) : b < w.heap.size := World.ownsMap.lt h
theorem SetI.made (w : World) (P : Program) (k e : TypeId) : SetI P k e (w.alloc (.map #[] 0)) w.heap.size 0 [] := World.ownsMap_made w P k _
theorem Fr.turned {w' : World} (h : w.mapTurned w' b) : Fr [b] w w' :=
  let g := h.grown
  ⟨g.os, g.tape, g.output, g.size, fun i hi hn => g.block i hi (by simp at hn; simpa using hn)⟩
theorem keys_lit (L : List Int) : ∀ x ∈ L.map (Lit.int .i64), WideAt.IsKeyLit x := by
  intro x hx
  obtain ⟨y, _, rfl⟩ := List.mem_map.1 hx
  trivial
theorem atKey_fold (x : Int) (z : DataW Unit) : ∀ (L : List Int) (m : DataW Unit), IsMap m → ((L.map (Lit.int .i64)).foldl (fun m x => m.put x (.lit (.bool true))) m).atKey (.int .i64 x) z = if L.contains x then .lit (.bool true) else m.atKey (.int .i64 x) z
  | [], m, _ => by simp
  | y :: r, m, hm => by
    rw [List.map_cons, List.foldl_cons, atKey_fold x z r _ (hm.put _ _), List.contains_cons]
    by_cases hr : r.contains x = true
    · rw [if_pos hr, hr, Bool.or_true, if_pos rfl]
    · rw [if_neg hr]
      by_cases exy : x = y
      · subst exy
        rw [atKey_put_same hm (show WideAt.IsKeyLit (.int .i64 x) from trivial)]
        simp
      · rw [atKey_put_other (by simpa using exy)]
        have : (x == y || r.contains x) = false := by simp [exy]; simpa using hr
        rw [this]
        simp
theorem atKey_set (x : Int) (L : List Int) : (setOf (.lit (.bool true) : DataW Unit) (L.map (Lit.int .i64))).atKey (.int .i64 x) (.lit (.bool false)) = .lit (.bool (L.contains x)) := by
  rw [setOf, atKey_fold x _ L _ isMap_empty]
  cases h : L.contains x
  · rw [if_neg (by decide)]; rfl
  · rw [if_pos rfl]
theorem plainElem_bool_inv {v : Value} {z : DataW Unit × List MemPlace} (he : P.underlying e = some .bool) (h : plainElem P e v = some z) : ∃ x, v = .bool x ∧ z = (.lit (.bool x), []) := by
  unfold plainElem at h
  rw [he] at h
  cases v <;> simp at h
  exact ⟨_, rfl, h.symm⟩
theorem run_lookup_set (h : SetI P k e w b n L) (hk : P.underlying k = some (.int .i64)) (he : P.underlying e = some .bool) (ht : P.underlying t = some (.map k e)) (hz : (zeroValue e).run P w = .ok (.bool false) w) {x : Int} (hx : I64 x) :
    (Instr.lookup t (.map (some b)) (.int .i64 x) false).run P w = .ok (.bool (hasB L x)) w := by
  obtain ⟨v, ps, hrun, hv⟩ := World.ownsMap.lookup (H := Unit) h (int_keyed hk) ht hz (plainElem_bool he false) (keyOf_int_mk hk (wf_i64 hx))
  rw [atKey_set] at hv
  obtain ⟨y, rfl, e1⟩ := plainElem_bool_inv he hv
  simp only [Prod.mk.injEq, DataW.lit.injEq, Lit.bool.injEq] at e1
  rw [hrun, ← e1.1]
  rfl
/-- 's[x]' of a set. -/
theorem wpList_lookup_set {ops : Array Oper} {rest : List Oper} {o : Oper} {a : Act} {Q : Exit → Act → World → Prop} (hg : o.guard = none) (m x : Operand) (hop : o.op = Op.lookup t m x false) (h : SetI P k e w b n L)
    (hk : P.underlying k = some (.int .i64)) (he : P.underlying e = some .bool) (ht : P.underlying t = some (.map k e)) (hz : (zeroValue e).run P w = .ok (.bool false) w) (hm : a.eval m = .map (some b)) (y : Int) (hx : a.eval x = .int .i64 y) (hy : I64 y)
    (hK : wpList P ops Q rest (a.put o.dst (.bool (hasB L y))) w) : wpList P ops Q (o :: rest) a w := by
  refine wpList_plain hg fun K' hK' => ?_
  unfold Oper.wp
  simp [execOp, hop, hm, hx, run_lookup_set h hk he ht hz hy, Result.andThen]
  exact hK' _ _ hK
/-- 's[x] = true' of a set. -/
theorem wpList_update_set {ops : Array Oper} {rest : List Oper} {o : Oper} {a : Act} {Q : Exit → Act → World → Prop} (hg : o.guard = none) (m x v : Operand) (hop : o.op = Op.mapUpdate t m x v) (h : SetI P k e w b n L)
    (hk : P.underlying k = some (.int .i64)) (he : P.underlying e = some .bool) (ht : P.underlying t = some (.map k e)) (hn : n < maxLen) (hm : a.eval m = .map (some b)) (y : Int) (hx : a.eval x = .int .i64 y) (hv : a.eval v = .bool true) (hy : I64 y)
    (hK : ∀ w', SetI P k e w' b (n + 1) (L ++ [y]) → Fr [b] w w' → wpList P ops Q rest (a.put o.dst undef) w') : wpList P ops Q (o :: rest) a w := by
  refine wpList_mapUpdate_in (H := Unit) w hg m x v t hop k e (int_keyed hk) ht _ b n _ hm h hn _ _ _ hx hv (keyOf_int_mk hk (wf_i64 hy)) _ [] (plainElem_bool he true) ?_
  intro w' h1 h2
  refine hK w' ?_ (Fr.turned h2)
  unfold SetI
  rw [List.map_append]
  have := setOf_snoc (.lit (.bool true) : DataW Unit) (L.map (Lit.int .i64)) (.int .i64 y)
  rw [show [y].map (Lit.int .i64) = [Lit.int .i64 y] from rfl, this]
  exact h1
end
end Go.Proofs.YtokbhiokcoldbaaDoor
