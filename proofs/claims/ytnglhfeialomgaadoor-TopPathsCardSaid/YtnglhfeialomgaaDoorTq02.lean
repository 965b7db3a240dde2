/- Maps from int to pointers: what a call reads, stores and strikes in one, and a range over it. No program in sight. -/
import Derived.Maps.OwnSet
import Derived.Maps.RangeWalk
import Derived.Test.YtnglhfeialomgaaDoorTq01
namespace Go.Proofs.YtnglhfeialomgaaDoor
open Go.RowKit Go.Maps

theorem wf_int {x : Int} (h : I64 x) : (Lit.int .i64 x).wf = true := by
  unfold I64 at h
  simp [Lit.wf, IntKind.min, IntKind.max, IntKind.signed, IntKind.bits]
  omega
theorem same_int (x y : Int) : (Lit.int .i64 x).sameKey (.int .i64 y) = (x == y) := by
  by_cases e : x = y
  · subst e; simp [Lit.sameKey]
  · simp [Lit.sameKey, e]
/-- A pointer at a block's head, or nil; its number. -/
def ptrO (x : Option Nat) : Value := .pointer (x.map fun o => ⟨o, 0, none⟩)
def numO (x : Option Nat) : Int := match x with
  | none => -1
  | some o => o
theorem numO_inj {x y : Option Nat} (h : numO x = numO y) : x = y := by
  cases x <;> cases y <;> simp [numO] at h ⊢ <;> omega
/-- How a pointer in a map reads. -/
def ptrR (v : Value) : Option (DataW Unit × List MemPlace) := match v with
  | .pointer none => some (.lit (.int .i64 (-1)), [])
  | .pointer (some a) => if a = ⟨a.block, 0, none⟩ then some (.lit (.int .i64 a.block), []) else none
  | _ => none
theorem ptrR_mk (x : Option Nat) : ptrR (ptrO x) = some (.lit (.int .i64 (numO x)), []) := by
  cases x with
  | none => rfl
  | some o => simp [ptrR, ptrO, numO]
theorem ptrR_inv {v : Value} {z : DataW Unit × List MemPlace} (h : ptrR v = some z) : ∃ x, v = ptrO x ∧ z = (.lit (.int .i64 (numO x)), []) := by
  unfold ptrR at h
  split at h
  · exact ⟨none, rfl, (Option.some.inj h).symm⟩
  · rename_i a
    split at h
    · rename_i e
      exact ⟨some a.block, by unfold ptrO; rw [e]; rfl, (Option.some.inj h).symm⟩
    · cases h
  · cases h
/-- A map's datum says just what m says. -/
def MapIs (D : DataW Unit) (m : Int → Option Nat) : Prop := ∀ x z, D.atKey (.int .i64 x) z = match m x with
  | none => z
  | some o => .lit (.int .i64 o)
theorem MapIs.at {D : DataW Unit} {m : Int → Option Nat} (h : MapIs D m) (x : Int) : D.atKey (.int .i64 x) (.lit (.int .i64 (-1))) = .lit (.int .i64 (numO (m x))) := by
  rw [h x]
  cases m x <;> rfl
/-- Block b is a map that says what m says, of at most n entries. -/
def PMap (P : Program) (k : TypeId) (w : World) (b n : Nat) (m : Int → Option Nat) : Prop := ∃ D, w.ownsMap P k ptrR b n D ∧ MapIs D m
section
variable {P : Program} {k e t : TypeId} {w : World} {b n : Nat} {m : Int → Option Nat}
theorem PMap.fr {w' : World} {S : List Nat} (h : PMap P k w b n m) (hf : Fr S w w') (hb : b ∉ S) : PMap P k w' b n m := by
  obtain ⟨D, ⟨es, clock, h0, r⟩, hm⟩ := h
  exact ⟨D, ⟨es, clock, (hf.block b (lt_of_heap h0) hb).trans h0, r⟩, hm⟩
theorem PMap.lt (h : PMap P k w b n m) : b < w.heap.size := by obtain ⟨D, h, _⟩ := h; exact World.ownsMap.lt h
theorem PMap.made (w : World) (P : Program) (k : TypeId) : PMap P k (w.alloc (.map #[] 0)) w.heap.size 0 (fun _ => none) := ⟨_, World.ownsMap_made w P k _, fun _ _ => rfl⟩
theorem Fr.turnedM {w' : World} (h : w.mapTurned w' b) : Fr [b] w w' :=
  let g := h.grown
  ⟨g.os, g.tape, g.output, g.size, fun i hi hn => g.block i hi (by simp at hn; simpa using hn)⟩
theorem MapIs.put {D : DataW Unit} (hD : IsMap D) (h : MapIs D m) (y : Int) (o : Nat) : MapIs (D.put (.int .i64 y) (.lit (.int .i64 (numO (some o))))) (fun x => if x = y then some o else m x) := by
  intro x z
  show _ = match (if x = y then some o else m x) with
    | none => z
    | some o => .lit (.int .i64 o)
  by_cases e : x = y
  · subst e
    rw [atKey_put_same hD (show WideAt.IsKeyLit (.int .i64 x) from trivial), if_pos rfl]; rfl
  · rw [atKey_put_other (by simpa using e), h x z, if_neg e]
theorem MapIs.del {D : DataW Unit} (h : MapIs D m) (y : Int) : MapIs (D.del (.int .i64 y)) (fun x => if x = y then none else m x) := by
  intro x z
  show _ = match (if x = y then none else m x) with
    | none => z
    | some o => .lit (.int .i64 o)
  by_cases e : x = y
  · subst e
    rw [atKey_del_same, if_pos rfl]
  · rw [atKey_del_other (by simpa using e), h x z, if_neg e]
theorem run_lookup_ptr (h : PMap P k w b n m) (hk : P.underlying k = some (.int .i64)) (ht : P.underlying t = some (.map k e)) (hz : (zeroValue e).run P w = .ok (.pointer none) w) {x : Int} (hx : I64 x) :
    (Instr.lookup t (.map (some b)) (.int .i64 x) false).run P w = .ok (ptrO (m x)) w := by
  obtain ⟨D, h, hm⟩ := h
  obtain ⟨v, ps, hrun, hv⟩ := World.ownsMap.lookup (H := Unit) h (int_keyed hk) ht hz (ptrR_mk none) (keyOf_int_mk hk (wf_int hx))
  rw [show numO none = -1 from rfl, hm.at x] at hv
  obtain ⟨y, rfl, e1⟩ := ptrR_inv hv
  simp only [Prod.mk.injEq, DataW.lit.injEq, Lit.int.injEq, true_and] at e1
  rw [hrun, numO_inj e1.1]
/-- 'm[x]'. -/
theorem wpList_lookup_ptr {ops : Array Oper} {rest : List Oper} {o : Oper} {a : Act} {Q : Exit → Act → World → Prop} (hg : o.guard = none) (mm x : Operand) (hop : o.op = Op.lookup t mm x false) (h : PMap P k w b n m)
    (hk : P.underlying k = some (.int .i64)) (ht : P.underlying t = some (.map k e)) (hz : (zeroValue e).run P w = .ok (.pointer none) w) (hm : a.eval mm = .map (some b)) (y : Int) (hx : a.eval x = .int .i64 y) (hy : I64 y) (v : Value) (hv : ptrO (m y) = v)
    (hK : wpList P ops Q rest (a.put o.dst v) w) : wpList P ops Q (o :: rest) a w := by
  subst hv
  refine wpList_plain hg fun K' hK' => ?_
  unfold Oper.wp
  simp [execOp, hop, hm, hx, run_lookup_ptr h hk ht hz hy, Result.andThen]
  exact hK' _ _ hK
/-- 'm[x] = p'. -/
theorem wpList_update_ptr {ops : Array Oper} {rest : List Oper} {o : Oper} {a : Act} {Q : Exit → Act → World → Prop} (hg : o.guard = none) (mm x v : Operand) (hop : o.op = Op.mapUpdate t mm x v) (h : PMap P k w b n m)
    (hk : P.underlying k = some (.int .i64)) (ht : P.underlying t = some (.map k e)) (hn : n < maxLen) (hm : a.eval mm = .map (some b)) (y : Int) (hx : a.eval x = .int .i64 y) (p : Nat) (hv : a.eval v = .pointer (some ⟨p, 0, none⟩)) (hy : I64 y)
    (hK : ∀ w', PMap P k w' b (n + 1) (fun x => if x = y then some p else m x) → Fr [b] w w' → wpList P ops Q rest (a.put o.dst undef) w') : wpList P ops Q (o :: rest) a w := by
  obtain ⟨D, h, hmm⟩ := h
  have hD := World.ownsMap.isMap h
  refine wpList_mapUpdate_in (H := Unit) w hg mm x v t hop k e (int_keyed hk) ht _ b n _ hm h hn _ _ _ hx hv (keyOf_int_mk hk (wf_int hy)) _ [] (ptrR_mk (some p)) ?_
  intro w' h1 h2
  exact hK w' ⟨_, h1, hmm.put hD y p⟩ (Fr.turnedM h2)

/-! ### A range over it -/
/-- The range at block r: what the map says; which keys are still to come; how many. -/
def PRange (P : Program) (k : TypeId) (w : World) (b r n : Nat) (m : Int → Option Nat) (left : Int → Bool) (cnt : Nat) : Prop :=
  ∃ D L, w.ranges P k ptrR b r n D L cnt ∧ MapIs D m ∧ ∀ x, L (.int .i64 x) = left x
variable {r cnt : Nat} {left : Int → Bool}
theorem PRange.map (h : PRange P k w b r n m left cnt) : PMap P k w b n m := by
  obtain ⟨D, L, h, hm, _⟩ := h
  exact ⟨D, h.owns, hm⟩
theorem PRange.lt (h : PRange P k w b r n m left cnt) : r < w.heap.size ∧ r ≠ b := by
  obtain ⟨D, L, h, _, _⟩ := h
  exact ⟨h.lt, h.ne⟩
theorem PRange.fr {w' : World} {S : List Nat} (h : PRange P k w b r n m left cnt) (hf : Fr S w w') (hb : b ∉ S) (hr : r ∉ S) : PRange P k w' b r n m left cnt := by
  obtain ⟨D, L, ⟨es, clock, since, seen, c0, h0, q1, q2, q3, h4, q⟩, hm, hl⟩ := h
  exact ⟨D, L, ⟨es, clock, since, seen, c0, (hf.block b (lt_of_heap h0) hb).trans h0, q1, q2, q3, (hf.block r (lt_of_heap h4) hr).trans h4, q⟩, hm, hl⟩
theorem PRange.left_eq (h : PRange P k w b r n m left cnt) : w.rangeLeft b r = cnt := by
  obtain ⟨D, L, h, _, _⟩ := h
  exact h.left_eq
/-- 'range m'. -/
theorem wpList_range_ptr {ops : Array Oper} {rest : List Oper} {o : Oper} {a : Act} {Q : Exit → Act → World → Prop} (hg : o.guard = none) (mm : Operand) (hop : o.op = Op.range t mm) (h : PMap P k w b n m)
    (hk : P.underlying k = some (.int .i64)) (ht : P.underlying t = some (.map k e)) (hm : a.eval mm = .map (some b))
    (hK : ∀ w' left cnt, PRange P k w' b w.heap.size n m left cnt → (∀ x, left x = false → m x = none) → Fr [] w w' → w'.heap.size = w.heap.size + 1 → wpList P ops Q rest (a.put o.dst (.pointer (some ⟨w.heap.size, 0, none⟩))) w') : wpList P ops Q (o :: rest) a w := by
  obtain ⟨D, h, hmm⟩ := h
  refine wpList_range_own (H := Unit) w hg mm t hop k e (int_keyed hk) ht _ b n D hm h ?_
  intro w' h1 h2 h3
  refine hK w' (fun x => Maps.has D (.int .i64 x)) _ ⟨D, _, h1, hmm, fun _ => rfl⟩ (fun x hx => ?_) ⟨h2.os, h2.tape, h2.output, h2.size, fun i hi _ => h2.block i hi (by simp)⟩ h3
  have := Maps.atKey_of_not_has hx .nil
  rw [hmm x] at this
  cases e : m x with
  | none => rfl
  | some o => rw [e] at this; cases this
/-- The step. -/
theorem wpList_next_ptr {ops : Array Oper} {rest : List Oper} {o : Oper} {a : Act} {Q : Exit → Act → World → Prop} (hg : o.guard = none) (it : Operand) (hop : o.op = Op.next it false) (hk : P.underlying k = some (.int .i64))
    (hit : a.eval it = .pointer (some ⟨r, 0, none⟩)) (h : PRange P k w b r n m left cnt)
    (hDone : (∀ x, left x = false) → wpList P ops Q rest (a.put o.dst (.tuple #[.bool false])) w)
    (hMore : ∀ (x : Int) (q : Nat) (w' : World) (cnt' : Nat), I64 x → left x = true → m x = some q → PRange P k w' b r n m (fun z => left z && !(z == x)) cnt' → cnt' < cnt → Fr [r] w w' → w'.heap.size = w.heap.size →
      (Instr.entry (.pointer (some ⟨r, 0, none⟩))).run P w' = .ok (.tuple #[.int .i64 x, .pointer (some ⟨q, 0, none⟩)]) w' → wpList P ops Q rest (a.put o.dst (.tuple #[.bool true, .int .i64 x, .pointer (some ⟨q, 0, none⟩)])) w') :
    wpList P ops Q (o :: rest) a w := by
  obtain ⟨D, L, h, hmm, hl⟩ := h
  refine wpList_next_ranges (H := Unit) w hg it hop k (int_keyed hk) ptrR (Value.int .i64) ptrO (fun key kl hkey => by obtain ⟨x, rfl, _⟩ := Maps.keyOf_int_inv hk hkey; exact ⟨x, rfl⟩) (fun v y hv => by obtain ⟨c, rfl, _⟩ := ptrR_inv hv; exact ⟨c, rfl⟩) b r n D L cnt hit h ?_ ?_
  · intro _ h0
    exact hDone (fun x => by rw [← hl x]; exact h0 _)
  · intro x c kl y w' cnt' hkey hlk hv hat hrg hlt hgr hsz hen
    obtain ⟨x', ex, rfl, hwx⟩ := Maps.keyOf_int_inv hk hkey
    cases ex
    obtain ⟨c', ec, rfl⟩ := ptrR_inv hv
    have ec' : c = c' := by
      cases c <;> cases c' <;> simp [ptrO] at ec ⊢
      exact ec
    subst ec'
    have e1 := hat .nil
    rw [hmm x] at e1
    cases hmx : m x with
    | none => rw [hmx] at e1; cases e1
    | some q =>
      rw [hmx] at e1
      simp only [DataW.lit.injEq, Lit.int.injEq, true_and] at e1
      have e2 : c = some q := by
        cases c with
        | none => simp [numO] at e1
        | some y => simp only [numO] at e1; congr 1; omega
      subst e2
      refine hMore x q w' cnt' ?_ (by rw [← hl x]; exact hlk) hmx ⟨D, _, hrg, hmm, fun z => ?_⟩ hlt ⟨hgr.os, hgr.tape, hgr.output, hgr.size, fun i hi hn => hgr.block i hi (by simp at hn; simpa using hn)⟩ hsz hen
      · simp [Lit.wf, IntKind.min, IntKind.max, IntKind.signed, IntKind.bits] at hwx
        exact ⟨by omega, by omega⟩
      · show (L (.int .i64 z) && !Lit.sameKey (.int .i64 z) (.int .i64 x)) = _
        rw [hl z, same_int]
/-- 'delete(m, x)' in the round. -/
theorem wpList_delete_ptr {ops : Array Oper} {rest : List Oper} {o : Oper} {a : Act} {Q : Exit → Act → World → Prop} (hg : o.guard = none) (mm x : Operand) (hop : o.op = Op.call { callee := Callee.builtin Builtin.delete, args := #[mm, x], argTypes := #[t, k] })
    (hk : P.underlying k = some (.int .i64)) (ht : P.underlying t = some (.map k e)) (hm : a.eval mm = .map (some b)) (h : PRange P k w b r n m left cnt) (y : Int) (hx : a.eval x = .int .i64 y) (hy : I64 y)
    (hK : ∀ w' cnt', PRange P k w' b r n (fun z => if z = y then none else m z) (fun z => left z && !(z == y)) cnt' → cnt' ≤ cnt → Fr [b] w w' → wpList P ops Q rest (a.put o.dst (.tuple #[])) w') :
    wpList P ops Q (o :: rest) a w := by
  obtain ⟨D, L, h, hmm, hl⟩ := h
  refine wpList_delete_ranges (H := Unit) w hg mm x t k hop e (int_keyed hk) ht ptrR b r n D L cnt hm h _ _ hx (keyOf_int_mk hk (wf_int hy)) ?_
  intro w' cnt' h1 h2 h3
  refine hK w' cnt' ⟨_, _, h1, hmm.del y, fun z => ?_⟩ h2 (Fr.turnedM h3)
  · show (L (.int .i64 z) && !Lit.sameKey (.int .i64 z) (.int .i64 y)) = _
    rw [hl z, same_int]
end
end Go.Proofs.YtnglhfeialomgaaDoor
