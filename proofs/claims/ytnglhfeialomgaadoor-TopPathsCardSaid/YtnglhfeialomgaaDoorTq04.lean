/- Maps from texts to pointers: what a call reads, stores and strikes in one, and a range over it. No program in sight. -/
import Derived.Sort.KeysCollected
import Derived.Test.YtnglhfeialomgaaDoorRows
import Derived.Test.YtnglhfeialomgaaDoorTq01
import Derived.Test.YtnglhfeialomgaaDoorTq02
import Derived.Test.YtnglhfeialomgaaDoorTq03
namespace Go.Proofs.YtnglhfeialomgaaDoor
open Go.RowKit Go.Maps

abbrev Nm := List UInt8
theorem same_str (x y : Nm) : (Lit.string x).sameKey (.string y) = (x == y) := by
  by_cases e : x = y
  · subst e; simp [Lit.sameKey]
  · simp [Lit.sameKey, e]
theorem encStr_mk (x : Nm) : encStr x = Value.string (Pa.mk x) := rfl
theorem key_str {P : Program} {k : TypeId} (hk : P.underlying k = some .string) {x : Nm} (h : x.length ≤ maxLen) : keyOf P k (.string (Pa.mk x)) = some (.string x) := by
  have := WideMaps.keyOf_string_mk (P := P) hk (s := Pa.mk x) (by rw [Pa.mk_size]; exact h)
  rw [this, Pa.mk_list]
/-- A map's datum says just what m says. -/
def SMapIs (D : DataW Unit) (m : Nm → Option Nat) : Prop := ∀ x z, D.atKey (.string x) z = match m x with
  | none => z
  | some o => .lit (.int .i64 o)
theorem SMapIs.at {D : DataW Unit} {m : Nm → Option Nat} (h : SMapIs D m) (x : Nm) : D.atKey (.string x) (.lit (.int .i64 (-1))) = .lit (.int .i64 (numO (m x))) := by
  rw [h x]
  cases m x <;> rfl
/-- Block b is a map that says what m says, of at most n entries. -/
def SMap (P : Program) (k : TypeId) (w : World) (b n : Nat) (m : Nm → Option Nat) : Prop := ∃ D, w.ownsMap P k ptrR b n D ∧ SMapIs D m
section
variable {P : Program} {k e t : TypeId} {w : World} {b n : Nat} {m : Nm → Option Nat}
theorem SMap.obj (h : SMap P k w b n m) : ∃ es clock, w.heap[b]? = some (.map es clock) := by
  obtain ⟨D, ⟨es, clock, h0, _⟩, _⟩ := h
  exact ⟨es, clock, h0⟩
theorem SMap.keep {w' : World} (h : SMap P k w b n m) (hb : w'.heap[b]? = w.heap[b]?) : SMap P k w' b n m := by
  obtain ⟨D, ⟨es, clock, h0, r⟩, hm⟩ := h
  exact ⟨D, ⟨es, clock, hb.trans h0, r⟩, hm⟩
theorem SMap.lt (h : SMap P k w b n m) : b < w.heap.size := by obtain ⟨D, h, _⟩ := h; exact World.ownsMap.lt h
theorem SMap.mono (h : SMap P k w b n m) {n' : Nat} (hn : n ≤ n') : SMap P k w b n' m := by
  obtain ⟨D, h, hm⟩ := h
  exact ⟨D, h.mono hn, hm⟩
theorem SMap.made (w : World) (P : Program) (k : TypeId) : SMap P k (w.alloc (.map #[] 0)) w.heap.size 0 (fun _ => none) := ⟨_, World.ownsMap_made w P k _, fun _ _ => rfl⟩
theorem SMapIs.put {D : DataW Unit} (hD : IsMap D) (h : SMapIs D m) (y : Nm) (o : Nat) : SMapIs (D.put (.string y) (.lit (.int .i64 (numO (some o))))) (fun x => if x = y then some o else m x) := by
  intro x z
  show _ = match (if x = y then some o else m x) with
    | none => z
    | some o => .lit (.int .i64 o)
  by_cases e : x = y
  · subst e
    rw [atKey_put_same hD (show WideAt.IsKeyLit (.string x) from trivial), if_pos rfl]; rfl
  · rw [atKey_put_other (by simpa using e), h x z, if_neg e]
theorem SMapIs.del {D : DataW Unit} (h : SMapIs D m) (y : Nm) : SMapIs (D.del (.string y)) (fun x => if x = y then none else m x) := by
  intro x z
  show _ = match (if x = y then none else m x) with
    | none => z
    | some o => .lit (.int .i64 o)
  by_cases e : x = y
  · subst e
    rw [atKey_del_same, if_pos rfl]
  · rw [atKey_del_other (by simpa using e), h x z, if_neg e]
theorem SMapIs.has {D : DataW Unit} (h : SMapIs D m) (x : Nm) : Maps.has D (.string x) = (m x).isSome := by
  cases hb : Maps.has D (.string x) with
  | false =>
    have := Maps.atKey_of_not_has hb .nil
    rw [h x] at this
    cases e : m x with
    | none => rfl
    | some o => rw [e] at this; cases this
  | true =>
    cases e : m x with
    | some o => rfl
    | none =>
      exfalso
      have h1 := Maps.has_false_of_atKey (D := D) (k := .string x) (fun z => by rw [h x z, e])
      rw [h1] at hb
      cases hb
theorem run_slook (h : SMap P k w b n m) (hk : P.underlying k = some .string) (ht : P.underlying t = some (.map k e)) (hz : (zeroValue e).run P w = .ok (.pointer none) w) {x : Nm} (hx : x.length ≤ maxLen) :
    (Instr.lookup t (.map (some b)) (.string (Pa.mk x)) false).run P w = .ok (ptrO (m x)) w := by
  obtain ⟨D, h, hm⟩ := h
  obtain ⟨v, ps, hrun, hv⟩ := World.ownsMap.lookup (H := Unit) h (string_keyed hk) ht hz (ptrR_mk none) (key_str hk hx)
  rw [show numO none = -1 from rfl, hm.at x] at hv
  obtain ⟨y, rfl, e1⟩ := ptrR_inv hv
  simp only [Prod.mk.injEq, DataW.lit.injEq, Lit.int.injEq, true_and] at e1
  rw [hrun, numO_inj e1.1]
/-- 'm[x]'. -/
theorem wpList_slook {ops : Array Oper} {rest : List Oper} {o : Oper} {a : Act} {Q : Exit → Act → World → Prop} (hg : o.guard = none) (mm x : Operand) (hop : o.op = Op.lookup t mm x false) (h : SMap P k w b n m)
    (hk : P.underlying k = some .string) (ht : P.underlying t = some (.map k e)) (hz : (zeroValue e).run P w = .ok (.pointer none) w) (hm : a.eval mm = .map (some b)) (y : Nm) (hx : a.eval x = .string (Pa.mk y)) (hy : y.length ≤ maxLen) (v : Value) (hv : ptrO (m y) = v)
    (hK : wpList P ops Q rest (a.put o.dst v) w) : wpList P ops Q (o :: rest) a w := by
  subst hv
  refine wpList_plain hg fun K' hK' => ?_
  unfold Oper.wp
  simp [execOp, hop, hm, hx, run_slook h hk ht hz hy, Result.andThen]
  exact hK' _ _ hK
/-- 'v, ok := m[x]'. -/
theorem wpList_slook_ok {ops : Array Oper} {rest : List Oper} {o : Oper} {a : Act} {Q : Exit → Act → World → Prop} (hg : o.guard = none) (mm x : Operand) (hop : o.op = Op.lookup t mm x true) (h : SMap P k w b n m)
    (hk : P.underlying k = some .string) (ht : P.underlying t = some (.map k e)) (hz : (zeroValue e).run P w = .ok (.pointer none) w) (hm : a.eval mm = .map (some b)) (y : Nm) (hx : a.eval x = .string (Pa.mk y)) (hy : y.length ≤ maxLen)
    (hK : wpList P ops Q rest (a.put o.dst (.tuple #[ptrO (m y), .bool (m y).isSome])) w) : wpList P ops Q (o :: rest) a w := by
  obtain ⟨D, h, hmm⟩ := h
  refine wpList_lookup_own_ok (H := Unit) w hg mm x t hop k e (string_keyed hk) ht ptrR hz _ _ (ptrR_mk none) b n D hm h _ _ hx (key_str hk hy) ?_
  intro v ps hv
  rw [show numO none = -1 from rfl, hmm.at y] at hv
  obtain ⟨z, rfl, e1⟩ := ptrR_inv hv
  simp only [Prod.mk.injEq, DataW.lit.injEq, Lit.int.injEq, true_and] at e1
  rw [← numO_inj e1.1, hmm.has y]
  exact hK
/-- 'm[x] = p'. -/
theorem wpList_supdate {ops : Array Oper} {rest : List Oper} {o : Oper} {a : Act} {Q : Exit → Act → World → Prop} (hg : o.guard = none) (mm x v : Operand) (hop : o.op = Op.mapUpdate t mm x v) (h : SMap P k w b n m)
    (hk : P.underlying k = some .string) (ht : P.underlying t = some (.map k e)) (hn : n < maxLen) (hm : a.eval mm = .map (some b)) (y : Nm) (hx : a.eval x = .string (Pa.mk y)) (p : Nat) (hv : a.eval v = .pointer (some ⟨p, 0, none⟩)) (hy : y.length ≤ maxLen)
    (hK : ∀ w', SMap P k w' b (n + 1) (fun x => if x = y then some p else m x) → Fr [b] w w' → wpList P ops Q rest (a.put o.dst undef) w') : wpList P ops Q (o :: rest) a w := by
  obtain ⟨D, h, hmm⟩ := h
  have hD := World.ownsMap.isMap h
  refine wpList_mapUpdate_in (H := Unit) w hg mm x v t hop k e (string_keyed hk) ht _ b n _ hm h hn _ _ _ hx hv (key_str hk hy) _ [] (ptrR_mk (some p)) ?_
  intro w' h1 h2
  exact hK w' ⟨_, h1, hmm.put hD y p⟩ (Fr.turnedM h2)
/-- 'delete(m, x)'. -/
theorem wpList_sdelete {ops : Array Oper} {rest : List Oper} {o : Oper} {a : Act} {Q : Exit → Act → World → Prop} (hg : o.guard = none) (mm x : Operand) (hop : o.op = Op.call { callee := Callee.builtin Builtin.delete, args := #[mm, x], argTypes := #[t, k] }) (h : SMap P k w b n m)
    (hk : P.underlying k = some .string) (ht : P.underlying t = some (.map k e)) (hm : a.eval mm = .map (some b)) (y : Nm) (hx : a.eval x = .string (Pa.mk y)) (hy : y.length ≤ maxLen)
    (hK : ∀ w', SMap P k w' b n (fun x => if x = y then none else m x) → Fr [b] w w' → wpList P ops Q rest (a.put o.dst (.tuple #[])) w') : wpList P ops Q (o :: rest) a w := by
  obtain ⟨D, h, hmm⟩ := h
  refine wpList_delete_own (H := Unit) w hg mm x t k hop e (string_keyed hk) ht ptrR b n D hm h _ _ hx (key_str hk hy) ?_
  intro w' h1 h2
  exact hK w' ⟨_, h1, hmm.del y⟩ (Fr.turnedM h2)
/-! ### A range over it -/
/-- The range at block r: what the map says; which keys are still to come; how many. -/
def SRange (P : Program) (k : TypeId) (w : World) (b r n : Nat) (m : Nm → Option Nat) (left : Nm → Bool) (cnt : Nat) : Prop :=
  ∃ D L, w.ranges P k ptrR b r n D L cnt ∧ SMapIs D m ∧ ∀ x, L (.string x) = left x
variable {r cnt : Nat} {left : Nm → Bool}
theorem SRange.map (h : SRange P k w b r n m left cnt) : SMap P k w b n m := by
  obtain ⟨D, L, h, hm, _⟩ := h
  exact ⟨D, h.owns, hm⟩
theorem SRange.lt (h : SRange P k w b r n m left cnt) : r < w.heap.size ∧ r ≠ b := by
  obtain ⟨D, L, h, _, _⟩ := h
  exact ⟨h.lt, h.ne⟩
theorem SRange.keep {w' : World} (h : SRange P k w b r n m left cnt) (hb : w'.heap[b]? = w.heap[b]?) (hr : w'.heap[r]? = w.heap[r]?) : SRange P k w' b r n m left cnt := by
  obtain ⟨D, L, ⟨es, clock, since, seen, c0, h0, q1, q2, q3, h4, q⟩, hm, hl⟩ := h
  exact ⟨D, L, ⟨es, clock, since, seen, c0, hb.trans h0, q1, q2, q3, hr.trans h4, q⟩, hm, hl⟩
/-- 'range m'. -/
theorem wpList_srange {ops : Array Oper} {rest : List Oper} {o : Oper} {a : Act} {Q : Exit → Act → World → Prop} (hg : o.guard = none) (mm : Operand) (hop : o.op = Op.range t mm) (h : SMap P k w b n m)
    (hk : P.underlying k = some .string) (ht : P.underlying t = some (.map k e)) (hm : a.eval mm = .map (some b))
    (hK : ∀ w' cnt, SRange P k w' b w.heap.size n m (fun x => (m x).isSome) cnt → Fr [] w w' → w'.heap.size = w.heap.size + 1 → wpList P ops Q rest (a.put o.dst (.pointer (some ⟨w.heap.size, 0, none⟩))) w') : wpList P ops Q (o :: rest) a w := by
  obtain ⟨D, h, hmm⟩ := h
  refine wpList_range_own (H := Unit) w hg mm t hop k e (string_keyed hk) ht _ b n D hm h ?_
  intro w' h1 h2 h3
  exact hK w' _ ⟨D, _, h1, hmm, fun x => hmm.has x⟩ ⟨h2.os, h2.tape, h2.output, h2.size, fun i hi _ => h2.block i hi (by simp)⟩ h3
/-- The step. -/
theorem wpList_snext {ops : Array Oper} {rest : List Oper} {o : Oper} {a : Act} {Q : Exit → Act → World → Prop} (hg : o.guard = none) (it : Operand) (hop : o.op = Op.next it false) (hk : P.underlying k = some .string)
    (hit : a.eval it = .pointer (some ⟨r, 0, none⟩)) (h : SRange P k w b r n m left cnt)
    (hDone : (∀ x, x.length ≤ maxLen → left x = false) → wpList P ops Q rest (a.put o.dst (.tuple #[.bool false])) w)
    (hMore : ∀ (x : Nm) (q : Nat) (w' : World) (cnt' : Nat), x.length ≤ maxLen → left x = true → m x = some q → SRange P k w' b r n m (fun z => left z && !(z == x)) cnt' → cnt' < cnt → Fr [r] w w' → w'.heap.size = w.heap.size →
      (Instr.entry (.pointer (some ⟨r, 0, none⟩))).run P w' = .ok (.tuple #[.string (Pa.mk x), .pointer (some ⟨q, 0, none⟩)]) w' → wpList P ops Q rest (a.put o.dst (.tuple #[.bool true, .string (Pa.mk x), .pointer (some ⟨q, 0, none⟩)])) w') :
    wpList P ops Q (o :: rest) a w := by
  obtain ⟨D, L, h, hmm, hl⟩ := h
  refine wpList_next_ranges (H := Unit) w hg it hop k (string_keyed hk) ptrR encStr ptrO (fun key kl hkey => by obtain ⟨x, hx, _⟩ := Maps.keyOf_str hk hkey; exact ⟨x, hx⟩) (fun v y hv => by obtain ⟨c, rfl, _⟩ := ptrR_inv hv; exact ⟨c, rfl⟩) b r n D L cnt hit h ?_ ?_
  · intro _ h0
    exact hDone (fun x _ => by rw [← hl x]; exact h0 _)
  · intro x c kl y w' cnt' hkey hlk hv hat hrg hlt hgr hsz hen
    obtain ⟨x', ex, rfl, hwx⟩ := Maps.keyOf_str hk hkey
    obtain rfl := encStr_inj ex
    obtain ⟨c', ec, rfl⟩ := ptrR_inv hv
    have ec' : c = c' := by
      cases c <;> cases c' <;> simp [ptrO] at ec ⊢
      exact ec
    subst ec'
    have e1 := hat .nil
    rw [hmm x] at e1
    cases hmx : m x with
    | none => rw [hmx] at e1; cases e1
    | some q =>
      rw [hmx] at e1
      simp only [DataW.lit.injEq, Lit.int.injEq, true_and] at e1
      have e2 : c = some q := by
        cases c with
        | none => simp [numO] at e1
        | some y => simp only [numO] at e1; congr 1; omega
      subst e2
      refine hMore x q w' cnt' hwx (by rw [← hl x]; exact hlk) hmx ⟨D, _, hrg, hmm, fun z => ?_⟩ hlt ⟨hgr.os, hgr.tape, hgr.output, hgr.size, fun i hi hn => hgr.block i hi (by simp at hn; simpa using hn)⟩ hsz hen
      show (L (.string z) && !Lit.sameKey (.string z) (.string x)) = _
      rw [hl z, same_str]
end
end Go.Proofs.YtnglhfeialomgaaDoor
/- What all the walks of this seat share: Within, small words on lists of numbers, the forms of answers. -/
namespace Go.Proofs.YtnglhfeialomgaaDoor
open Go.RowKit

theorem within_any (n lo hi : Int) (w : World) :
    Calls Tryd.prog 49 #[.int .i64 n, .int .i64 lo, .int .i64 hi] w fun e w' => e = .returned (.bool (decide (lo ≤ n ∧ n ≤ hi))) ∧ w = w' := by
  go_enter Tryd.func49, Tryd.ntmps49
  go_wp2
  all_goals (go_ret; refine ⟨?_, rfl⟩; congr; try simp; try omega)
theorem within_is (n lo hi : Int) (b : Bool) (w : World) (h : decide (lo ≤ n ∧ n ≤ hi) = b) :
    Calls Tryd.prog 49 #[.int .i64 n, .int .i64 lo, .int .i64 hi] w fun e w' => e = .returned (.bool b) ∧ w' = w :=
  (within_any n lo hi w).mono fun _ _ ⟨h1, h2⟩ => ⟨by rw [h1, h], h2.symm⟩
theorem getD_mem {xs : List Int} {k : Nat} (h : k < xs.length) : nth xs k ∈ xs := by
  simp [nth, List.getD, h]
theorem not_mem_of {xs : List Int} {x : Int} (h : ∀ j, j < xs.length → nth xs j ≠ x) : x ∉ xs := fun hm => by
  obtain ⟨k, hk, e⟩ := List.getElem_of_mem hm
  exact h k hk (by simp [nth, List.getD, hk, e])
/-- Two lists, held against each other. -/
theorem eq_of_getD {xs ys : List Int} (hl : xs.length = ys.length) (h : ∀ j, j < xs.length → nth xs j = nth ys j) : xs = ys := by
  apply List.ext_getElem hl
  intro i h1 h2
  have := h i h1
  simpa [nth, List.getD, h1, h2] using this
def SameAs (b : Bool) (w : World) (e : Ending) (w' : World) : Prop := e = .returned (.bool b) ∧ Dr w w'
/-- An error of the project's own: 0 is nil. -/
def errV (c : Int) : Value := if c = 0 then .nilIface else .iface 57 (.int .i64 c)
theorem errV_no {c : Int} (h : c ≠ 0) : errV c = .iface 57 (.int .i64 c) := by unfold errV; rw [if_neg h]
/-- The answer b, and nothing that was there has turned. -/
def OkB (b : Bool) (w : World) (e : Ending) (w' : World) : Prop := e = .returned (.bool b) ∧ Fr [] w w'
/-- The answer true, and nothing that was there has turned. -/
def OkT (w : World) (e : Ending) (w' : World) : Prop := e = .returned (.bool true) ∧ Fr [] w w'
end Go.Proofs.YtnglhfeialomgaaDoor
