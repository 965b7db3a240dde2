/- What slices.Insert does to a row that the call owns, whatever its elements: in plain words of lists and blocks. No program in sight. -/
import Derived.Test.YtokbhiokcoldbaaOwn2
import Derived.Lib.AppendZerosOnto
import Derived.Lib.Overlaps
namespace Go.Proofs.Ytokbhiokcoldbaa
open Go.RowKit

/-- Where a row lies that grew: where it lay, or in a new block. -/
def Moves (w : World) (v v' : Value) : Prop := v'.ownBlock = v.ownBlock ∨ ∃ g, v'.ownBlock = some g ∧ w.heap.size ≤ g
theorem Moved.moves {w : World} {n : Nat} {v v' : Value} (h : Moved n v v') (hn : w.heap.size ≤ n) : Moves w v v' := h.imp id fun h => ⟨n, h, hn⟩

theorem shift_take (cur C X : List Value) (a N k : Nat) (hC : cur.take N = C) (ha : a ≤ N) (hN : N + k ≤ cur.length) (hX : X.length = k) (cur1 : List Value)
    (h1 : cur1 = cur.take (a + k) ++ C.drop a ++ cur.drop (a + k + (N - a))) :
    (cur1.take a ++ X ++ cur1.drop (a + k)).take (N + k) = C.take a ++ X ++ C.drop a ∧ cur1.length = cur.length ∧ (cur1.take a ++ X ++ cur1.drop (a + k)).length = cur.length := by
  have hCl : C.length = N := by rw [← hC, List.length_take]; omega
  have hl1 : (cur.take (a + k)).length = a + k := by rw [List.length_take]; omega
  have hdl : (C.drop a).length = N - a := by rw [List.length_drop, hCl]
  have e1 : cur1.take a = C.take a := by
    rw [h1, List.append_assoc, List.take_append_of_le_length (by omega), List.take_take, ← hC, List.take_take]
    congr 1
    omega
  have e2 : cur1.drop (a + k) = C.drop a ++ cur.drop (a + k + (N - a)) := by
    rw [h1, List.append_assoc, List.drop_append_of_le_length (by omega), List.drop_of_length_le (by omega), List.nil_append]
  have el : cur1.length = cur.length := by
    rw [h1]
    simp only [List.length_append, hl1, hdl, List.length_drop]
    omega
  have hta : (C.take a).length = a := by rw [List.length_take]; omega
  refine ⟨?_, el, ?_⟩
  · rw [e1, e2, ← List.append_assoc, List.take_append_of_le_length (by simp only [List.length_append, hta, hX, hdl]; omega), List.take_of_length_le (by simp only [List.length_append, hta, hX, hdl]; omega)]
  · rw [e1, e2]
    simp only [List.length_append, hta, hX, hdl, List.length_drop]
    omega
theorem grow_take (row C X Z : List Value) (a N k : Nat) (hC : C.length = N) (ha : a ≤ N) (hr : row = C.take a ++ Z) (hN : N + k ≤ row.length) (hX : X.length = k) (row1 : List Value)
    (h1 : row1 = row.take a ++ X ++ row.drop (a + k)) :
    (row1.take (a + k) ++ C.drop a ++ row1.drop (a + k + (N - a))).take (N + k) = C.take a ++ X ++ C.drop a ∧ row1.length = row.length ∧ (row1.take (a + k) ++ C.drop a ++ row1.drop (a + k + (N - a))).length = row.length := by
  have hta : (C.take a).length = a := by rw [List.length_take]; omega
  have hdl : (C.drop a).length = N - a := by rw [List.length_drop, hC]
  have e0 : row.take a = C.take a := by rw [hr, List.take_append_of_le_length (by omega), List.take_of_length_le (by omega)]
  have e1 : row1.take (a + k) = C.take a ++ X := by
    rw [h1, e0, List.take_append_of_le_length (by simp only [List.length_append, hta, hX]; omega), List.take_of_length_le (by simp only [List.length_append, hta, hX]; omega)]
  have el : row1.length = row.length := by
    rw [h1, e0]
    simp only [List.length_append, hta, hX, List.length_drop]
    omega
  refine ⟨?_, el, ?_⟩
  · rw [e1, List.take_append_of_le_length (by simp only [List.length_append, hta, hX, hdl]; omega), List.take_of_length_le (by simp only [List.length_append, hta, hX, hdl]; omega)]
  · rw [e1]
    simp only [List.length_append, hta, hX, hdl, List.length_drop, el]
    omega
section
variable {α : Type} (E : Enc α)
theorem Enc.cellsTake (l : List α) (i : Nat) : (E.cells l).take (i * E.k) = E.cells (l.take i) := by
  by_cases h : i ≤ l.length
  · have e : E.cells l = E.cells (l.take i) ++ E.cells (l.drop i) := by rw [← E.cells_append, List.take_append_drop]
    have hl : (E.cells (l.take i)).length = i * E.k := by rw [E.cells_len, List.length_take, Nat.min_eq_left h]
    rw [e, List.take_append_of_le_length (by omega), List.take_of_length_le (by omega)]
  · have : l.length * E.k ≤ i * E.k := Nat.mul_le_mul_right _ (by omega)
    rw [List.take_of_length_le (by rw [E.cells_len]; exact this), List.take_of_length_le (by omega)]
theorem Enc.cellsDrop (l : List α) (i : Nat) : (E.cells l).drop (i * E.k) = E.cells (l.drop i) := by
  by_cases h : i ≤ l.length
  · have e : E.cells l = E.cells (l.take i) ++ E.cells (l.drop i) := by rw [← E.cells_append, List.take_append_drop]
    have hl : (E.cells (l.take i)).length = i * E.k := by rw [E.cells_len, List.length_take, Nat.min_eq_left h]
    rw [e, List.drop_append_of_le_length (by omega), List.drop_of_length_le (by omega), List.nil_append]
  · have : l.length * E.k ≤ i * E.k := Nat.mul_le_mul_right _ (by omega)
    rw [List.drop_of_length_le (by rw [E.cells_len]; exact this), List.drop_of_length_le (by omega)]
    rfl
theorem Enc.cells_ins (l : List α) (i : Nat) (x : α) : E.cells (l.take i ++ x :: l.drop i) = (E.cells l).take (i * E.k) ++ E.enc x ++ (E.cells l).drop (i * E.k) := by
  rw [E.cells_append, E.cellsTake, E.cellsDrop, List.append_assoc]
  rfl
theorem Enc.cells_one (l : List α) : ∀ u ∈ E.cells l, u.oneCell' = true := by
  intro u hu
  obtain ⟨x, _, hu⟩ := List.mem_flatMap.1 hu
  exact E.one x u hu
theorem ins_len (l : List α) (i : Nat) (x : α) (hi : i ≤ l.length) : (l.take i ++ x :: l.drop i).length = l.length + 1 := by
  simp only [List.length_append, List.length_take, List.length_cons, List.length_drop]
  omega
variable {E}
theorem own_at {w : World} {B e g cap : Nat} {cur : Array Value} {l : List α} {n : Nat} (hg : w.heap[g]? = some (.cells cur e (0, 0))) (hb : B ≤ g) (hn : n = l.length) (hc : n ≤ cap) (hm : cap ≤ maxLen) (hs : cur.size = cap * E.k)
    (ht : cur.toList.take (n * E.k) = E.cells l) : OwnR E w B e (.slice (some ⟨g, 0, none⟩) n cap) l := by
  subst hn
  exact ⟨E.cells_len l, .inr ⟨g, cap, cur, rfl, hb, hg, hc, hm, hs, ht⟩⟩
theorem OwnR.take {w : World} {B e : Nat} {g cap n : Nat} {l : List α} (h : OwnR E w B e (.slice (some ⟨g, 0, none⟩) n cap) l) (m : Nat) (hm : m ≤ l.length) : OwnR E w B e (.slice (some ⟨g, 0, none⟩) m cap) (l.take m) := by
  obtain ⟨h1, h2⟩ := h
  rcases h2 with ⟨h2, _⟩ | ⟨g', cap', cur, e0, hb, hg, hc, hx, hs, ht⟩
  · cases h2
  · injection e0 with e1 e2 e3
    injection e1 with e1
    injection e1 with e1 _ _
    subst e1 e3 e2
    refine own_at hg hb (by rw [List.length_take, Nat.min_eq_left hm]) (by omega) hx hs ?_
    rw [← E.cellsTake, ← ht, List.take_take, Nat.min_eq_left (Nat.mul_le_mul_right _ (by omega))]
end
section
variable {P : Program}
theorem run_copyK (w : World) (dT sT ty elem : TypeId) (k g o dLen dCap : Nat) (a : Addr) (sLen sCap : Nat) (cur : Array Value) (t : TypeId) (cs : List Value)
    (hu : P.underlying dT = some (.slice elem)) (hs : (P.info? elem).map (·.size) = some k)
    (hg : w.heap[g]? = some (.cells cur t (0, 0))) (m : Nat) (hm : m = Nat.min sLen dLen) (hn : cs.length = m * k)
    (hsrc : ∀ j v, cs[j]? = some v → w.cell? (a.add j) = some v) (hfit : o + cs.length ≤ cur.size) (h1 : ∀ v ∈ cs, v.oneCell' = true) :
    (Builtin.copy_ #[dT, sT] ty #[.slice (some ⟨g, o, none⟩) dLen dCap, .slice (some a) sLen sCap]).run P w =
      .ok (goInt m) (w.setRow g (cur.toList.take o ++ cs ++ cur.toList.drop (o + cs.length)).toArray) := by
  have hst := run_storeCells_at P g o t cs 0 cur w hg (by simpa using hfit) h1
  cases hq : P.info? elem with
  | none => simp [hq] at hs
  | some i =>
    have hi : i.size = k := by simpa [hq] using hs
    have hf := fun c => run_firstCells_some (P := P) w i.size m a sLen c cs (by rw [hi]; exact hn) hsrc
    simp [Builtin.copy_, run_underlying hu, Builtin.lenOf, sizeOf, typeInfo, hq, ← hm, hf, hst]
/-- The operation 'copy(d, s)', its run known. -/
theorem wpList_copyK {w : World} {ops : Array Oper} {rest : List Oper} {o : Oper} {a : Act} {Q : Exit → Act → World → Prop} (hgd : o.guard = none) (d s : Operand) (t t' : TypeId)
    (ho : o.op = .call { callee := .builtin .copy, args := #[d, s], argTypes := #[t, t'] }) (v u : Value) (hd : a.eval d = v) (hs : a.eval s = u) {v' : Value} {w' : World}
    (hr : (Builtin.copy_ #[t, t'] o.type #[v, u]).run P w = .ok v' w') (h : wpList P ops Q rest (a.put o.dst v') w') : wpList P ops Q (o :: rest) a w :=
  wpList_plain hgd fun _ hK => by
    unfold Oper.wp execOp
    simp only [ho, resolve, invoke, builtin, Sem.run_bind, Sem.run_pure, Result.andThen_ok, List.map_toArray, List.map_cons, List.map_nil, hd, hs, hr]
    exact hK _ _ h
theorem wpList_appendK {w : World} {ops : Array Oper} {rest : List Oper} {o : Oper} {a : Act} {Q : Exit → Act → World → Prop} (hgd : o.guard = none) (s x : Operand) (t t' : TypeId)
    (ho : o.op = .call { callee := .builtin .append, args := #[s, x], argTypes := #[t, t'] }) (v u : Value) (hd : a.eval s = v) (hs : a.eval x = u) {v' : Value} {w' : World}
    (hr : (Builtin.append_ #[t, t'] o.type #[v, u]).run P w = .ok v' w') (h : wpList P ops Q rest (a.put o.dst v') w') : wpList P ops Q (o :: rest) a w :=
  wpList_plain hgd fun _ hK => by
    unfold Oper.wp execOp
    simp only [ho, resolve, invoke, builtin, Sem.run_bind, Sem.run_pure, Result.andThen_ok, List.map_toArray, List.map_cons, List.map_nil, hd, hs, hr]
    exact hK _ _ h
end
end Go.Proofs.Ytokbhiokcoldbaa
