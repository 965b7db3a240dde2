/- A value of several cells stored into a variable that was just made; worlds handed on as letters. No program in sight. -/

import Derived.Test.YtnglhfeialomgaaGreatDoorTz01
namespace Go.Proofs.YtnglhfeialomgaaGreatDoor
open Go.RowKit
section
variable {P : Program}
/-- 'x := v' for a struct or an array: the new block holds v; the world behind it is a letter. -/
theorem wpList_store_fresh {ops : Array Oper} {rest : List Oper} {o : Oper} {a : Act} {w w1 : World} {cs : Array Value} {t : TypeId} {Q : Exit → Act → World → Prop} (hgd : o.guard = none) (ty : TypeId) (x y : Operand) (ho : o.op = .store ty x y) (hw : w1 = w.alloc (.cells cs t))
    (vs : Array Value) (hx : a.eval x = .pointer (some ⟨w.heap.size, 0, none⟩)) (hy : a.eval y = .agg vs) (hi : (P.info? ty).map (·.size) = some vs.size) (hn : cs.size = vs.size) (h1 : ∀ v ∈ vs.toList, v.oneCell' = true)
    (h : ∀ w2 : World, w2.heap[w.heap.size]? = some (.cells vs t (0, 0)) → Fr [] w w2 → w.heap.size < w2.heap.size → wpList P ops Q rest (a.put o.dst undef) w2) : wpList P ops Q (o :: rest) a w1 := by
  subst hw
  have hb : (w.alloc (.cells cs t)).heap[w.heap.size]? = some (.cells cs t (0, 0)) := heap_alloc_new w _
  refine wpList_store_part hgd ty x y ho w.heap.size 0 vs hx hy t cs hb hi (by omega) h1 vs ?_ ?_
  · apply Array.ext'
    simp only [List.take_zero, List.nil_append, Nat.zero_add]
    rw [← hn, ← Array.length_toList, List.drop_length, List.append_nil]
  · exact h _ (setRow_heap _ _ _ _ _ _ hb) (((Fr.refl [] w).alloc _).setRow (.inr (Nat.le_refl _)) _) (by simp)
theorem run_store_one {ty : TypeId} {p : Addr} {v old : Value} {w : World} (hi : (P.info? ty).map (·.size) = some 1) (h1 : v.oneCell' = true) (hcs : v.cells = #[v]) (hp : p.add 0 = p) (hc : w.cell? p = some old) (hf : w.frozen? p = false) :
    (storeVar ty p v).run P w = .ok () (w.setCell p v) := by
  cases hq : P.info? ty with
  | none => simp [hq] at hi
  | some i =>
    have hs : i.size = 1 := by simpa [hq] using hi
    simp [storeVar, sizeOf, typeInfo, hq, hcs, hs, storeCells, hp, Sem.run_bind, run_store P w p v _ h1, hc, hf]
/-- 'x = v' for a value of one cell: the world behind it is a letter. -/
theorem wpList_store_one {ops : Array Oper} {rest : List Oper} {o : Oper} {a : Act} {w : World} {Q : Exit → Act → World → Prop} (hgd : o.guard = none) (ty : TypeId) (x y : Operand) (ho : o.op = .store ty x y) (g i : Nat) (v old : Value)
    (hx : a.eval x = .pointer (some ⟨g, i, none⟩)) (hy : a.eval y = v) (hi : (P.info? ty).map (·.size) = some 1) (h1 : v.oneCell' = true) (hcs : v.cells = #[v]) (hc : w.cell? ⟨g, i, none⟩ = some old) (hf : w.frozen? ⟨g, i, none⟩ = false)
    (h : ∀ w2, w2 = w.setCell ⟨g, i, none⟩ v → wpList P ops Q rest (a.put o.dst undef) w2) : wpList P ops Q (o :: rest) a w := by
  refine wpList_plain hgd fun K hK => ?_
  have hp : (⟨g, i, none⟩ : Addr).add 0 = ⟨g, i, none⟩ := by unfold Addr.add; split <;> simp_all
  unfold Oper.wp execOp
  simp only [ho, hx, hy, Instr.storeAt, Instr.sureAddr, Sem.run_bind, Sem.run_pure, Result.andThen_ok, run_store_one hi h1 hcs hp hc hf]
  exact hK _ _ (h _ rfl)
end
end Go.Proofs.YtnglhfeialomgaaGreatDoor
