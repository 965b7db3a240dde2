/- A value of several cells stored into a variable that was just made; worlds handed on as letters. No program in sight. -/
import Derived.Test.YtgljklefcfheaaaDoorBase
namespace Go.Proofs.YtgljklefcfheaaaDoor
open Go.RowKit
section
variable {P : Program}
/-- 'x := v' for a struct or an array: the new block holds v; the world behind it is a letter. -/
theorem wpList_store_fresh {ops : Array Oper} {rest : List Oper} {o : Oper} {a : Act} {w w1 : World} {cs : Array Value} {t : TypeId} {Q : Exit → Act → World → Prop} (hgd : o.guard = none) (ty : TypeId) (x y : Operand) (ho : o.op = .store ty x y) (hw : w1 = w.alloc (.cells cs t))
    (vs : Array Value) (hx : a.eval x = .pointer (some ⟨w.heap.size, 0, none⟩)) (hy : a.eval y = .agg vs) (hi : (P.info? ty).map (·.size) = some vs.size) (hn : cs.size = vs.size) (h1 : ∀ v ∈ vs.toList, v.oneCell' = true)
    (h : ∀ w2 : World, w2.heap[w.heap.size]? = some (.cells vs t (0, 0)) → Fr [] w w2 → w.heap.size < w2.heap.size → wpList P ops Q rest (a.put o.dst undef) w2) : wpList P ops Q (o :: rest) a w1 := by
  subst hw
  have hb : (w.alloc (.cells cs t)).heap[w.heap.size]? = some (.cells cs t (0, 0)) := heap_alloc_new w _
  refine wpList_store_part hgd ty x y ho w.heap.size 0 vs hx hy t cs hb hi (by omega) h1 vs ?_ ?_
  · apply Array.ext'
    simp only [List.take_zero, List.nil_append, Nat.zero_add]
    rw [← hn, ← Array.length_toList, List.drop_length, List.append_nil]
  · exact h _ (setRow_heap _ _ _ _ _ _ hb) (((Fr.refl [] w).alloc _).setRow (.inr (Nat.le_refl _)) _) (by simp)
end
end Go.Proofs.YtgljklefcfheaaaDoor
