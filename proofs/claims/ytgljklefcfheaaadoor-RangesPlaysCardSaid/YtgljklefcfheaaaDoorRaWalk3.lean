/- The contracts of package ranges's functions: New, Set, Free. -/
import Derived.Test.YtgljklefcfheaaaDoorRaWalk2
import Derived.Test.YtgljklefcfheaaaDoorCopy
namespace Go.Proofs.YtgljklefcfheaaaDoor
open Go.RowKit

section
variable {P : Program} {ops : Array Oper} {Q : Exit → Act → World → Prop} {S : World → Prop} {T : Act → World → Prop} {l : List (Bool × Oper)} {o : Oper} {a : Act} {w : World}
/-- A part of a block, loaded as one value, taken first. -/
theorem wpMix_take_load (hw : Region.wanted o (yielded ops a.tmps) = true) (ty : TypeId) (x : Operand) (ho : o.op = .load ty x) (g off n : Nat) (hx : a.eval x = .pointer (some ⟨g, off, none⟩)) (d : TypeDesc)
    (hu : P.underlying ty = some d) (hd : (match d with | .struct _ | .array _ _ => true | _ => false) = true) (hi : (P.info? ty).map (·.size) = some n) (vs : Array Value)
    (h : ∀ W, S W → ∃ cur t fr, W.heap[g]? = some (.cells cur t fr) ∧ off + n ≤ cur.size ∧ ((cur.toList.drop off).take n).toArray = vs)
    (hr : wpMix P ops Q S T l (a.put o.dst (.agg vs)) w) : wpMix P ops Q S T ((true, o) :: l) a w := by
  refine wpMix_take hw (fun W hW => ?_) hr
  obtain ⟨cur, t, fr, h1, h2, h3⟩ := h W hW
  have := run_load_part (P := P) W g off n t ty cur fr d h1 hu hd hi h2
  unfold execOp
  simp only [ho, hx, Instr.loadAt, Instr.sureAddr, Sem.run_bind, Sem.run_pure, Result.andThen_ok, this, h3]
end

set_option maxRecDepth 100000 in
theorem ra_New (w : World) : Calls Tryd.prog 12 #[] w fun e w' => e = .returned (.pointer (some ⟨w.heap.size, 0, none⟩)) ∧ RaD w' w.heap.size Ra.new ∧ Fr [] w w' := by
  go_enter Tryd.func12, Tryd.ntmps12
  go_wp2
  go_ret
  exact ⟨rfl, (heap_alloc_new w _ : RaD _ _ Ra.new), (Fr.refl _ _).alloc _⟩

/-- The call hands back v; block b holds T; nothing else has turned. -/
def RaAns (b : Nat) (v : Value) (T : List Int) (w : World) (e : Ending) (w' : World) : Prop := e = .returned v ∧ RaD w' b T ∧ Fr [b] w w'
/-- An owner's row, put back. -/
theorem Ra.restore {T : List Int} (hl : T.length = 256) {o f n : Nat} (ho : o < 4) (hn : f + n ≤ 64) (x : Int) :
    ((ints (Ra.fillTo T o f x n)).toList.take (o * 64) ++ (ints ((T.drop (o * 64)).take 64)).toList ++ (ints (Ra.fillTo T o f x n)).toList.drop (o * 64 + (ints ((T.drop (o * 64)).take 64)).size)).toArray = ints T := by
  obtain ⟨h1, h2⟩ := Ra.fill_nth hl ho x n hn
  have hz : ((T.drop (o * 64)).take 64).length = 64 := by simp [hl]; omega
  rw [size_ints, hz]
  apply Array.ext'
  simp only [ints_toList, ← List.map_take, ← List.map_drop, ← List.map_append]
  congr 1
  apply List.ext_getElem?
  intro i
  have e : ∀ (A B : List Int) (j : Nat), j < A.length → j < B.length → nth A j = nth B j → A[j]? = B[j]? := fun A B j a b hh => by
    rw [List.getElem?_eq_getElem a, List.getElem?_eq_getElem b]
    simpa [nth, List.getD, a, b] using hh
  by_cases hi : i < 256
  · by_cases h3 : i < o * 64
    · rw [List.append_assoc, List.getElem?_append_left (by simp [h1]; omega), List.getElem?_take, if_pos h3]
      exact e _ _ i (by omega) (by omega) (by rw [h2, if_neg (by omega)])
    · by_cases h4 : i < o * 64 + 64
      · rw [List.append_assoc, List.getElem?_append_right (by simp [h1]; omega), List.getElem?_append_left (by simp [h1, hl]; omega), List.getElem?_take, List.getElem?_drop]
        simp only [List.length_take, h1]
        rw [if_pos (by omega), show o * 64 + (i - min (o * 64) 256) = i by omega]
      · rw [List.getElem?_append_right (by simp [h1, hl]; omega), List.getElem?_drop]
        simp only [List.length_append, List.length_take, List.length_drop, h1, hl]
        rw [show o * 64 + 64 + (i - (min (o * 64) 256 + min 64 (256 - o * 64))) = i by omega]
        exact e _ _ i (by omega) (by omega) (by rw [h2, if_neg (by omega)])
  · rw [List.getElem?_eq_none (by simp [h1, hl]; omega), List.getElem?_eq_none (by omega)]
end Go.Proofs.YtgljklefcfheaaaDoor
