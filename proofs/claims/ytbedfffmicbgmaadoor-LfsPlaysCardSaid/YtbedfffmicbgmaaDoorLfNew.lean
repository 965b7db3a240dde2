/- The contract of package lfs's New. -/
import Derived.Test.YtbedfffmicbgmaaDoorLfWalk2
namespace Go.Proofs.YtbedfffmicbgmaaDoor
open Go.RowKit
set_option maxRecDepth 100000 in
theorem lf_new (w : World) (B : Nat) (hB : B ≤ w.heap.size) : Calls Tryd.prog 5 #[] w fun e w' => e = .returned (.pointer (some ⟨w.heap.size, 0, none⟩)) ∧ LfD B w' w.heap.size Lf.new ∧ Fr [] w w' := by
  go_enter Tryd.func5, Tryd.ntmps5
  go_wp2
  go_ret
  refine ⟨rfl, ⟨hB, List.replicate 6 (.slice none 0 0), rfl, heap_alloc_new w _, fun i hi => ?_, fun i j hi hj hij g hg => ?_⟩, (Fr.refl _ _).alloc _⟩
  · have e : (List.replicate 6 (Value.slice none 0 0)).getD i undef = .slice none 0 0 := by
      rw [List.getD_eq_getElem?_getD, List.getElem?_replicate, if_pos hi]; rfl
    have e2 : Lf.seg Lf.new i = [] := by
      show (List.replicate 6 ([] : List Lf.Blk)).getD i [] = []
      rw [List.getD_eq_getElem?_getD, List.getElem?_replicate, if_pos hi]; rfl
    rw [e, e2]
    exact ⟨Own2.nil _ _ _, fun h => by cases h⟩
  · have e : (List.replicate 6 (Value.slice none 0 0)).getD i undef = .slice none 0 0 := by
      rw [List.getD_eq_getElem?_getD, List.getElem?_replicate, if_pos hi]; rfl
    rw [e] at hg
    cases hg
end Go.Proofs.YtbedfffmicbgmaaDoor
