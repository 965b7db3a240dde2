/- What all the walks of this seat share: Within, small words on lists of numbers, the forms of answers. -/
import Derived.Test.YtnglhfeialomgaaDoorRows
import Derived.Test.YtnglhfeialomgaaDoorBase
namespace Go.Proofs.YtnglhfeialomgaaDoor
open Go.RowKit

theorem within_any (n lo hi : Int) (w : World) :
    Calls Tryd.prog 49 #[.int .i64 n, .int .i64 lo, .int .i64 hi] w fun e w' => e = .returned (.bool (decide (lo ≤ n ∧ n ≤ hi))) ∧ w = w' := by
  go_enter Tryd.func49, Tryd.ntmps49
  go_wp2
  all_goals (go_ret; refine ⟨?_, rfl⟩; congr; try simp; try omega)
theorem within_is (n lo hi : Int) (b : Bool) (w : World) (h : decide (lo ≤ n ∧ n ≤ hi) = b) :
    Calls Tryd.prog 49 #[.int .i64 n, .int .i64 lo, .int .i64 hi] w fun e w' => e = .returned (.bool b) ∧ w' = w :=
  (within_any n lo hi w).mono fun _ _ ⟨h1, h2⟩ => ⟨by rw [h1, h], h2.symm⟩
theorem getD_mem {xs : List Int} {k : Nat} (h : k < xs.length) : nth xs k ∈ xs := by
  simp [nth, List.getD, h]
theorem not_mem_of {xs : List Int} {x : Int} (h : ∀ j, j < xs.length → nth xs j ≠ x) : x ∉ xs := fun hm => by
  obtain ⟨k, hk, e⟩ := List.getElem_of_mem hm
  exact h k hk (by simp [nth, List.getD, hk, e])
/-- Two lists, held against each other. -/
theorem eq_of_getD {xs ys : List Int} (hl : xs.length = ys.length) (h : ∀ j, j < xs.length → nth xs j = nth ys j) : xs = ys := by
  apply List.ext_getElem hl
  intro i h1 h2
  have := h i h1
  simpa [nth, List.getD, h1, h2] using this
def SameAs (b : Bool) (w : World) (e : Ending) (w' : World) : Prop := e = .returned (.bool b) ∧ Dr w w'
/-- An error of the project's own: 0 is nil. -/
def errV (c : Int) : Value := if c = 0 then .nilIface else .iface 57 (.int .i64 c)
theorem errV_no {c : Int} (h : c ≠ 0) : errV c = .iface 57 (.int .i64 c) := by unfold errV; rw [if_neg h]
/-- The answer b, and nothing that was there has turned. -/
def OkB (b : Bool) (w : World) (e : Ending) (w' : World) : Prop := e = .returned (.bool b) ∧ Fr [] w w'
/-- The answer true, and nothing that was there has turned. -/
def OkT (w : World) (e : Ending) (w' : World) : Prop := e = .returned (.bool true) ∧ Fr [] w w'
end Go.Proofs.YtnglhfeialomgaaDoor
