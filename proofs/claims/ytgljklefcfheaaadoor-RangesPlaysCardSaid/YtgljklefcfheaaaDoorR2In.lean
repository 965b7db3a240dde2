/- The in of the document's package; three variables laid. -/
import Derived.Test.YtgljklefcfheaaaDoorCommon
import Derived.Test.YtgljklefcfheaaaDoorEnc
namespace Go.Proofs.YtgljklefcfheaaaDoor
open Go.RowKit

theorem r2in_is (n lo hi : Int) (b : Bool) (w : World) (h : decide (lo ≤ n ∧ n ≤ hi) = b) :
    Calls Tryd.prog 38 #[.int .i64 n, .int .i64 lo, .int .i64 hi] w fun e w' => e = .returned (.bool b) ∧ w' = w := by
  subst h
  go_enter Tryd.func38, Tryd.ntmps38
  go_wp2
  all_goals (go_ret; refine ⟨?_, rfl⟩; congr; try simp; try omega)
theorem OwnR.form0 {α : Type} {E : Enc α} {w : World} {B e : Nat} {v : Value} {l : List α} (h : OwnR E w B e v l) : ∃ A c, v = .slice A l.length c := by
  obtain ⟨_, h2⟩ := h
  rcases h2 with ⟨rfl, hn⟩ | ⟨g, cap, cur, rfl, _⟩
  · exact ⟨none, 0, by rw [hn]⟩
  · exact ⟨_, cap, rfl⟩
/-- Three variables laid. -/
theorem three_allocs (w : World) (o0 o1 o2 : Obj) : (((w.alloc o0).alloc o1).alloc o2).heap.size = w.heap.size + 3 ∧ Fr [] w (((w.alloc o0).alloc o1).alloc o2) ∧
    (((w.alloc o0).alloc o1).alloc o2).heap[w.heap.size]? = some o0 ∧ (((w.alloc o0).alloc o1).alloc o2).heap[w.heap.size + 1]? = some o1 ∧ (((w.alloc o0).alloc o1).alloc o2).heap[w.heap.size + 1 + 1]? = some o2 := by
  have h (a : World) (o p : Obj) {k : Nat} (hk : a.heap[k]? = some p) : (a.alloc o).heap[k]? = some p := ((Fr.refl [] a).alloc o).get hk (by simp)
  have n1 := heap_alloc_new (w.alloc o0) o1
  have n2 := heap_alloc_new ((w.alloc o0).alloc o1) o2
  simp only [World.size_alloc] at n1 n2
  exact ⟨by simp, (((Fr.refl [] w).alloc _).alloc _).alloc _, h _ _ _ (h _ _ _ (heap_alloc_new w o0)), h _ _ _ n1, n2⟩
end Go.Proofs.YtgljklefcfheaaaDoor
