/- slices.BinarySearch at a rising row of integers, off the shelf. -/
import Derived.Shelf.Lay
import Derived.Shelf.Slices.SearchI
import Derived.Shelf.Slices.Empties
import Derived.Test.YtokbhiokcoldbaaBtPlain2
import Derived.Test.YtokbhiokcoldbaaInE
import Derived.Test.YtokbhiokcoldbaaCommon
namespace Go.Proofs
open Go.Shelf
shelf_lay Lays2.n25 Nm2 25 at Try as Try.lays2x25
namespace Ytokbhiokcoldbaa
open Go.RowKit Go.Lib

theorem lb_count {x : Int} : ∀ {l : List Int}, Bt.Up l → l.countP (· < x) = Bt.lb x l
  | [], _ => rfl
  | y :: r, h => by
    rw [Bt.Up, List.pairwise_cons] at h
    by_cases hy : y < x
    · rw [List.countP_cons_of_pos (by simpa using hy), lb_count h.2, Bt.lb, if_pos hy]
    · rw [List.countP_cons_of_neg (by simpa using hy), Bt.lb, if_neg hy, List.countP_eq_zero]
      intro z hz
      have := h.1 z hz
      simp
      omega
theorem bs_own (w : World) (v : Value) (l : List Int) (x : Int) (h : OwnR inE w 0 3 v l) (hu : Bt.Up l) (hl : l.length ≤ 100000) :
    Calls Try.prog 35 #[v, .int .i64 x] w fun e w' => e = .returned (.tuple #[.int .i64 (Bt.lb x l : Nat), .bool (Bt.hasK l x)]) ∧ Fr [] w w' := by
  have hb : Bt.hasK l x = l.contains x := by
    rw [Bt.hasK_mem hu]
    by_cases hm : x ∈ l
    · rw [decide_eq_true hm]; simp [hm]
    · rw [decide_eq_false hm]; simp [hm]
  rcases h.2 with ⟨rfl, hn⟩ | ⟨g, cap, cur, rfl, _, hg, hc, hm, hs, ht⟩
  · have hx := List.eq_nil_of_length_eq_zero hn
    subst hx
    refine (Any.slices_BinarySearch_int_empty Try.lays2x25 none 0 x w).mono ?_
    rintro e w' ⟨rfl, rfl⟩
    exact ⟨rfl, Fr.refl _ _⟩
  · have hcell : ∀ j, j < l.length → w.cell? ⟨g, 0 + j, none⟩ = some (.int .i64 (l.getD j 0)) := fun j hj => by
      rw [Nat.zero_add, cell_of_row w g j cur _ _ hg]
      have h3 := inE.cells_get l j 0 hj (by decide)
      rw [← ht, List.getElem?_take, show j * inE.k + 0 = j from by show j * 1 + 0 = j; omega] at h3
      split at h3
      · simpa [inE, List.getD, hj] using h3
      · simp [inE] at h3
    have hp : (l.take l.length).Pairwise (· ≤ ·) := by
      rw [List.take_length]
      exact hu.imp (fun h => by omega)
    refine (Any.slices_BinarySearch_int Try.lays2x25 g 0 l.length cap l x w (Nat.le_refl _) (by omega) hcell hp).mono ?_
    rintro e w' ⟨rfl, q, rfl⟩
    rw [List.take_length, lb_count hu, ← hb]
    exact ⟨rfl, (Fr.refl _ _).drewN q⟩
end Ytokbhiokcoldbaa
end Go.Proofs
