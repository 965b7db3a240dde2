/- Rows of integers: literals, an element, a tail. -/
import Derived.Test.YtokbhiokcoldbaaCommon
import Derived.Test.YtokbhiokcoldbaaCAll
namespace Go.Proofs.Ytokbhiokcoldbaa
open Go.RowKit

theorem Own.slice' {w : World} {B e : Nat} {v : Value} {xs : List Int} (h : Own w B e v xs) : ∃ A c, v = .slice A xs.length c := by
  obtain ⟨_, _, hs⟩ := h.sl
  obtain ⟨A, _, c, rfl, _⟩ := hs.form
  exact ⟨_, _, rfl⟩
theorem sl_lit1 (w : World) (x : Int) : Sl (w.alloc (.cells #[.int .i64 x] 3)) (.slice (some ⟨w.heap.size, 0, none⟩) 1 1) w.heap.size [x] := sl_new [x] (heap_alloc_new w _) (by simp; decide)
theorem sl_lit2 (w : World) (x y : Int) : Sl (w.alloc (.cells #[.int .i64 x, .int .i64 y] 3)) (.slice (some ⟨w.heap.size, 0, none⟩) 2 2) w.heap.size [x, y] := sl_new [x, y] (heap_alloc_new w _) (by simp; decide)
theorem Sl.form2 {w : World} {v : Value} {g : Nat} {xs : List Int} (h : Sl w v g xs) (h0 : 0 < xs.length) : ∃ o c, v = .slice (some ⟨g, o, none⟩) xs.length c ∧ xs.length ≤ c ∧ c ≤ maxLen ∧ ∀ i, i < xs.length → w.cell? ⟨g, o + i, none⟩ = some (.int .i64 (nth xs i)) := by
  rcases h with ⟨rfl, _⟩ | h
  · simp at h0
  · exact h
theorem Sl.cellAt {w : World} {g o n c : Nat} {xs : List Int} (h : Sl w (.slice (some ⟨g, o, none⟩) n c) g xs) {i : Nat} (hi : i < xs.length) : w.cell? ⟨g, o + i, none⟩ = some (.int .i64 (nth xs i)) := by
  obtain ⟨A', o1, c1, e0, -, q1, q2⟩ := h.form
  injection e0 with e0 _ _
  rw [q1 (by omega)] at e0
  injection e0 with e0
  injection e0 with _ e0 _
  subst e0
  exact q2 i hi
/-- 'l[1:]' of a list of two numbers or more. -/
theorem Sl.tail {w : World} {g o c : Nat} {xs : List Int} (hc : ∀ i, i < xs.length → w.cell? ⟨g, o + i, none⟩ = some (.int .i64 (nth xs i))) (h1 : xs.length ≤ c) (h2 : c ≤ maxLen) : Sl w (.slice (some ⟨g, o + 1, none⟩) (xs.length - 1) (c - 1)) g xs.tail := by
  refine .inr ⟨o + 1, c - 1, by rw [List.length_tail], by rw [List.length_tail]; omega, by omega, fun i hi => ?_⟩
  rw [List.length_tail] at hi
  rw [Nat.add_assoc, Nat.add_comm 1 i, hc (i + 1) (by omega)]
  simp [nth, List.getD]
end Go.Proofs.Ytokbhiokcoldbaa
