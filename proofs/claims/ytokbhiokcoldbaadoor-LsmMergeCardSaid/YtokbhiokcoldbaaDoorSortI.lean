/- slices.Sort at a row of integers that the call owns, off the shelf. -/
import Derived.Shelf.Lay
import Derived.Shelf.Sort.Plain
import Derived.Shelf.Slices.In.SortNone
import Derived.Test.YtokbhiokcoldbaaDoorCommon
import Derived.Test.YtokbhiokcoldbaaDoorLsModel2
namespace Go.Proofs
open Go.Shelf
shelf_lay Lays.n189 Nm 189 at Tryd as Tryd.lays189
namespace YtokbhiokcoldbaaDoor
open Go.RowKit Go.Lib Go.Sort

theorem fr_sorted (w : World) (g o n : Nat) (d : Array Int) (os : Array Obj) : Fr [g] w (grow (putRow (Value.int .i64) (Sort.ahead w n) g o d) os) := by
  refine ⟨rfl, rfl, rfl, ?_, fun k hk hn => ?_⟩
  · rw [size_grow, size_putRow]
    exact Nat.le_add_right _ _
  · have hne : g ≠ k := by rintro rfl; simp at hn
    show (((Sort.ahead w n).heap.modify g _) ++ os)[k]? = _
    rw [Array.getElem?_append_left (by rw [Array.size_modify]; exact hk), Array.getElem?_modify, if_neg hne]
    rfl
theorem sort_own (w : World) (B : Nat) (v : Value) (xs : List Int) (h : Own w B 3 v xs) (hl : xs.length ≤ 100000) :
    Calls Tryd.prog 76 #[v] w fun e w' => e = .returned (.tuple #[]) ∧ (∃ g, (B ≤ g ∨ xs = []) ∧ Sl w' v g (Ls.srt xs)) ∧ Fr v.ownBlock.toList w w' := by
  obtain ⟨h1, h2⟩ := h
  rcases h2 with ⟨rfl, hn⟩ | ⟨g, cap, cur, rfl, hb, hg, hc, hm, hs, ht⟩
  · have hx := List.eq_nil_of_length_eq_zero hn
    subst hx
    refine (Any.slices_Sort_int_none Tryd.lays189 none 0 w).mono ?_
    rintro e w' ⟨rfl, rfl⟩
    exact ⟨rfl, ⟨0, .inr rfl, .inl ⟨by simp [Ls.srt], none, 0, rfl⟩⟩, Fr.refl _ _⟩
  · have hcell : ∀ j, j < xs.length → w.cell? ⟨g, j, none⟩ = some (.int .i64 (nth xs j)) := fun j hj => by
      rw [cell_of_row w g j cur _ _ hg]
      have h3 : cur.toList[j]? = (xs.map (Value.int .i64))[j]? := by rw [← ht, List.getElem?_take, if_pos (by omega)]
      simpa [hj, nth, List.getD] using h3
    have hH : Holds (Value.int .i64) w g 0 xs.toArray := fun j hj => by
      have hj' : j < xs.length := by simpa using hj
      refine ⟨?_, free_block hg _ _⟩
      rw [Nat.zero_add, hcell j hj', getElem!_pos _ j (by simpa using hj')]
      simp [nth, List.getD, hj']
    refine (Any.slices_Sort_int Tryd.lays189 g 0 cap xs w hH (lt_of_heap hg) (by omega)).mono ?_
    rintro e w' ⟨rfl, n, os, rfl⟩
    have hls : (Ls.srt xs).length = xs.length := (Ls.srt_perm xs).length_eq
    refine ⟨rfl, ⟨g, .inl hb, .inr ⟨0, cap, by rw [hls], by rw [hls]; exact hc, hm, fun i hi => ?_⟩⟩, fr_sorted w g 0 n _ os⟩
    have hp := cell?_putRow (Value.int .i64) (Sort.ahead w n) g 0 xs.toArray (xs.mergeSort fun x y => decide (x ≤ y)).toArray (holds_ahead _ w n g 0 _ hH) (by simp) i (by rw [hls] at hi; simpa using hi)
    have hgr : (grow (putRow (Value.int .i64) (Sort.ahead w n) g 0 (xs.mergeSort fun x y => decide (x ≤ y)).toArray) os).cell? ⟨g, 0 + i, none⟩ = (putRow (Value.int .i64) (Sort.ahead w n) g 0 (xs.mergeSort fun x y => decide (x ≤ y)).toArray).cell? ⟨g, 0 + i, none⟩ := by
      refine World.cell?_of_block ?_
      show ((putRow _ _ _ _ _).heap ++ os)[g]? = _
      rw [Array.getElem?_append_left (by rw [size_putRow]; exact lt_of_heap hg)]
    rw [hgr, hp, getElem!_pos _ i (by rw [hls] at hi; simpa using hi)]
    have hi2 : i < (xs.mergeSort fun x y => decide (x ≤ y)).length := hi
    simp only [nth, List.getD, Ls.srt]
    rw [List.getElem?_eq_getElem hi2]
    rfl
end YtokbhiokcoldbaaDoor
end Go.Proofs
