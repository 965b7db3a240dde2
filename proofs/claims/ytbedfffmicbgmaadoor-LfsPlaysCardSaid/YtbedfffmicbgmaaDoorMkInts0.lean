/- make([]int, n) for a small n. -/
import Derived.Test.YtbedfffmicbgmaaDoorCommon
import Derived.Deep.OwnRows
namespace Go.Proofs.YtbedfffmicbgmaaDoor
open Go.RowKit

theorem sl_new {w : World} {g : Nat} {t : TypeId} {fr : Nat × Nat} (xs : List Int) (h : w.heap[g]? = some (.cells (ints xs) t fr)) (hl : xs.length ≤ maxLen) : Sl w (.slice (some ⟨g, 0, none⟩) xs.length xs.length) g xs :=
  .inr ⟨0, xs.length, rfl, Nat.le_refl _, hl, fun i hi => by rw [Nat.zero_add]; exact cell_ints h hi⟩
theorem mk_ints (n : Nat) (hn : n ≤ 1000) (W : World) : (Instr.makeSlice 25 (.int .i64 n) (.int .i64 n)).run Tryd.prog W = .ok (.slice (some ⟨W.heap.size, 0, none⟩) n n) (W.alloc (.cells (ints (List.replicate n 0)) 3)) := by
  have h := run_make_row' (P := Tryd.prog) 25 3 (.int .i64 0) 8 Tryd.underlying25 Tryd.info_int rfl .i64 .i64 n (by omega) (by omega) W
  rw [show madeCells #[Value.int .i64 0] n = ints (List.replicate n 0) from by
    apply Array.ext'
    rw [toList_madeCells_one, ints_toList, List.map_replicate]] at h
  exact h
/-- A row of n noughts. A word of its own. -/
def mkz (n : Nat) : Array Value := ints (List.replicate n 0)
theorem mk_z (n : Nat) (hn : n ≤ 1000) (m : Int) (hm : (n : Int) = m) : ∀ W, (Instr.makeSlice 25 (.int .i64 m) (.int .i64 m)).run Tryd.prog W = .ok (.slice (some ⟨W.heap.size, 0, none⟩) n n) (W.alloc (.cells (mkz n) 3)) := by
  subst hm
  exact mk_ints n hn
theorem mkz_sl (w : World) (n : Nat) (hn : n ≤ 1000) {w' : World} (hf : Fr [] (w.alloc (.cells (mkz n) 3)) w') : Sl w' (.slice (some ⟨w.heap.size, 0, none⟩) n n) w.heap.size (List.replicate n 0) := by
  have h := hf.get (heap_alloc_new w (.cells (mkz n) 3)) (by simp)
  have := sl_new (List.replicate n 0) h (by unfold maxLen; simp; omega)
  rw [List.length_replicate] at this
  exact this
end Go.Proofs.YtbedfffmicbgmaaDoor
