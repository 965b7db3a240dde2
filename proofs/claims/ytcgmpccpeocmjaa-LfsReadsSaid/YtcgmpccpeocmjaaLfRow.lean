/- A disk and a row beside it, of eight numbers: what the loops of LfsReads and LfsLive know. -/
import Derived.Test.YtcgmpccpeocmjaaLfFact
import Derived.Deep.OwnRows
namespace Go.Proofs.Ytcgmpccpeocmjaa
open Go.RowKit

theorem LfD.keepOff {B : Nat} {w w' : World} {b : Nat} {d : Lf.D} {S : List Nat} (h : LfD B w b d) (hf : Fr S w w') (hS : ∀ g ∈ S, ¬ Foot w b g) : LfD B w' b d := by
  obtain ⟨vs, h1, h2, h3, h4⟩ := h.main
  refine ⟨h.ge, vs, h1, hf.get h2 (fun hb => hS b hb (.inl rfl)), fun i hi => ⟨(h3 i hi).1.kept hf (fun g hg e => hS g hg (.inr ⟨i, _, hi, ?_, e⟩)), (h3 i hi).2⟩, h4⟩
  rw [cell_of_row w b i _ _ _ h2, lfRow_seg h1 hi]
/-- The disk, the row (in block lb, none of the disk's own). -/
structure RdSt (B : Nat) (w wr : World) (b lb : Nat) (d : Lf.D) (last : List Int) : Prop where
  disk : LfD B wr b d
  ok : Lf.OK d
  len : last.length = 8
  row : wr.heap[lb]? = some (.cells (ints last) 3 (0, 0))
  apart : ¬ Foot wr b lb
  ge : B ≤ lb
  below : Below B w wr
  size : w.heap.size ≤ wr.heap.size
section
variable {B : Nat} {w wr : World} {b lb : Nat} {d : Lf.D} {last : List Int}
theorem RdSt.fr {w' : World} (h : RdSt B w wr b lb d last) (hf : Fr [] wr w') (hB : B ≤ wr.heap.size) : RdSt B w w' b lb d last :=
  ⟨h.disk.keep hf, h.ok, h.len, hf.get h.row (by simp), fun hx => h.apart (h.disk.footFr hf _ hx), h.ge, h.below.trans (hf.toBelow hB (by simp)), Nat.le_trans h.size hf.size⟩
theorem RdSt.ans {v : Value} {d' : Lf.D} {e : Ending} {w' : World} (h : RdSt B w wr b lb d last) (ha : LfAns B b v d' wr e w') (hO : Lf.OK d') : RdSt B w w' b lb d' last :=
  ⟨ha.2.1, hO, h.len, (ha.2.2.2.2.1 lb (lt_of_heap h.row) h.apart).trans h.row, fun hf => (ha.2.2.2.2.2 lb hf).elim h.apart (fun h2 => by have := lt_of_heap h.row; omega), h.ge, h.below.trans ha.2.2.1, Nat.le_trans h.size ha.2.2.2.1⟩
theorem RdSt.put (h : RdSt B w wr b lb d last) (q : Nat) (x : Int) : RdSt B w (wr.setCell ⟨lb, q, none⟩ (.int .i64 x)) b lb d (last.set q x) := by
  have hf : Fr [lb] wr (wr.setCell ⟨lb, q, none⟩ (.int .i64 x)) := (Fr.refl _ wr).setCell (.inl (by simp)) _
  have hn : ∀ g ∈ [lb], ¬ Foot wr b g := fun g hg => by simp only [List.mem_singleton] at hg; subst hg; exact h.apart
  refine ⟨h.disk.keepOff hf hn, h.ok, by simp [h.len], set_ints h.row x, ?_, h.ge, h.below.trans ((Below.refl _ _).setCell h.ge _), by simpa [World.setCell] using h.size⟩
  obtain ⟨vs, h1, h2, _⟩ := h.disk.main
  have hbl : b ∉ [lb] := fun hb => by simp only [List.mem_singleton] at hb; subst hb; exact h.apart (.inl rfl)
  rintro (rfl | ⟨i, u, hi, hu, hk⟩)
  · exact hbl (by simp)
  · refine h.apart (.inr ⟨i, u, hi, ?_, hk⟩)
    rw [cell_of_row _ b i _ _ _ (hf.get h2 hbl)] at hu
    rw [cell_of_row wr b i _ _ _ h2]
    exact hu
end
theorem nth_set (l : List Int) (q : Nat) (x : Int) (i : Nat) (h : q < l.length) : nth (l.set q x) i = if q = i then x else nth l i := by
  unfold nth
  simp only [List.getD_eq_getElem?_getD, List.getElem?_set]
  split
  · rename_i e; subst e; simp
  · rfl
/-- make([]int, 8). -/
theorem make8 (W : World) : (Instr.makeSlice 26 (.int .i64 8) (.int .i64 8)).run Try.prog W = .ok (.slice (some ⟨W.heap.size, 0, none⟩) 8 8) (W.alloc (.cells (ints [0, 0, 0, 0, 0, 0, 0, 0]) 3)) := by
  have h := run_make_row' (P := Try.prog) 26 3 (.int .i64 0) 8 Try.underlying26 Try.info_int rfl .i64 .i64 8 (by decide) (by decide) W
  rw [show madeCells #[Value.int .i64 0] 8 = ints [0, 0, 0, 0, 0, 0, 0, 0] from by kernel_rfl] at h
  exact h
end Go.Proofs.Ytcgmpccpeocmjaa
