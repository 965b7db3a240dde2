/- A table of open files in memory: what a store, a new block, a draw make of it. -/
import Derived.Test.YtmgalnkcpolafaaDoorCommon
import Derived.Test.YtmgalnkcpolafaaDoorFdPlain
namespace Go.Proofs.YtmgalnkcpolafaaDoor
open Go.RowKit

def ptrV (x : Option Nat) : Value := .pointer (x.map fun o => ⟨o, 0, none⟩)
def fdSlots (t : Fd.T) : Array Value := (t.sl.map ptrV).toArray
def fdOpen (x : Int × Int) : Array Value := #[.int .i64 x.1, .int .i64 x.2]
/-- Block b holds the table t; all of it lies from block B on. -/
structure FdT (B : Nat) (w : World) (b : Nat) (t : Fd.T) : Prop where
  ge : B ≤ b
  len : t.sl.length = 8
  tab : w.heap[b]? = some (.cells (fdSlots t) 73 (0, 0))
  open_ : ∀ i o, Fd.nthO t.sl i = some o → B ≤ o ∧ o ≠ b ∧ w.heap[o]? = some (.cells (fdOpen (t.f o)) 68 (0, 0))

section
variable {B : Nat} {w : World} {b : Nat} {t : Fd.T}
theorem FdT.slot (h : FdT B w b t) {i : Nat} (hi : i < 8) : w.cell? ⟨b, i, none⟩ = some (ptrV (Fd.nthO t.sl i)) := by
  rw [cell_of_row w b i _ _ _ h.tab]
  have := h.len
  simp [fdSlots, Fd.nthO, List.getD, show i < t.sl.length by omega]
theorem FdT.size (h : FdT B w b t) {i o : Nat} (ho : Fd.nthO t.sl i = some o) : w.cell? ⟨o, 0, none⟩ = some (.int .i64 (t.f o).1) := by
  rw [cell_of_row w o 0 _ _ _ (h.open_ i o ho).2.2]; rfl
theorem FdT.at_ (h : FdT B w b t) {i o : Nat} (ho : Fd.nthO t.sl i = some o) : w.cell? ⟨o, 1, none⟩ = some (.int .i64 (t.f o).2) := by
  rw [cell_of_row w o 1 _ _ _ (h.open_ i o ho).2.2]; rfl
theorem FdT.free_slot (h : FdT B w b t) (i : Nat) : w.frozen? ⟨b, i, none⟩ = false := free_block h.tab i none
theorem FdT.free_open (h : FdT B w b t) {i o : Nat} (ho : Fd.nthO t.sl i = some o) (j : Nat) : w.frozen? ⟨o, j, none⟩ = false := free_block (h.open_ i o ho).2.2 j none
theorem FdT.kept {w' : World} {S : List Nat} (h : FdT B w b t) (hf : Fr S w w') (hS : ∀ x ∈ S, x ≠ b ∧ ∀ i, Fd.nthO t.sl i ≠ some x) : FdT B w' b t :=
  ⟨h.ge, h.len, hf.get h.tab (fun hm => (hS b hm).1 rfl), fun i o ho => ⟨(h.open_ i o ho).1, (h.open_ i o ho).2.1, hf.get (h.open_ i o ho).2.2 (fun hm => (hS o hm).2 i ho)⟩⟩
theorem FdT.keep {w' : World} (h : FdT B w b t) (hf : Fr [] w w') : FdT B w' b t := h.kept hf (by simp)
theorem FdT.fresh (h : FdT B w b t) : Fd.Fresh t w.heap.size := fun i e => by have := lt_of_heap (h.open_ i _ e).2.2; omega
theorem fdSlots_set (t : Fd.T) (i : Nat) (x : Option Nat) : (fdSlots t).setIfInBounds i (ptrV x) = fdSlots ⟨t.sl.set i x, t.f⟩ := by
  apply Array.ext'
  simp [fdSlots, List.map_set]
/-- A number that names what is named already, or nothing. -/
theorem FdT.setSlot (h : FdT B w b t) {i : Nat} (hi : i < 8) (x : Option Nat) (hx : ∀ o, x = some o → ∃ j, Fd.nthO t.sl j = some o) : FdT B (w.setCell ⟨b, i, none⟩ (ptrV x)) b ⟨t.sl.set i x, t.f⟩ :=
  ⟨h.ge, by simp [h.len], by rw [set_block h.tab, fdSlots_set], fun j o ho => by
    have hj : ∃ j, Fd.nthO t.sl j = some o := by
      simp only at ho
      rw [Fd.nthO_set _ _ _ _ (by rw [h.len]; exact hi)] at ho
      split at ho
      · exact hx o ho
      · exact ⟨j, ho⟩
    obtain ⟨j', hj'⟩ := hj
    obtain ⟨h1, h2, h3⟩ := h.open_ j' o hj'
    exact ⟨h1, h2, by rw [heap_setCell_other _ _ _ _ h2]; exact h3⟩⟩
/-- A number that names a block that was made since. -/
theorem FdT.setNew (h : FdT B w b t) {i o : Nat} (hi : i < 8) (hB : B ≤ o) (hob : o ≠ b) (x : Int × Int) (ho : w.heap[o]? = some (.cells (fdOpen x) 68 (0, 0))) (hf : Fd.Fresh t o) :
    FdT B (w.setCell ⟨b, i, none⟩ (ptrV (some o))) b ⟨t.sl.set i (some o), Fd.upd t.f o x⟩ :=
  ⟨h.ge, by simp [h.len], by rw [set_block h.tab, fdSlots_set]; rfl, fun j k hk => by
    simp only at hk ⊢
    rw [Fd.nthO_set _ _ _ _ (by rw [h.len]; exact hi)] at hk
    by_cases e : k = o
    · subst e
      exact ⟨hB, hob, by rw [heap_setCell_other _ _ _ _ hob]; simpa [Fd.upd] using ho⟩
    · have hk' : Fd.nthO t.sl j = some k := by
        split at hk
        · injection hk with hk; exact absurd hk.symm e
        · exact hk
      obtain ⟨h1, h2, h3⟩ := h.open_ j k hk'
      exact ⟨h1, h2, by rw [heap_setCell_other _ _ _ _ h2]; simpa [Fd.upd, e] using h3⟩⟩
/-- The place of what a number names is another one. -/
theorem FdT.setAt (h : FdT B w b t) {i o : Nat} (ho : Fd.nthO t.sl i = some o) (a : Int) : FdT B (w.setCell ⟨o, 1, none⟩ (.int .i64 a)) b ⟨t.sl, Fd.upd t.f o ((t.f o).1, a)⟩ := by
  obtain ⟨o1, o2, o3⟩ := h.open_ i o ho
  refine ⟨h.ge, h.len, by rw [heap_setCell_other _ _ _ _ (Ne.symm o2)]; exact h.tab, fun j k hk => ?_⟩
  obtain ⟨h1, h2, h3⟩ := h.open_ j k hk
  refine ⟨h1, h2, ?_⟩
  by_cases e : k = o
  · subst e
    rw [set_block h3]
    simp [Fd.upd, fdOpen]
  · rw [heap_setCell_other _ _ _ _ e]
    simpa [Fd.upd, e] using h3
end
theorem Below.ofCell {B : Nat} {w : World} {b i : Nat} (hb : B ≤ b) (v : Value) : Below B w (w.setCell ⟨b, i, none⟩ v) := (Below.refl B w).setCell hb v
end Go.Proofs.YtmgalnkcpolafaaDoor
