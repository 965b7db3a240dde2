/- An image in a variable of its own, beside rows that grow. -/
import Derived.Test.YtbohlbnbaomkiaaFkImg
import Derived.Test.YtbohlbnbaomkiaaOwn2
namespace Go.Proofs.Ytbohlbnbaomkiaa
open Go.RowKit

/-- What the loops of the law know: the image in block wb, the rows of the law's own. -/
structure SaySt (w0 wr : World) (wb : Nat) (bc be : Value) (rs : List Row) : Prop where
  box : Im2 wr wb bc be
  rows : Rows_ wr (wb + 1) rs
  fr : Fr [] w0 wr
  ge : w0.heap.size ≤ wb
section
variable {w0 wr w' : World} {wb : Nat} {bc be : Value} {rs rs' : List Row}
theorem SaySt.step (h : SaySt w0 wr wb bc be rs) (hf : Fr [] wr w') : SaySt w0 w' wb bc be rs := ⟨hf.get h.box (by simp), h.rows.fr hf (by simp), h.fr.trans hf, h.ge⟩
theorem SaySt.lt (h : SaySt w0 wr wb bc be rs) : wb < wr.heap.size := lt_of_heap h.box
theorem SaySt.grow (h : SaySt w0 wr wb bc be rs) {r : Row} (hr : r.in wr (wb + 1)) (hg : wr.grownBy w' r.v.ownBlock) (h' : Rows_ w' (wb + 1) rs') : SaySt w0 w' wb bc be rs' :=
  ⟨(hg.block wb h.lt (fun e => by have := (Row.ge hr wb e.symm).1; omega)).trans h.box, h', h.fr.push hr hg (by have := h.ge; omega), h.ge⟩
theorem SaySt.put0 (h : SaySt w0 wr wb bc be rs) (v : Value) : SaySt w0 (wr.setCell ⟨wb, 0, none⟩ v) wb v be rs :=
  have hf : Fr [wb] wr (wr.setCell ⟨wb, 0, none⟩ v) := (Fr.refl _ wr).setCell (.inl (by simp)) _
  ⟨set_block h.box v, h.rows.fr hf (by simp), h.fr.step hf (fun x hx => .inr (by simp only [List.mem_singleton] at hx; subst hx; exact h.ge)), h.ge⟩
theorem SaySt.put1 (h : SaySt w0 wr wb bc be rs) (v : Value) : SaySt w0 (wr.setCell ⟨wb, 1, none⟩ v) wb bc v rs :=
  have hf : Fr [wb] wr (wr.setCell ⟨wb, 1, none⟩ v) := (Fr.refl _ wr).setCell (.inl (by simp)) _
  ⟨set_block h.box v, h.rows.fr hf (by simp), h.fr.step hf (fun x hx => .inr (by simp only [List.mem_singleton] at hx; subst hx; exact h.ge)), h.ge⟩
end
theorem im2_at (w : World) (c e : Value) {w' : World} (hf : Fr [] (w.alloc (.cells #[c, e] 25)) w') : w'.cell? ⟨w.heap.size, 0, none⟩ = some c ∧ w'.cell? ⟨w.heap.size, 1, none⟩ = some e := Im2.cells (hf.get (im2_new w c e) (by simp))
theorem sl_nil (w : World) : Sl w (.slice none 0 0) 0 [] := .inl ⟨rfl, none, 0, rfl⟩
theorem imV_nil (w : World) : ImV w (.agg #[.slice none 0 0, .slice none 0 0]) [] [] := ⟨_, _, 0, 0, rfl, sl_nil w, .inl ⟨rfl, none, 0, rfl⟩⟩
theorem Own.slice {w : World} {B e : Nat} {v : Value} {xs : List Int} (h : Own w B e v xs) : ∃ A n c, v = .slice A n c := by
  obtain ⟨_, _, hs⟩ := h.sl
  obtain ⟨A, _, c, rfl, _⟩ := hs.form
  exact ⟨_, _, _, rfl⟩
end Go.Proofs.Ytbohlbnbaomkiaa
