/- Rows of structs that are none of an object's blocks, through what the object does. No program in sight. -/
import Derived.Test.YtcldaaebncclmaaDoorRowSt
import Derived.Test.YtcldaaebncclmaaDoorPart
namespace Go.Proofs.YtcldaaebncclmaaDoor
open Go.RowKit

theorem SlR.frP {α : Type} {E : Enc α} {P : Nat → Prop} {w w' : World} {v : Value} {g : Nat} {l : List α} (h : SlR E w v g l) (hf : FrP P w w') (hg : l = [] ∨ ¬ P g) : SlR E w' v g l := by
  rcases h with h | ⟨o, c, h0, h1, h2, h3⟩
  · exact .inl h
  · rcases hg with rfl | hg
    · exact .inr ⟨o, c, h0, h1, h2, fun i hi => absurd hi (by simp)⟩
    · refine .inr ⟨o, c, h0, h1, h2, fun i hi r hr => ?_⟩
      have h4 := h3 i hi r hr
      have hlt : r < (E.enc l[i]).length := by rw [E.len]; exact hr
      rw [List.getElem?_eq_getElem hlt] at h4 ⊢
      exact hf.cell h4 hg
/-- A row of structs that is none of P's blocks. -/
def RowE {α : Type} (E : Enc α) (P : Nat → Prop) (w : World) (v : Value) (xs : List α) : Prop := ∃ g, (xs = [] ∨ (¬ P g ∧ g < w.heap.size)) ∧ SlR E w v g xs
section
variable {α : Type} {E : Enc α} {w w' : World} {P P' : Nat → Prop} {v : Value} {xs : List α}
theorem RowE.of {g : Nat} (h : SlR E w v g xs) (hg : ¬ P g) : RowE E P w v xs := by
  refine ⟨g, ?_, h⟩
  by_cases hx : xs = []
  · exact .inl hx
  · exact .inr ⟨hg, h.lt hx⟩
theorem RowE.fr {S : List Nat} (h : RowE E P w v xs) (hf : Fr S w w') (hS : ∀ x ∈ S, P x) : RowE E P w' v xs := by
  obtain ⟨g, hg, hs⟩ := h
  rcases hg with hg | hg
  · subst hg
    rcases hs with hs | ⟨o, c, h0, -⟩
    · exact ⟨g, .inl rfl, .inl hs⟩
    · exact ⟨g, .inl rfl, .inl ⟨rfl, _, c, h0⟩⟩
  · exact ⟨g, .inr ⟨hg.1, Nat.lt_of_lt_of_le hg.2 hf.size⟩, hs.fr hf (fun hm => hg.1 (hS g hm))⟩
theorem RowE.turn {R : Nat → Prop} (h : RowE E P w v xs) (hf : FrP R w w') (hR : ∀ k, R k → P k) (hP : ∀ k, k < w.heap.size → P' k → P k) : RowE E P' w' v xs := by
  obtain ⟨g, hg, hs⟩ := h
  exact ⟨g, hg.imp_right (fun hg => ⟨fun hp => hg.1 (hP g hg.2 hp), Nat.lt_of_lt_of_le hg.2 hf.size⟩), hs.frP hf (hg.imp_right (fun hg hr => hg.1 (hR g hr)))⟩
theorem RowE.val (h : RowE E P w v xs) {k : Nat} (hk : ¬ P k) : ∃ g, ¬ P g ∧ SlR E w v g xs := by
  obtain ⟨g, hg, hs⟩ := h
  rcases hg with hg | hg
  · exact ⟨k, hk, hs.any hg k⟩
  · exact ⟨g, hg.1, hs⟩
theorem RowO.of1 {g : Nat} {xs : List Int} (h : Sl w v g xs) (hg : ¬ P g) : RowO P w v xs := by
  refine ⟨g, ?_, h⟩
  by_cases hx : xs = []
  · exact .inl hx
  · obtain ⟨A, o, c, rfl, -, -, hc⟩ := h.form
    exact .inr ⟨hg, block_lt_of_cell (hc 0 (List.length_pos_iff.2 hx))⟩
theorem RowO.frS {S : List Nat} {xs : List Int} (h : RowO P w v xs) (hf : Fr S w w') (hS : ∀ x ∈ S, P x) (hx : xs ≠ []) : RowO P w' v xs := by
  obtain ⟨g, hg, hs⟩ := h
  have hg := hg.resolve_left hx
  exact ⟨g, .inr ⟨hg.1, Nat.lt_of_lt_of_le hg.2 hf.size⟩, hs.fr hf (fun hm => hg.1 (hS g hm))⟩
theorem RowO.turn2 {R : Nat → Prop} {xs : List Int} (h : RowO P w v xs) (hf : FrP R w w') (hR : ∀ k, R k → P k) (hP : ∀ k, k < w.heap.size → P' k → P k) : RowO P' w' v xs := by
  obtain ⟨g, hg, hs⟩ := h
  exact ⟨g, hg.imp_right (fun hg => ⟨fun hp => hg.1 (hP g hg.2 hp), Nat.lt_of_lt_of_le hg.2 hf.size⟩), hs.frP hf (hg.imp_right (fun hg hr => hg.1 (hR g hr)))⟩
end
theorem Sl.lt {w : World} {v : Value} {g : Nat} {xs : List Int} (h : Sl w v g xs) (hx : xs ≠ []) : g < w.heap.size := by
  obtain ⟨A, o, c, rfl, -, -, hc⟩ := h.form
  exact block_lt_of_cell (hc 0 (List.length_pos_iff.2 hx))
end Go.Proofs.YtcldaaebncclmaaDoor
