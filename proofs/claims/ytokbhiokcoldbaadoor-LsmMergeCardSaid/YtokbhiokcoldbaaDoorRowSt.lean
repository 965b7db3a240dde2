/- Rows that are none of an object's blocks, through what the object does. -/
import Derived.Test.YtokbhiokcoldbaaDoorFrP
import Derived.Test.YtokbhiokcoldbaaDoorCClone
namespace Go.Proofs.YtokbhiokcoldbaaDoor
open Go.RowKit

/-- A row that is none of the disk's. -/
def RowO (P : Nat → Prop) (w : World) (v : Value) (xs : List Int) : Prop := ∃ g, (xs = [] ∨ (¬ P g ∧ g < w.heap.size)) ∧ Sl w v g xs
/-- The blocks behind a step. -/
def Nx (P : Nat → Prop) (wr w' : World) (k : Nat) : Prop := OrNew P wr k ∧ k < w'.heap.size
section
variable {w wr w' : World} {P : Nat → Prop} {v : Value} {xs : List Int}
theorem RowO.step (h : RowO P wr v xs) (hf : Fr [] wr w') : RowO P w' v xs := by
  obtain ⟨g, hg, hs⟩ := h
  exact ⟨g, hg.imp_right (fun hg => ⟨hg.1, Nat.lt_of_lt_of_le hg.2 hf.size⟩), hs.fr hf (by simp)⟩
theorem RowO.turn (h : RowO P wr v xs) (hf : FrP P wr w') : RowO (Nx P wr w') w' v xs := by
  obtain ⟨g, hg, hs⟩ := h
  exact ⟨g, hg.imp_right (fun hg => ⟨fun hn => hn.1.elim hg.1 (fun hp => by omega), Nat.lt_of_lt_of_le hg.2 hf.size⟩), hs.frP hf (hg.imp_right (fun hg => hg.1))⟩
theorem RowO.sl (h : RowO P w v xs) : ∃ g, Sl w v g xs := by
  obtain ⟨g, _, hs⟩ := h
  exact ⟨g, hs⟩
theorem RowO.ofR (hP : ∀ k, P k → k < wr.heap.size) {e : Ending} (hn : NewRow xs wr e w') : ∃ v, e = .returned v ∧ RowO P w' v xs ∧ Fr [] wr w' := by
  obtain ⟨v, g, rfl, hg, hs, hf⟩ := hn
  refine ⟨v, rfl, ⟨g, ?_, hs⟩, hf⟩
  by_cases hx : xs = []
  · exact .inl hx
  · refine .inr ⟨fun hp => ?_, ?_⟩
    · have := hP g hp
      have := hg.resolve_right hx
      omega
    · obtain ⟨A, o, c, rfl, -, -, hc⟩ := hs.form
      exact block_lt_of_cell (hc 0 (List.length_pos_iff.2 hx))
end
end Go.Proofs.YtokbhiokcoldbaaDoor
