/- An element of several cells within a row: its part of the block. No program in sight. -/
import Derived.Test.YtcldaaebncclmaaDoorEnc
namespace Go.Proofs.YtcldaaebncclmaaDoor
open Go.RowKit

theorem cell_block {w : World} {g p : Nat} {a : Value} (h : w.cell? ⟨g, p, none⟩ = some a) : ∃ cur t fr, w.heap[g]? = some (.cells cur t fr) ∧ cur[p]? = some a := by
  unfold World.cell? at h
  cases hg : w.heap[g]? with
  | none => simp [hg] at h
  | some ob =>
    cases ob with
    | cells cur t fr => exact ⟨cur, t, fr, rfl, by simpa [hg] using h⟩
    | _ => simp [hg] at h
theorem part_of_cells {w : World} {g p k : Nat} (vs : List Value) (hk : vs.length = k) (h0 : 0 < k) (h : ∀ r, r < k → w.cell? ⟨g, p + r, none⟩ = vs[r]?) :
    ∃ cur t fr, w.heap[g]? = some (.cells cur t fr) ∧ p + k ≤ cur.size ∧ ((cur.toList.drop p).take k).toArray = vs.toArray := by
  have hx : ∀ r, r < k → ∃ a, vs[r]? = some a := fun r hr => ⟨_, List.getElem?_eq_getElem (by omega)⟩
  obtain ⟨a, ha⟩ := hx 0 h0
  obtain ⟨cur, t, fr, hg, -⟩ := cell_block ((h 0 h0).trans ha)
  have hall : ∀ r, r < k → cur[p + r]? = vs[r]? := fun r hr => by
    obtain ⟨b, hb⟩ := hx r hr
    obtain ⟨c1, t1, f1, g1, q1⟩ := cell_block ((h r hr).trans hb)
    rw [hg] at g1
    injection g1 with g1
    injection g1 with e1
    subst e1
    rw [hb]
    exact q1
  refine ⟨cur, t, fr, hg, ?_, ?_⟩
  · obtain ⟨b, hb⟩ := hx (k - 1) (by omega)
    have := (Array.getElem?_eq_some_iff.1 ((hall (k - 1) (by omega)).trans hb)).1
    omega
  · congr 1
    apply List.ext_getElem?
    intro i
    rw [List.getElem?_take]
    split
    · rename_i hi
      rw [List.getElem?_drop, Array.getElem?_toList]
      exact hall i hi
    · rename_i hi
      rw [List.getElem?_eq_none (by omega)]
theorem SlR.part {α : Type} {E : Enc α} {w : World} {g o n c : Nat} {l : List α} (h : SlR E w (.slice (some ⟨g, o, none⟩) n c) g l) {i : Nat} (hi : i < l.length) :
    ∃ cur t fr, w.heap[g]? = some (.cells cur t fr) ∧ o + i * E.k + E.k ≤ cur.size ∧ ((cur.toList.drop (o + i * E.k)).take E.k).toArray = (E.enc l[i]).toArray := by
  rcases h with ⟨rfl, _⟩ | ⟨o', c', e, -, -, h⟩
  · simp at hi
  · injection e with e1 _ _
    injection e1 with e1
    injection e1 with _ e1 _
    subst e1
    exact part_of_cells _ (E.len _) E.pos (h i hi)
theorem SlR.any {α : Type} {E : Enc α} {w : World} {v : Value} {g : Nat} {l : List α} (h : SlR E w v g l) (hl : l = []) (k : Nat) : SlR E w v k l := by
  subst hl
  rcases h with h | ⟨o, c, h0, -⟩
  · exact .inl h
  · exact .inl ⟨rfl, _, c, h0⟩
theorem SlR.lt {α : Type} {E : Enc α} {w : World} {v : Value} {g : Nat} {l : List α} (h : SlR E w v g l) (hl : l ≠ []) : g < w.heap.size := by
  rcases h with ⟨h, -⟩ | ⟨o, c, h0, h1, h2, h3⟩
  · exact absurd h hl
  · have h4 := h3 0 (List.length_pos_iff.2 hl) 0 E.pos
    have hlt : 0 < (E.enc (l[0]'(List.length_pos_iff.2 hl))).length := by rw [E.len]; exact E.pos
    rw [List.getElem?_eq_getElem hlt] at h4
    exact block_lt_of_cell h4
end Go.Proofs.YtcldaaebncclmaaDoor
