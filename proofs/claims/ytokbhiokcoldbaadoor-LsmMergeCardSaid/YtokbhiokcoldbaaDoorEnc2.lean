/- Rows of structs whose block is rewritten: an element loaded whole, stored whole; the row cut; its tail cleared. No program in sight. -/
import Derived.Test.YtokbhiokcoldbaaDoorEnc
import Derived.Laws.CopyRow
namespace Go.Proofs.YtokbhiokcoldbaaDoor
open Go.RowKit
section
variable {α : Type} (E : Enc α)
theorem Enc.cells_part : ∀ (l : List α) (i : Nat) (h : i < l.length), ((E.cells l).drop (i * E.k)).take E.k = E.enc l[i]
  | [], i, h => by simp at h
  | a :: l, 0, h => by
    have e : E.cells (a :: l) = E.enc a ++ E.cells l := rfl
    rw [e, Nat.zero_mul, List.drop_zero, List.take_left' (E.len a)]
    rfl
  | a :: l, i + 1, h => by
    have e : E.cells (a :: l) = E.enc a ++ E.cells l := rfl
    rw [e, Nat.add_mul, Nat.one_mul, Nat.add_comm, ← List.drop_drop, List.drop_left' (E.len a)]
    exact Enc.cells_part l i (by simpa using h)
theorem Enc.cells_take (l : List α) (i : Nat) (h : i ≤ l.length) : (E.cells l).take (i * E.k) = E.cells (l.take i) := by
  have e : E.cells l = E.cells (l.take i) ++ E.cells (l.drop i) := by rw [← E.cells_append, List.take_append_drop]
  rw [e, List.take_left' (by rw [E.cells_len, List.length_take, Nat.min_eq_left h])]
/-- A block whose first cells are the row xs; there is room for cap elements. -/
def DfR (w : World) (e : TypeId) (g cap : Nat) (xs : List α) : Prop := ∃ cur, w.heap[g]? = some (.cells cur e (0, 0)) ∧ cur.size = cap * E.k ∧ xs.length ≤ cap ∧ cur.toList.take (xs.length * E.k) = E.cells xs
variable {E} {w w' : World} {e : TypeId} {g cap : Nat} {xs : List α}
theorem DfR.fr {S : List Nat} (h : DfR E w e g cap xs) (hf : Fr S w w') (hg : g ∉ S) : DfR E w' e g cap xs := by
  obtain ⟨cur, h1, h2⟩ := h
  exact ⟨cur, hf.get h1 hg, h2⟩
theorem DfR.cut (h : DfR E w e g cap xs) {n : Nat} (hn : n ≤ xs.length) : DfR E w e g cap (xs.take n) := by
  obtain ⟨cur, h1, h2, h3, h4⟩ := h
  refine ⟨cur, h1, h2, by rw [List.length_take]; omega, ?_⟩
  rw [List.length_take, Nat.min_eq_left hn, ← E.cells_take xs n hn, ← h4, List.take_take, Nat.min_eq_left (Nat.mul_le_mul_right _ hn)]
theorem DfR.own (h : DfR E w e g cap xs) (hm : cap ≤ maxLen) : OwnR E w 0 e (.slice (some ⟨g, 0, none⟩) xs.length cap) xs := by
  obtain ⟨cur, h1, h2, h3, h4⟩ := h
  exact ⟨E.cells_len xs, .inr ⟨g, cap, cur, rfl, Nat.zero_le _, h1, h3, hm, h2, h4⟩⟩
theorem DfR.room (h : DfR E w e g cap xs) {i : Nat} (hi : i < xs.length) : ∃ cur, w.heap[g]? = some (.cells cur e (0, 0)) ∧ i * E.k + E.k ≤ cur.size ∧ ((cur.toList.drop (i * E.k)).take E.k).toArray = (E.enc xs[i]).toArray := by
  obtain ⟨cur, h1, h2, h3, h4⟩ := h
  have hm := Nat.mul_le_mul_right E.k (Nat.succ_le_of_lt hi)
  have hm2 := Nat.mul_le_mul_right E.k h3
  rw [Nat.succ_mul] at hm
  refine ⟨cur, h1, by omega, ?_⟩
  have e1 := E.cells_part xs i hi
  rw [← h4, List.drop_take, List.take_take, Nat.min_eq_left (by omega)] at e1
  rw [e1]
/-- An element stored. -/
theorem DfR.put (h : DfR E w e g cap xs) {i : Nat} (hi : i < xs.length) (x : α) : ∃ cur new, w.heap[g]? = some (.cells cur e (0, 0)) ∧ i * E.k + E.k ≤ cur.size ∧ (cur.toList.take (i * E.k) ++ E.enc x ++ cur.toList.drop (i * E.k + E.k)).toArray = new ∧ DfR E (w.setRow g new) e g cap (xs.set i x) := by
  obtain ⟨cur, h1, h2, h3, h4⟩ := h
  have hm := Nat.mul_le_mul_right E.k (Nat.succ_le_of_lt hi)
  have hm2 := Nat.mul_le_mul_right E.k h3
  rw [Nat.succ_mul] at hm
  refine ⟨cur, _, h1, by omega, rfl, _, setRow_heap _ _ _ _ _ _ h1, ?_, by rw [List.length_set]; exact h3, ?_⟩
  · rw [List.size_toArray, List.length_append, List.length_append, List.length_take, List.length_drop, E.len, Array.length_toList, h2, Nat.min_eq_left (by omega)]
    omega
  · rw [List.length_set, ← E.cells_set xs i hi x, ← h4]
    have hl : (cur.toList.take (i * E.k)).length = i * E.k := by rw [List.length_take, Array.length_toList]; omega
    rw [List.take_take, Nat.min_eq_left (by omega), List.drop_take]
    rw [List.take_append, List.length_append, hl, E.len, List.take_of_length_le (l := cur.toList.take (i * E.k) ++ E.enc x) (by rw [List.length_append, hl, E.len]; omega)]
/-- What a row's end is cleared to: its front stays. -/
theorem DfR.clear (h : DfR E w e g cap xs) {i : Nat} (hi : i ≤ xs.length) (zs : List Value) (hz : zs.length = (xs.length - i) * E.k) : ∃ cur new, w.heap[g]? = some (.cells cur e (0, 0)) ∧ i * E.k + zs.length ≤ cur.size ∧ (cur.toList.take (i * E.k) ++ zs ++ cur.toList.drop (i * E.k + zs.length)).toArray = new ∧ DfR E (w.setRow g new) e g cap (xs.take i) := by
  obtain ⟨cur, h1, h2, h3, h4⟩ := h
  have hm := Nat.mul_le_mul_right E.k hi
  have hm2 := Nat.mul_le_mul_right E.k h3
  have hm3 : i * E.k + (xs.length - i) * E.k = xs.length * E.k := by rw [← Nat.add_mul]; congr 1; omega
  have hl : (cur.toList.take (i * E.k)).length = i * E.k := by rw [List.length_take, Array.length_toList]; omega
  refine ⟨cur, _, h1, by omega, rfl, _, setRow_heap _ _ _ _ _ _ h1, ?_, by rw [List.length_take]; omega, ?_⟩
  · simp only [List.size_toArray, List.length_append, hl, List.length_drop, Array.length_toList, h2]
    omega
  · rw [List.length_take, Nat.min_eq_left hi, List.append_assoc, List.take_left' hl, ← E.cells_take xs i hi, ← h4, List.take_take, Nat.min_eq_left hm]
end
/-- 'clear(s)' for a slice of structs. -/
theorem run_clear_part {P : Program} (w : World) (t e ty : TypeId) (z : Value) (k : Nat) (ht : P.underlying t = some (.slice e)) (hv : ∀ w, (zeroValue e).run P w = .ok z w) (hz : z.cells.size = k) (h1 : ∀ v ∈ z.cells.toList, v.oneCell' = true) (g o n c : Nat) (hn : 0 < n)
    (cur : Array Value) (hg : w.heap[g]? = some (.cells cur e (0, 0))) (hk : o + n * k ≤ cur.size) :
    ∃ zs : List Value, zs.length = n * k ∧ (Builtin.clear_ #[t] ty #[.slice (some ⟨g, o, none⟩) n c]).run P w = .ok (.tuple #[]) (w.setRow g (cur.toList.take o ++ zs ++ cur.toList.drop (o + zs.length)).toArray) := by
  have hlen : (Builtin.zeroCells z.cells n).toList.length = n * k := by simp [Builtin.zeroCells, hz]
  refine ⟨(Builtin.zeroCells z.cells n).toList, hlen, ?_⟩
  have hst := run_storeCells_at (P := P) g o e (Builtin.zeroCells z.cells n).toList 0 cur w hg (by rw [hlen]; simpa using hk) (fun v hv' => by
    simp only [Builtin.zeroCells, Array.toList_map, List.mem_map, Array.toList_range, List.mem_range] at hv'
    obtain ⟨i, hi, rfl⟩ := hv'
    have hpos : 0 < z.cells.size := Nat.pos_of_ne_zero (fun h0 => by rw [h0, Nat.mul_zero] at hi; omega)
    have hm := Nat.mod_lt i hpos
    rw [getElem!_pos z.cells _ hm]
    exact h1 _ (by simp))
  simp only [Nat.add_zero] at hst
  obtain ⟨m, rfl⟩ : ∃ m, n = m + 1 := ⟨n - 1, by omega⟩
  simp [Builtin.clear_, run_underlying ht, hv, hst]
end Go.Proofs.YtokbhiokcoldbaaDoor
