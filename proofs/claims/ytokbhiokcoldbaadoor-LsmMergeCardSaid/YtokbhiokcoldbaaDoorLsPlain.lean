/- Tables that rise by their keys (package lsm), in plain Lean. No program in sight. -/
import Derived.WalkKit
namespace Go.Proofs.YtokbhiokcoldbaaDoor
namespace Ls

/-- An entry: a key, its value (-1: dropped). -/
abbrev E := Int × Int
def Up (l : List E) : Prop := (l.map (·.1)).Pairwise (· < ·)
/-- Where a key stands or would stand. -/
def lb (k : Int) : List E → Nat
  | [] => 0
  | x :: r => if x.1 < k then lb k r + 1 else 0
/-- An entry set in a table. -/
def set (l : List E) (e : E) : List E :=
  match l with
  | [] => [e]
  | x :: r => if x.1 < e.1 then x :: set r e else if x.1 = e.1 then e :: r else e :: x :: r
/-- The entry at a key. -/
def find (k : Int) : List E → Option Int
  | [] => none
  | x :: r => if x.1 = k then some x.2 else find k r
theorem lb_le (k : Int) : ∀ (l : List E), lb k l ≤ l.length
  | [] => Nat.le_refl _
  | x :: r => by
    have := lb_le k r
    unfold lb
    split <;> simp <;> omega
/-- What BinarySearchFunc finds: all ahead is below, the entry there is not. -/
theorem lb_below (k : Int) : ∀ (l : List E) (i : Nat) (h : i < l.length), i < lb k l → l[i].1 < k
  | x :: r, 0, _, h => by
    unfold lb at h
    split at h
    · assumption
    · omega
  | x :: r, i + 1, hi, h => by
    unfold lb at h
    split at h
    · exact lb_below k r i (by simpa using hi) (by omega)
    · omega
theorem lb_above (k : Int) : ∀ (l : List E), Up l → ∀ (i : Nat) (h : i < l.length), lb k l ≤ i → k ≤ l[i].1
  | x :: r, hu, i, hi, h => by
    rw [Up, List.map_cons, List.pairwise_cons] at hu
    unfold lb at h
    split at h
    · cases i with
      | zero => omega
      | succ i => exact lb_above k r hu.2 i (by simpa using hi) (by omega)
    · cases i with
      | zero => simp; omega
      | succ i =>
        have hi' : i < r.length := by simpa using hi
        have := hu.1 r[i].1 (List.mem_map.2 ⟨r[i], List.getElem_mem hi', rfl⟩)
        simp
        omega
theorem set_there (e : E) : ∀ (l : List E) (h : lb e.1 l < l.length), l[lb e.1 l].1 = e.1 → set l e = l.set (lb e.1 l) e
  | [], h, _ => by simp at h
  | x :: r, h, he => by
    unfold set
    by_cases h1 : x.1 < e.1
    · have e1 : lb e.1 (x :: r) = lb e.1 r + 1 := by rw [lb, if_pos h1]
      rw [if_pos h1]
      simp only [e1, List.getElem_cons_succ, List.set_cons_succ] at he ⊢
      rw [set_there e r (by rw [e1] at h; simpa using h) he]
    · have e1 : lb e.1 (x :: r) = 0 := by rw [lb, if_neg h1]
      rw [if_neg h1]
      simp only [e1, List.getElem_cons_zero, List.set_cons_zero] at he ⊢
      rw [if_pos he]
theorem set_new (e : E) : ∀ (l : List E), (∀ h : lb e.1 l < l.length, l[lb e.1 l].1 ≠ e.1) → set l e = l.take (lb e.1 l) ++ e :: l.drop (lb e.1 l)
  | [], _ => rfl
  | x :: r, h => by
    unfold set
    by_cases h1 : x.1 < e.1
    · have e1 : lb e.1 (x :: r) = lb e.1 r + 1 := by rw [lb, if_pos h1]
      rw [if_pos h1, e1, List.take_succ_cons, List.drop_succ_cons, List.cons_append, set_new e r (fun hr => ?_)]
      have := h (by rw [e1]; simpa using hr)
      simpa [e1] using this
    · have e1 : lb e.1 (x :: r) = 0 := by rw [lb, if_neg h1]
      have := h (by rw [e1]; simp)
      rw [if_neg h1, e1, if_neg (by simpa [e1] using this)]
      rfl
theorem mem_set (e : E) (y : E) : ∀ (l : List E), y ∈ set l e → y = e ∨ y ∈ l
  | [], h => by simp [set] at h; exact .inl h
  | x :: r, h => by
    unfold set at h
    split at h
    · rcases List.mem_cons.1 h with h | h
      · exact .inr (by simp [h])
      · exact (mem_set e y r h).imp id (fun h => by simp [h])
    · split at h
      · rcases List.mem_cons.1 h with h | h
        · exact .inl h
        · exact .inr (by simp [h])
      · rcases List.mem_cons.1 h with h | h
        · exact .inl h
        · exact .inr h
theorem up_set (e : E) : ∀ (l : List E), Up l → Up (set l e)
  | [], _ => by simp [set, Up]
  | x :: r, h => by
    have h' := h
    rw [Up, List.map_cons, List.pairwise_cons] at h
    have hx : ∀ y ∈ r, x.1 < y.1 := fun y hy => h.1 y.1 (List.mem_map.2 ⟨y, hy, rfl⟩)
    unfold set
    split
    · rename_i h1
      rw [Up, List.map_cons, List.pairwise_cons]
      refine ⟨fun k hk => ?_, up_set e r h.2⟩
      obtain ⟨y, hy, rfl⟩ := List.mem_map.1 hk
      rcases mem_set e y r hy with rfl | hy
      · exact h1
      · exact hx y hy
    · split
      · rename_i h1 h2
        rw [Up, List.map_cons, List.pairwise_cons]
        exact ⟨fun k hk => by rw [← h2]; exact h.1 k hk, h.2⟩
      · rename_i h1 h2
        rw [Up, List.map_cons, List.pairwise_cons]
        refine ⟨fun k hk => ?_, h'⟩
        obtain ⟨y, hy, rfl⟩ := List.mem_map.1 hk
        rcases List.mem_cons.1 hy with rfl | hy
        · show e.1 < y.1; omega
        · have := hx y hy; show e.1 < y.1; omega
theorem find_set (e : E) (k : Int) : ∀ (l : List E), find k (set l e) = if e.1 = k then some e.2 else find k l
  | [] => by simp [set, find]
  | x :: r => by
    unfold set
    by_cases h1 : x.1 < e.1
    · rw [if_pos h1]
      by_cases hk : x.1 = k
      · rw [find, if_pos hk, if_neg (by omega), find, if_pos hk]
      · rw [find, if_neg hk, find_set e k r]
        simp only [find, if_neg hk]
    · rw [if_neg h1]
      by_cases h2 : x.1 = e.1
      · rw [if_pos h2]
        by_cases hk : e.1 = k
        · rw [find, if_pos hk, if_pos hk]
        · rw [find, if_neg hk, if_neg hk, find, if_neg (by omega)]
      · rw [if_neg h2, find]
theorem set_len (e : E) : ∀ (l : List E), l.length ≤ (set l e).length ∧ (set l e).length ≤ l.length + 1 ∧ 0 < (set l e).length
  | [] => by simp [set]
  | x :: r => by
    have := set_len e r
    unfold set
    split
    · simp; omega
    · split <;> simp
end Ls
end Go.Proofs.YtokbhiokcoldbaaDoor
