/- The plain law of the document's list of locks: a lock is written down with its whole length where it begins; the program lets it grow. No program in sight. -/
import Derived.Test.YtgljklefcfheaaaDoorRaPlain2
namespace Go.Proofs.YtgljklefcfheaaaDoor.Ra

/-- From place p of owner w on n places are in one state, and no more. -/
structure Run (T : List Int) (w p n : Nat) : Prop where
  pos : 1 ≤ n
  le : p + n ≤ 64
  same : ∀ q, p ≤ q → q < p + n → st T w q = st T w p
  last : p + n = 64 ∨ st T w (p + n) ≠ st T w p
/-- What the document's list is behind an owner's first p places, beside the program's. -/
def Ref (T : List Int) (w p : Nat) (l : List Lk) : Prop :=
  ((p = 0 ∨ st T w (p - 1) = 0) ∧ l = rowTo T w p) ∨ (0 < p ∧ st T w (p - 1) ≠ 0 ∧ ∃ l' f n, l = l' ++ [(w, f, n, decide (st T w (p - 1) = 2))] ∧ rowTo T w p = l' ++ [(w, f, p - f, decide (st T w (p - 1) = 2))] ∧
    f < p ∧ p ≤ f + n ∧ f + n ≤ 64 ∧ (∀ q, f ≤ q → q < f + n → st T w q = st T w (p - 1)) ∧ (f + n = 64 ∨ st T w (f + n) ≠ st T w (p - 1)))
theorem Ref.zero (T : List Int) (w : Nat) : Ref T w 0 [] := .inl ⟨.inl rfl, rfl⟩
theorem Ref.close {T : List Int} {w p : Nat} {l : List Lk} (h : Ref T w p l) (hp : p < 64 → p = 0 ∨ st T w p ≠ st T w (p - 1)) (h64 : p ≤ 64) : l = rowTo T w p := by
  rcases h with ⟨-, h⟩ | ⟨h0, hn, l', f, n, e1, e2, h1, h2, h3, h4, h5⟩
  · exact h
  · have hfn : f + n = p := by
      by_cases h6 : p < f + n
      · rcases hp (by omega) with h7 | h7
        · omega
        · exact absurd (h4 p (by omega) h6) h7
      · omega
    rw [e1, e2, show p - f = n by omega]
theorem Ref.all {T : List Int} {w : Nat} {l : List Lk} (h : Ref T w 64 l) : l = rowTo T w 64 := h.close (fun h => by omega) (Nat.le_refl _)
theorem Ref.len {T : List Int} {w p : Nat} {l : List Lk} (h : Ref T w p l) : l.length = (rowTo T w p).length := by
  rcases h with ⟨-, h⟩ | ⟨h0, hn, l', f, n, e1, e2, -⟩
  · rw [h]
  · rw [e1, e2]; simp
theorem Ref.free {T : List Int} {w p : Nat} {l : List Lk} (h : Ref T w p l) (hp : p < 64) (h0 : st T w p = 0) : Ref T w (p + 1) l := by
  refine .inl ⟨.inr h0, ?_⟩
  have e : rowTo T w (p + 1) = rowTo T w p := by
    conv => lhs; unfold rowTo
    rw [if_pos h0]
  rw [e]
  rcases h with ⟨-, h⟩ | ⟨hq, hn, h⟩
  · exact h
  · exact Ref.close (.inr ⟨hq, hn, h⟩) (fun _ => .inr (by rw [h0]; exact Ne.symm hn)) (by omega)
theorem Ref.more {T : List Int} {w p : Nat} {l : List Lk} (h : Ref T w p l) (hp : p < 64) (h0 : st T w p ≠ 0) (h1 : 0 < p) (h2 : st T w (p - 1) = st T w p) : Ref T w (p + 1) l := by
  rcases h with ⟨h, -⟩ | ⟨-, -, l', f, n, e1, e2, k1, k2, k3, k4, k5⟩
  · rcases h with h | h
    · omega
    · rw [h2] at h; exact absurd h h0
  · rw [h2] at e1 e2 k4 k5
    have hpn : p < f + n := by
      by_cases h6 : p < f + n
      · exact h6
      · have : f + n = p := by omega
        rw [this] at k5
        rcases k5 with k5 | k5
        · omega
        · exact absurd rfl k5
    refine .inr ⟨by omega, by rw [Nat.add_sub_cancel]; exact h0, l', f, n, by rw [Nat.add_sub_cancel]; exact e1, ?_, by omega, by omega, k3, fun q q1 q2 => by rw [Nat.add_sub_cancel]; exact k4 q q1 q2, by rw [Nat.add_sub_cancel]; exact k5⟩
    have e : rowTo T w (p + 1) = bump (rowTo T w p) := by
      conv => lhs; unfold rowTo
      rw [if_neg h0, if_pos ⟨h1, h2⟩]
    rw [e, e2, bump_concat, Nat.add_sub_cancel, show p - f + 1 = p + 1 - f by omega]
theorem Ref.start {T : List Int} {w p : Nat} {l : List Lk} (h : Ref T w p l) (hp : p < 64) (h0 : st T w p ≠ 0) (h1 : p = 0 ∨ st T w (p - 1) ≠ st T w p) {n : Nat} (hr : Run T w p n) :
    Ref T w (p + 1) (l ++ [(w, p, n, decide (st T w p = 2))]) := by
  have hl := h.close (fun _ => h1.imp_right Ne.symm) (by omega)
  have e : rowTo T w (p + 1) = rowTo T w p ++ [(w, p, 1, decide (st T w p = 2))] := by
    conv => lhs; unfold rowTo
    rw [if_neg h0, if_neg (fun hh => h1.elim (fun e => by omega) (fun e => e hh.2))]
  have hpos := hr.pos
  exact .inr ⟨by omega, by rw [Nat.add_sub_cancel]; exact h0, l, p, n, by rw [Nat.add_sub_cancel], by rw [e, hl, Nat.add_sub_cancel, show p + 1 - p = 1 by omega], by omega, by omega, hr.le, fun q q1 q2 => by rw [Nat.add_sub_cancel]; exact hr.same q q1 q2, by rw [Nat.add_sub_cancel]; exact hr.last⟩
/-- The state at a place, by its place in the row of all. -/
theorem st_row (T : List Int) (w p : Nat) : st T w p = nth T (64 * w + p) := rfl
end Go.Proofs.YtgljklefcfheaaaDoor.Ra
