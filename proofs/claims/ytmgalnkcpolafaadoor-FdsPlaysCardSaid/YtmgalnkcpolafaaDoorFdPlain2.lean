/- Plain laws of a table of open files: moved on and back; two numbers of one. -/
import Derived.Test.YtmgalnkcpolafaaDoorFdPlain
namespace Go.Proofs.YtmgalnkcpolafaaDoor.Fd

theorem at_of {t : T} {fd : Int} {o : Nat} (h : 0 ≤ fd ∧ fd ≤ 7) (ho : nthO t.sl fd.toNat = some o) : at_ t fd = (t.f o).2 := by
  obtain ⟨h1, h2⟩ := wrong_of h ho
  unfold at_
  rw [if_pos h1, h2]
/-- A move: either all is as it was, with an error, or the place is another one. -/
theorem move_cases {t : T} (h : OK t) (fd by_ : Int) :
    (∃ c, c ≠ 0 ∧ move t fd by_ = (t, 0, c)) ∨
    ∃ o, (0 ≤ fd ∧ fd ≤ 7) ∧ nthO t.sl fd.toNat = some o ∧ (0 ≤ (t.f o).2 ∧ (t.f o).2 ≤ (t.f o).1 ∧ (t.f o).1 ≤ 64) ∧ (-(t.f o).2 ≤ by_ ∧ by_ ≤ (t.f o).1 - (t.f o).2) ∧
      move t fd by_ = (⟨t.sl, upd t.f o ((t.f o).1, (t.f o).2 + by_)⟩, (t.f o).2 + by_, 0) := by
  unfold move
  by_cases hw : wrong t fd = 0
  · rw [if_pos hw]
    obtain ⟨h1, h2⟩ := wrong_zero hw
    simp only
    by_cases hb : -(t.f (here t fd)).2 ≤ by_ ∧ by_ ≤ (t.f (here t fd)).1 - (t.f (here t fd)).2
    · rw [if_pos hb]
      exact .inr ⟨here t fd, h1, h2, h.ok _ _ h2, hb, rfl⟩
    · rw [if_neg hb]
      exact .inl ⟨1, by decide, rfl⟩
  · rw [if_neg hw]
    exact .inl ⟨_, hw, rfl⟩
theorem move_of {t : T} {fd by_ : Int} {o : Nat} (h : 0 ≤ fd ∧ fd ≤ 7) (ho : nthO t.sl fd.toNat = some o) (hb : -(t.f o).2 ≤ by_ ∧ by_ ≤ (t.f o).1 - (t.f o).2) :
    move t fd by_ = (⟨t.sl, upd t.f o ((t.f o).1, (t.f o).2 + by_)⟩, (t.f o).2 + by_, 0) := by
  obtain ⟨h1, h2⟩ := wrong_of h ho
  unfold move
  rw [if_pos h1]
  simp only [h2]
  rw [if_pos hb]
theorem dup_cases (t : T) (fd : Int) : (∃ c, c ≠ 0 ∧ dup t fd = (t, 0, c)) ∨
    ∃ i o, i < 8 ∧ nthO t.sl i = none ∧ (0 ≤ fd ∧ fd ≤ 7) ∧ nthO t.sl fd.toNat = some o ∧ dup t fd = (⟨t.sl.set i (some o), t.f⟩, (i : Int), 0) := by
  unfold dup
  by_cases hw : wrong t fd = 0
  · rw [if_pos hw]
    obtain ⟨h1, h2⟩ := wrong_zero hw
    cases hl : least t with
    | none => exact .inl ⟨4, by decide, rfl⟩
    | some i =>
      obtain ⟨h3, h4⟩ := least_lt hl
      exact .inr ⟨i, here t fd, h3, h4, h1, h2, rfl⟩
  · rw [if_neg hw]
    exact .inl ⟨_, hw, rfl⟩
theorem close_of {t : T} {fd : Int} {o : Nat} (h : 0 ≤ fd ∧ fd ≤ 7) (ho : nthO t.sl fd.toNat = some o) : close t fd = (⟨t.sl.set fd.toNat none, t.f⟩, 0) := by
  unfold close
  rw [if_pos (wrong_of h ho).1]
theorem opn_of {t : T} {k : Nat} (hk : k < 8) (hn : nthO t.sl k = none) (size : Int) (hs : 0 ≤ size ∧ size ≤ 64) (o : Nat) :
    ∃ i, i < 8 ∧ nthO t.sl i = none ∧ opn t size o = (⟨t.sl.set i (some o), upd t.f o (size, 0)⟩, (i : Int), 0) := by
  unfold opn
  rw [if_pos hs]
  cases hl : least t with
  | none => exact absurd hn (leastFrom_none t.sl 8 0 hl k (by omega) (by omega))
  | some i =>
    obtain ⟨h3, h4⟩ := least_lt hl
    exact ⟨i, h3, h4, rfl⟩
theorem leastFrom_eq (l : List (Option Nat)) (k : Nat) (hk : nthO l k = none) : ∀ n i, i ≤ k → k < i + n → (∀ j, i ≤ j → j < k → nthO l j ≠ none) → leastFrom l n i = some k
  | 0, i, h1, h2, _ => by omega
  | n + 1, i, h1, h2, h3 => by
    unfold leastFrom
    by_cases e : i = k
    · subst e; rw [hk]; rfl
    · have hn := h3 i (Nat.le_refl _) (by omega)
      rw [if_neg (by simpa using hn)]
      exact leastFrom_eq l k hk n (i + 1) (by omega) (by omega) (fun j h4 h5 => h3 j (by omega) h5)
theorem leastFrom_full (l : List (Option Nat)) : ∀ n i, (∀ j, i ≤ j → j < i + n → nthO l j ≠ none) → leastFrom l n i = none
  | 0, _, _ => rfl
  | n + 1, i, h => by
    unfold leastFrom
    rw [if_neg (by simpa using h i (Nat.le_refl _) (by omega))]
    exact leastFrom_full l n (i + 1) (fun j h1 h2 => h j (by omega) (by omega))
theorem at_neg {t : T} {fd : Nat} (h : nthO t.sl fd = none) : at_ t fd = -1 := by
  unfold at_ wrong
  rw [Int.toNat_natCast, h]
  by_cases h0 : (0 : Int) ≤ fd ∧ (fd : Int) ≤ 7
  · rw [if_pos h0]; rfl
  · rw [if_neg h0]; rfl
theorem at_nonneg {t : T} (h : OK t) {fd : Nat} (h8 : fd < 8) (hn : nthO t.sl fd ≠ none) : 0 ≤ at_ t fd := by
  cases hx : nthO t.sl fd with
  | none => exact absurd hx hn
  | some o => rw [at_of (o := o) (by omega) (by rw [Int.toNat_natCast]; exact hx)]; exact (h.ok _ _ hx).1
end Go.Proofs.YtmgalnkcpolafaaDoor.Fd
