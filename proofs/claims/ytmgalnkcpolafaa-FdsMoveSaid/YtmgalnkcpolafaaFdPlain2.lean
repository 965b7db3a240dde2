/- Plain laws of a table of open files: moved on and back; two numbers of one. -/
import Derived.Test.YtmgalnkcpolafaaFdPlain
namespace Go.Proofs.Ytmgalnkcpolafaa.Fd

theorem at_of {t : T} {fd : Int} {o : Nat} (h : 0 ≤ fd ∧ fd ≤ 7) (ho : nthO t.sl fd.toNat = some o) : at_ t fd = (t.f o).2 := by
  obtain ⟨h1, h2⟩ := wrong_of h ho
  unfold at_
  rw [if_pos h1, h2]
/-- A move: either all is as it was, with an error, or the place is another one. -/
theorem move_cases {t : T} (h : OK t) (fd by_ : Int) :
    (∃ c, c ≠ 0 ∧ move t fd by_ = (t, 0, c)) ∨
    ∃ o, (0 ≤ fd ∧ fd ≤ 7) ∧ nthO t.sl fd.toNat = some o ∧ (0 ≤ (t.f o).2 ∧ (t.f o).2 ≤ (t.f o).1 ∧ (t.f o).1 ≤ 64) ∧ (-(t.f o).2 ≤ by_ ∧ by_ ≤ (t.f o).1 - (t.f o).2) ∧
      move t fd by_ = (⟨t.sl, upd t.f o ((t.f o).1, (t.f o).2 + by_)⟩, (t.f o).2 + by_, 0) := by
  unfold move
  by_cases hw : wrong t fd = 0
  · rw [if_pos hw]
    obtain ⟨h1, h2⟩ := wrong_zero hw
    simp only
    by_cases hb : -(t.f (here t fd)).2 ≤ by_ ∧ by_ ≤ (t.f (here t fd)).1 - (t.f (here t fd)).2
    · rw [if_pos hb]
      exact .inr ⟨here t fd, h1, h2, h.ok _ _ h2, hb, rfl⟩
    · rw [if_neg hb]
      exact .inl ⟨1, by decide, rfl⟩
  · rw [if_neg hw]
    exact .inl ⟨_, hw, rfl⟩
theorem move_of {t : T} {fd by_ : Int} {o : Nat} (h : 0 ≤ fd ∧ fd ≤ 7) (ho : nthO t.sl fd.toNat = some o) (hb : -(t.f o).2 ≤ by_ ∧ by_ ≤ (t.f o).1 - (t.f o).2) :
    move t fd by_ = (⟨t.sl, upd t.f o ((t.f o).1, (t.f o).2 + by_)⟩, (t.f o).2 + by_, 0) := by
  obtain ⟨h1, h2⟩ := wrong_of h ho
  unfold move
  rw [if_pos h1]
  simp only [h2]
  rw [if_pos hb]
theorem dup_cases (t : T) (fd : Int) : (∃ c, c ≠ 0 ∧ dup t fd = (t, 0, c)) ∨
    ∃ i o, i < 8 ∧ nthO t.sl i = none ∧ (0 ≤ fd ∧ fd ≤ 7) ∧ nthO t.sl fd.toNat = some o ∧ dup t fd = (⟨t.sl.set i (some o), t.f⟩, (i : Int), 0) := by
  unfold dup
  by_cases hw : wrong t fd = 0
  · rw [if_pos hw]
    obtain ⟨h1, h2⟩ := wrong_zero hw
    cases hl : least t with
    | none => exact .inl ⟨4, by decide, rfl⟩
    | some i =>
      obtain ⟨h3, h4⟩ := least_lt hl
      exact .inr ⟨i, here t fd, h3, h4, h1, h2, rfl⟩
  · rw [if_neg hw]
    exact .inl ⟨_, hw, rfl⟩
theorem close_of {t : T} {fd : Int} {o : Nat} (h : 0 ≤ fd ∧ fd ≤ 7) (ho : nthO t.sl fd.toNat = some o) : close t fd = (⟨t.sl.set fd.toNat none, t.f⟩, 0) := by
  unfold close
  rw [if_pos (wrong_of h ho).1]
theorem opn_of {t : T} {k : Nat} (hk : k < 8) (hn : nthO t.sl k = none) (size : Int) (hs : 0 ≤ size ∧ size ≤ 64) (o : Nat) :
    ∃ i, i < 8 ∧ nthO t.sl i = none ∧ opn t size o = (⟨t.sl.set i (some o), upd t.f o (size, 0)⟩, (i : Int), 0) := by
  unfold opn
  rw [if_pos hs]
  cases hl : least t with
  | none => exact absurd hn (leastFrom_none t.sl 8 0 hl k (by omega) (by omega))
  | some i =>
    obtain ⟨h3, h4⟩ := least_lt hl
    exact ⟨i, h3, h4, rfl⟩
end Go.Proofs.Ytmgalnkcpolafaa.Fd
