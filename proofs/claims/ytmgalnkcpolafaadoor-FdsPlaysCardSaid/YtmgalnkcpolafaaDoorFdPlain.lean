/- The plain model of a table of open files: which block each number names, and what the blocks hold. No program in sight. -/
import Derived.Test.YtmgalnkcpolafaaDoorBase
namespace Go.Proofs.YtmgalnkcpolafaaDoor.Fd

/-- The numbers, and what each open file is: its size, its place. -/
structure T where
  sl : List (Option Nat)
  f : Nat → Int × Int

def nthO (l : List (Option Nat)) (i : Nat) : Option Nat := l.getD i none
def leastFrom (l : List (Option Nat)) : Nat → Nat → Option Nat
  | 0, _ => none
  | n + 1, i => if (nthO l i).isNone then some i else leastFrom l n (i + 1)
def least (t : T) : Option Nat := leastFrom t.sl 8 0
/-- What is wrong with a number: 1 it may not be, 5 nothing is open there, 0 nothing. -/
def wrong (t : T) (fd : Int) : Int := if 0 ≤ fd ∧ fd ≤ 7 then (if (nthO t.sl fd.toNat).isNone then 5 else 0) else 1
def here (t : T) (fd : Int) : Nat := (nthO t.sl fd.toNat).getD 0
def upd (f : Nat → Int × Int) (o : Nat) (x : Int × Int) : Nat → Int × Int := fun k => if k = o then x else f k
def opn (t : T) (size : Int) (o : Nat) : T × Int × Int :=
  if 0 ≤ size ∧ size ≤ 64 then match least t with
    | none => (t, 0, 4)
    | some i => (⟨t.sl.set i (some o), upd t.f o (size, 0)⟩, i, 0)
  else (t, 0, 1)
def dup (t : T) (fd : Int) : T × Int × Int :=
  if wrong t fd = 0 then match least t with
    | none => (t, 0, 4)
    | some i => (⟨t.sl.set i (some (here t fd)), t.f⟩, i, 0)
  else (t, 0, wrong t fd)
def close (t : T) (fd : Int) : T × Int :=
  if wrong t fd = 0 then (⟨t.sl.set fd.toNat none, t.f⟩, 0) else (t, wrong t fd)
def move (t : T) (fd by_ : Int) : T × Int × Int :=
  if wrong t fd = 0 then
    let x := t.f (here t fd)
    if -x.2 ≤ by_ ∧ by_ ≤ x.1 - x.2 then (⟨t.sl, upd t.f (here t fd) (x.1, x.2 + by_)⟩, x.2 + by_, 0) else (t, 0, 1)
  else (t, 0, wrong t fd)
def at_ (t : T) (fd : Int) : Int := if wrong t fd = 0 then (t.f (here t fd)).2 else -1
def new : T := ⟨List.replicate 8 none, fun _ => (0, 0)⟩

/-- What holds of a table. -/
structure OK (t : T) : Prop where
  len : t.sl.length = 8
  ok : ∀ i o, nthO t.sl i = some o → 0 ≤ (t.f o).2 ∧ (t.f o).2 ≤ (t.f o).1 ∧ (t.f o).1 ≤ 64

theorem nthO_set (l : List (Option Nat)) (i j : Nat) (x : Option Nat) (h : i < l.length) : nthO (l.set i x) j = if i = j then x else nthO l j := by
  simp only [nthO, List.getD_eq_getElem?_getD, List.getElem?_set]
  split
  · rename_i e; subst e; simp
  · rfl
theorem leastFrom_some (l : List (Option Nat)) : ∀ n i k, leastFrom l n i = some k → i ≤ k ∧ k < i + n ∧ nthO l k = none
  | 0, _, _, h => by simp [leastFrom] at h
  | n + 1, i, k, h => by
    unfold leastFrom at h
    split at h
    · rename_i hn
      injection h with h
      subst h
      exact ⟨Nat.le_refl _, by omega, by simpa using hn⟩
    · obtain ⟨h1, h2, h3⟩ := leastFrom_some l n (i + 1) k h
      exact ⟨by omega, by omega, h3⟩
theorem leastFrom_none (l : List (Option Nat)) : ∀ n i, leastFrom l n i = none → ∀ k, i ≤ k → k < i + n → nthO l k ≠ none
  | 0, _, _ => by omega
  | n + 1, i, h => by
    unfold leastFrom at h
    split at h
    · cases h
    · rename_i hn
      intro k h1 h2
      by_cases e : k = i
      · subst e; simpa using hn
      · exact leastFrom_none l n (i + 1) h k (by omega) (by omega)
theorem least_lt {t : T} {i : Nat} (h : least t = some i) : i < 8 ∧ nthO t.sl i = none := by
  obtain ⟨_, h2, h3⟩ := leastFrom_some t.sl 8 0 i h
  exact ⟨by omega, h3⟩
theorem wrong_zero {t : T} {fd : Int} (h : wrong t fd = 0) : (0 ≤ fd ∧ fd ≤ 7) ∧ nthO t.sl fd.toNat = some (here t fd) := by
  unfold wrong at h
  split at h
  · rename_i h0
    split at h
    · cases h
    · rename_i hn
      refine ⟨h0, ?_⟩
      unfold here
      cases hx : nthO t.sl fd.toNat with
      | none => simp [hx] at hn
      | some o => rfl
  · cases h
theorem wrong_of {t : T} {fd : Int} {o : Nat} (h : 0 ≤ fd ∧ fd ≤ 7) (ho : nthO t.sl fd.toNat = some o) : wrong t fd = 0 ∧ here t fd = o := by
  unfold wrong here
  rw [if_pos h, ho]
  exact ⟨rfl, rfl⟩

theorem new_ok : OK new := ⟨rfl, fun i o h => by
  have : nthO new.sl i = none := by
    unfold nthO new
    simp only [List.getD_eq_getElem?_getD, List.getElem?_replicate]
    split <;> rfl
  rw [this] at h; cases h⟩
/-- A block that no number names. -/
def Fresh (t : T) (o : Nat) : Prop := ∀ i, nthO t.sl i ≠ some o
theorem opn_ok {t : T} (h : OK t) (size : Int) {o : Nat} (ho : Fresh t o) : OK (opn t size o).1 := by
  unfold opn
  split
  · rename_i hs
    split
    · exact h
    · rename_i i hi
      refine ⟨by simp [h.len], fun j k hk => ?_⟩
      have hi8 := (least_lt hi).1
      simp only at hk ⊢
      rw [nthO_set _ _ _ _ (by rw [h.len]; exact hi8)] at hk
      unfold upd
      split at hk
      · injection hk with hk
        subst hk
        simp; omega
      · by_cases e : k = o
        · subst e; exact absurd hk (ho j)
        · rw [if_neg e]; exact h.ok j k hk
  · exact h
theorem dup_ok {t : T} (h : OK t) (fd : Int) : OK (dup t fd).1 := by
  unfold dup
  split
  · rename_i hw
    split
    · exact h
    · rename_i i hi
      refine ⟨by simp [h.len], fun j k hk => ?_⟩
      have hi8 := (least_lt hi).1
      simp only at hk ⊢
      rw [nthO_set _ _ _ _ (by rw [h.len]; exact hi8)] at hk
      split at hk
      · exact h.ok _ _ ((wrong_zero hw).2.trans hk)
      · exact h.ok j k hk
  · exact h
theorem close_ok {t : T} (h : OK t) (fd : Int) : OK (close t fd).1 := by
  unfold close
  split
  · rename_i hw
    refine ⟨by simp [h.len], fun j k hk => ?_⟩
    simp only at hk ⊢
    rw [nthO_set _ _ _ _ (by rw [h.len]; have := (wrong_zero hw).1; omega)] at hk
    split at hk
    · cases hk
    · exact h.ok j k hk
  · exact h
theorem move_ok {t : T} (h : OK t) (fd by_ : Int) : OK (move t fd by_).1 := by
  unfold move
  split
  · rename_i hw
    simp only
    split
    · rename_i hb
      refine ⟨h.len, fun j k hk => ?_⟩
      simp only at hk ⊢
      unfold upd
      have h0 := h.ok _ _ (wrong_zero hw).2
      split
      · simp only; omega
      · exact h.ok j k hk
    · exact h
  · exact h
end Go.Proofs.YtmgalnkcpolafaaDoor.Fd
