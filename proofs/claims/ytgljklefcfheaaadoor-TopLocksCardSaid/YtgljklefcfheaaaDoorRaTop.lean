/- Two who want to be alone: the plain law. No program in sight. -/
import Derived.Test.YtgljklefcfheaaaDoorRaPlain2
namespace Go.Proofs.YtgljklefcfheaaaDoor.Ra

theorem bump_length : ∀ l : List Lk, (bump l).length = l.length
  | [] => rfl
  | [(_, _, _, _)] => rfl
  | _ :: y :: l => by
    have := bump_length (y :: l)
    simp only [bump, List.length_cons] at this ⊢
    omega
/-- One run of places alone, all else free. -/
def One (T : List Int) (o f n : Nat) : Prop := ∀ w p, p < 64 → st T w p = if w = o ∧ f ≤ p ∧ p < f + n then 2 else 0
theorem One.row {T : List Int} {o f n : Nat} (h : One T o f n) : ∀ p, p ≤ 64 → (rowTo T o p).length ≤ if f < p then 1 else 0
  | 0, _ => by simp [rowTo]
  | p + 1, hp => by
    have ih := h.row p (by omega)
    have hs := h o p (by omega)
    unfold rowTo
    by_cases h0 : st T o p = 0
    · rw [if_pos h0]
      split at ih <;> split <;> omega
    · rw [if_neg h0]
      by_cases hin : o = o ∧ f ≤ p ∧ p < f + n
      · rw [if_pos (show f < p + 1 by omega)]
        by_cases h1 : 0 < p ∧ st T o (p - 1) = st T o p
        · rw [if_pos h1, bump_length]
          split at ih <;> omega
        · rw [if_neg h1]
          have hpf : p = f := by
            by_cases e : p = f
            · exact e
            · exfalso
              refine h1 ⟨by omega, ?_⟩
              rw [hs, if_pos hin, h o (p - 1) (by omega), if_pos ⟨rfl, by omega, by omega⟩]
          rw [if_neg (by omega)] at ih
          simp
          simpa using ih
      · exact absurd (by rw [hs, if_neg hin]) h0
theorem One.list {T : List Int} {o f n : Nat} (h : One T o f n) : ∀ w, w ≤ 4 → (listTo T w).length ≤ if o < w then 1 else 0
  | 0, _ => by simp [listTo]
  | w + 1, hw => by
    have ih := h.list w (by omega)
    unfold listTo
    rw [List.length_append]
    by_cases e : w = o
    · subst e
      have := h.row 64 (Nat.le_refl _)
      rw [if_neg (by omega)] at ih
      rw [if_pos (by omega)]
      split at this <;> omega
    · rw [rowTo_clear 64 (fun q hq => by rw [h w q hq, if_neg (fun x => e x.1)])]
      simp only [List.length_nil, Nat.add_zero]
      split at ih <;> split <;> omega
theorem One.few {T : List Int} {o f n : Nat} (h : One T o f n) : (locks T).length ≤ 1 := by
  have := h.list 4 (Nat.le_refl _)
  unfold locks
  split at this <;> omega
theorem new_st (w p : Nat) : st new w p = 0 := new_nth _
theorem one_fill {a f n : Nat} (ha : a < 4) (hn : f + n ≤ 64) : One (fillTo new a f 2 n) a f n := fun w p hp => by
  rw [fill_st new_ok.tab.1 ha hn 2 w p hp, new_st]
theorem against_free {T : List Int} {o f n : Nat} {a : Bool} (hn : f + n ≤ 64) (h : ∀ w p, w ≠ o → p < 64 → st T w p = 0) : ¬ 0 ≤ against T o f n a 4 := fun hc => by
  obtain ⟨w, _, hw, hh⟩ := against_hit 4 hc
  obtain ⟨p, h1, h2, h3⟩ := hits_true n hh
  exact h3 (h w p hw (by omega))
/-- The first one is let in. -/
theorem top_first {a f n : Nat} (ok : okL a f n) : set new a f n true = (fillTo new a f 2 n, 0) := by
  have hk := ok
  obtain ⟨h1, h2, h3⟩ := hk
  have ha : a < 4 := by omega
  have hn : f + n ≤ 64 := by omega
  unfold set
  rw [if_pos ok]
  simp only [Int.toNat_natCast]
  rw [if_neg (against_free hn (fun w p _ _ => new_st w p))]
  unfold put
  rw [show state true = 2 from rfl, if_neg (by have := (one_fill ha hn).few; omega)]
theorem top_same {T : List Int} {a f n : Nat} (hl : T.length = 256) (h : One T a f n) (ha : a < 4) (hn : f + n ≤ 64) (h1 : 1 ≤ n) : (set T a f 1 true).2 = 0 := by
  have ok : okL a f 1 := by unfold okL; omega
  unfold set
  rw [if_pos ok]
  simp only [Int.toNat_natCast, Int.toNat_one]
  rw [if_neg (against_free (by omega) (fun w p hw hp => by rw [h w p hp, if_neg (fun x => hw x.1)]))]
  have h2 : One (fillTo T a f 2 1) a f n := fun w p hp => by
    rw [fill_st hl ha (by omega) 2 w p hp, h w p hp]
    by_cases e : w = a ∧ f ≤ p ∧ p < f + 1
    · rw [if_pos e, if_pos ⟨e.1, e.2.1, by omega⟩]
    · rw [if_neg e]
  unfold put
  rw [show state true = 2 from rfl, if_neg (by have := h2.few; omega)]
theorem top_other {T : List Int} {a b f n : Nat} (h : One T a f n) (ha : a < 4) (hb : b < 4) (hn : f + n ≤ 64) (h1 : 1 ≤ n) (hab : a ≠ b) : (set T b f 1 true).2 = 6 := by
  have ok : okL b f 1 := by unfold okL; omega
  have hag : 0 ≤ against T b f 1 true 4 := by
    by_cases hc : 0 ≤ against T b f 1 true 4
    · exact hc
    · have := against_no 4 (Nat.le_refl _) hc a (by omega) ha hab
      have h2 := (hits_false 1 this f (Nat.le_refl _) (by omega)).1
      rw [h a f (by omega), if_pos ⟨rfl, by omega, by omega⟩] at h2
      exact absurd rfl h2
  unfold set
  rw [if_pos ok]
  simp only [Int.toNat_natCast, Int.toNat_one]
  rw [if_pos hag]
/-- WHO IS ALONE: what the two get, in one. -/
theorem top_law (a b f n : Int) : (¬ okL a f n → set new a f n true = (new, 1)) ∧ (okL a f n → ∃ T, set new a f n true = (T, 0) ∧ OK T ∧
    ((0 ≤ b ∧ b ≤ 3) → a = b → (set T b f 1 true).2 = 0) ∧ ((0 ≤ b ∧ b ≤ 3) → a ≠ b → (set T b f 1 true).2 = 6) ∧ (¬ (0 ≤ b ∧ b ≤ 3) → (set T b f 1 true).2 = 1)) := by
  refine ⟨fun h => if_neg h, fun ok => ?_⟩
  have hk := ok
  obtain ⟨h1, h2, h3⟩ := hk
  obtain ⟨an, rfl⟩ : ∃ k : Nat, a = k := ⟨a.toNat, by omega⟩
  obtain ⟨fn, rfl⟩ : ∃ k : Nat, f = k := ⟨f.toNat, by omega⟩
  obtain ⟨nn, rfl⟩ : ∃ k : Nat, n = k := ⟨n.toNat, by omega⟩
  have ha : an < 4 := by omega
  have hn : fn + nn ≤ 64 := by omega
  have hT := (fill_tab new_ok.tab (f := fn) (n := nn) ha hn (x := 2) (.inr (.inr rfl))).1
  have hone := one_fill ha hn
  have hok := set_ok new_ok an fn nn true
  rw [top_first ok] at hok
  refine ⟨_, top_first ok, hok, fun hb e => ?_, fun hb e => ?_, fun hb => ?_⟩
  · subst e
    exact top_same hT hone ha hn (by omega)
  · obtain ⟨bn, rfl⟩ : ∃ k : Nat, b = k := ⟨b.toNat, by omega⟩
    exact top_other hone ha (by omega) hn (by omega) (by omega)
  · unfold set
    rw [if_neg (fun x => hb x.1)]
theorem new_locks : locks new = [] := new_listTo 4
end Go.Proofs.YtgljklefcfheaaaDoor.Ra
