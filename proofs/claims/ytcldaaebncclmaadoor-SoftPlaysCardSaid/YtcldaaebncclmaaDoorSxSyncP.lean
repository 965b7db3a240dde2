/- The plain law of a sync: how many writes the document counts. No program in sight. -/
import Derived.Test.YtcldaaebncclmaaDoorSoPlain2
namespace Go.Proofs.YtcldaaebncclmaaDoor.So
variable {L : List Int} {k : Nat}

/-- How many of the first n numbers differ on the disk. -/
def c2 (M : List Int) : Nat → Nat
  | 0 => 0
  | n + 1 => c2 M n + if nth M n ≠ nth M (20 + n) then 1 else 0
def c3 (M : List Int) : Nat → Nat
  | 0 => 0
  | n + 1 => c3 M n + if nth M (8 + n) ≠ nth M (28 + n) then 1 else 0
theorem c2_le (M : List Int) : ∀ n, c2 M n ≤ n
  | 0 => Nat.le_refl _
  | n + 1 => by have := c2_le M n; unfold c2; split <;> omega
theorem c3_le (M : List Int) : ∀ n, c3 M n ≤ n
  | 0 => Nat.le_refl _
  | n + 1 => by have := c3_le M n; unfold c3; split <;> omega
theorem c3_congr {M N : List Int} : ∀ n, n ≤ 12 → (∀ q, 8 ≤ q → nth M q = nth N q) → c3 M n = c3 N n
  | 0, _, _ => rfl
  | n + 1, hn, h => by unfold c3; rw [c3_congr n (by omega) h, h (8 + n) (by omega), h (28 + n) (by omega)]
theorem p2_cnt {s : List Int × Nat} (h : OK s.1 k) (hs : Sub s.1) : ∀ n, n ≤ 8 → (p2 s n).2 = s.2 + c2 s.1 n
  | 0, _ => rfl
  | n + 1, hn => by
    have ih := p2_cnt h hs n (by omega)
    obtain ⟨-, a2⟩ := p2_all h hs n (by omega)
    obtain ⟨b1, -⟩ := p2_all h hs (n + 1) hn
    have e1 := a2 n (Nat.le_refl _)
    have e2 := a2 (20 + n) (by omega)
    have hp : (p2 s (n + 1)).2 = (p2 s n).2 + if (inodeAt (p2 s n).1 n).2 = 0 ∧ nth (p2 s n).1 n ≠ nth (p2 s n).1 (20 + n) then 1 else 0 := rfl
    have hq : (p2 s (n + 1)).1 = (inodeAt (p2 s n).1 n).1 := rfl
    rw [hp, ih, e1, e2]
    show _ = s.2 + (c2 s.1 n + _)
    by_cases hc : (inodeAt (p2 s n).1 n).2 = 0
    · by_cases hd : nth s.1 n ≠ nth s.1 (20 + n)
      · rw [if_pos ⟨hc, hd⟩, if_pos hd]; omega
      · rw [if_neg (fun h => hd h.2), if_neg hd]; omega
    · have h7 : (inodeAt (p2 s n).1 n).1 = (p2 s n).1 := by
        unfold inodeAt at hc ⊢
        split
        · rfl
        · rename_i h; rw [if_neg h] at hc; exact absurd rfl hc
      have hd : ¬ nth s.1 n ≠ nth s.1 (20 + n) := fun hd => by
        have := b1 n (by omega)
        rw [hq, h7, e1] at this
        exact hd this
      rw [if_neg (fun h => hc h.1), if_neg hd]; omega
theorem p3_cnt {s : List Int × Nat} (h : OK s.1 k) (hs : Sub s.1) (hc : ∀ i, i < 8 → nth s.1 i = nth s.1 (20 + i)) : ∀ n, n ≤ 12 → (p3 s n).2 = s.2 + c3 s.1 n
  | 0, _ => rfl
  | n + 1, hn => by
    have ih := p3_cnt h hs hc n (by omega)
    obtain ⟨-, a2⟩ := p3_all h hs hc n (by omega)
    obtain ⟨b1, -⟩ := p3_all h hs hc (n + 1) hn
    have e1 := a2 (8 + n) (by omega)
    have e2 := a2 (28 + n) (by omega)
    have hp : (p3 s (n + 1)).2 = (p3 s n).2 + if (entryAt (p3 s n).1 n).2 = 0 ∧ nth (p3 s n).1 (8 + n) ≠ nth (p3 s n).1 (28 + n) then 1 else 0 := rfl
    have hq : (p3 s (n + 1)).1 = (entryAt (p3 s n).1 n).1 := rfl
    rw [hp, ih, e1, e2]
    show _ = s.2 + (c3 s.1 n + _)
    by_cases ht : (entryAt (p3 s n).1 n).2 = 0
    · by_cases hd : nth s.1 (8 + n) ≠ nth s.1 (28 + n)
      · rw [if_pos ⟨ht, hd⟩, if_pos hd]; omega
      · rw [if_neg (fun h => hd h.2), if_neg hd]; omega
    · have h7 : (entryAt (p3 s n).1 n).1 = (p3 s n).1 := by
        unfold entryAt at ht ⊢
        split
        · rfl
        · rename_i h; rw [if_neg h] at ht; exact absurd rfl ht
      have hd : ¬ nth s.1 (8 + n) ≠ nth s.1 (28 + n) := fun hd => by
        have := b1 n (by omega)
        rw [hq, h7, e1] at this
        exact hd this
      rw [if_neg (fun h => ht h.1), if_neg hd]; omega
/-- How many writes a sync makes. -/
theorem sync_cnt (h : OK L k) : (sync L).2 = (p1 L 12).2 + c2 (p1 L 12).1 8 + c3 (p1 L 12).1 12 := by
  have h1 := (p1_ok h 12 (Nat.le_refl _)).1
  have s1 := p1_sub h.shp
  have h2 := (p2_ok (s := p1 L 12) h1 8 (Nat.le_refl _)).1
  obtain ⟨a1, a2⟩ := p2_all (s := p1 L 12) h1 s1 8 (Nat.le_refl _)
  have s2 : Sub (p2 (p1 L 12) 8).1 := fun e he => by rw [a2 _ (by omega), a2 _ (by omega)]; exact s1 e he
  show (p3 (p2 (p1 L 12) 8) 12).2 = _
  rw [p3_cnt h2 s2 (fun i hi => by rw [a1 i hi, a2 _ (by omega)]) 12 (Nat.le_refl _), p2_cnt h1 s1 8 (Nat.le_refl _), c3_congr (M := (p2 (p1 L 12) 8).1) (N := (p1 L 12).1) 12 (Nat.le_refl _) (fun q hq => a2 q hq)]
end Go.Proofs.YtcldaaebncclmaaDoor.So
