/- TopNames' plain law: an image of a disk that is safe, each entry by its own name, is mended to itself but for the counts. No program in sight. -/
import Derived.Test.YtbohlbnbaomkiaaFkPlain
import Derived.Test.YtbohlbnbaomkiaaSoPlain2
namespace Go.Proofs.Ytbohlbnbaomkiaa

/-- How many of the first n numbers of a list are i. -/
def hitsTo (l : List Int) (i : Int) : Nat → Nat
  | 0 => 0
  | n + 1 => hitsTo l i n + if nth l n = i then 1 else 0
theorem hitsTo_le (l : List Int) (i : Int) : ∀ n, hitsTo l i n ≤ n
  | 0 => Nat.le_refl _
  | n + 1 => by have := hitsTo_le l i n; unfold hitsTo; split <;> omega
theorem hitsTo_pos (l : List Int) (i : Int) (e : Nat) (h : nth l e = i) : ∀ n, e < n → 0 < hitsTo l i n
  | 0, he => by omega
  | n + 1, he => by
    unfold hitsTo
    by_cases hen : e = n
    · subst hen; rw [if_pos h]; omega
    · have := hitsTo_pos l i e h n (by omega); omega
/-- The entries of a row of inodes: those of the first n that name one. -/
def entsOf (es : List Int) (n : Nat) : List (Int × Int) := ((List.range n).filter fun e => decide (0 ≤ nth es e)).map fun e : Nat => ((e : Int), nth es e)
theorem entsOf_step (es : List Int) (n : Nat) : entsOf es (n + 1) = if 0 ≤ nth es n then entsOf es n ++ [((n : Int), nth es n)] else entsOf es n := by
  unfold entsOf
  rw [List.range_succ, List.filter_append, List.map_append]
  by_cases h : 0 ≤ nth es n <;> simp [h]
theorem entsOf_len (es : List Int) (n : Nat) : (entsOf es n).length ≤ n := by
  unfold entsOf
  have := List.length_filter_le (fun e => decide (0 ≤ nth es e)) (List.range n)
  simpa using this
theorem entsOf_mem {es : List Int} {n : Nat} {x : Int × Int} (h : x ∈ entsOf es n) : ∃ e : Nat, e < n ∧ 0 ≤ nth es e ∧ x = ((e : Int), nth es e) := by
  unfold entsOf at h
  rw [List.mem_map] at h
  obtain ⟨e, he, rfl⟩ := h
  obtain ⟨h1, h2⟩ := List.mem_filter.1 he
  exact ⟨e, by simpa using h1, by simpa using h2, rfl⟩
theorem entsOf_pair (es : List Int) (n : Nat) : (entsOf es n).Pairwise (fun a b => a.1 ≠ b.1) := by
  unfold entsOf
  rw [List.pairwise_map]
  have h0 : (List.range n).Pairwise (fun a b => a < b) := List.pairwise_lt_range
  refine (h0.filter (fun e => decide (0 ≤ nth es e))).imp ?_
  intro a b hab
  show (a : Int) ≠ (b : Int)
  omega
theorem entsOf_hits (es : List Int) (i : Int) (hi : 0 ≤ i) : ∀ n, ((entsOf es n).filter fun e => e.2 == i).length = hitsTo es i n
  | 0 => rfl
  | n + 1 => by
    have ih := entsOf_hits es i hi n
    rw [entsOf_step]
    unfold hitsTo
    by_cases h : 0 ≤ nth es n
    · rw [if_pos h, List.filter_append, List.length_append, ih]
      by_cases e : nth es n = i
      · rw [if_pos e]; simp [e]
      · rw [if_neg e]; simp [e]
    · rw [if_neg h, ih, if_neg (by omega)]; omega
theorem hits_names (L : List Int) (i : Int) : ∀ n, n ≤ 12 → hitsTo ((L.drop 8).take 12) i n = So.namesTo L 0 i n
  | 0, _ => rfl
  | n + 1, hn => by
    unfold hitsTo So.namesTo
    rw [hits_names L i n (by omega)]
    have : nth ((L.drop 8).take 12) n = nth L (0 + 8 + n) := by
      unfold nth
      simp only [List.getD_eq_getElem?_getD, List.getElem?_take, List.getElem?_drop]
      rw [if_pos (by omega), Nat.zero_add]
    rw [this]
/-- **TopNames**: a disk that is safe. -/
theorem tn_plain {cs es : List Int} (hc : cs.length = 8) (hb : ∀ i : Nat, i < 8 → (hitsTo es i 12 : Int) ≤ nth cs i ∧ nth cs i ≤ 1000) (he : ∀ e : Nat, e < 12 → nth es e ≤ 7) :
    Fk.check cs (entsOf es 12) = 0 ∧ Fk.mendE cs (entsOf es 12) = entsOf es 12 ∧ ∀ i : Nat, i < 8 → nth (Fk.mendC cs (entsOf es 12)) i = hitsTo es i 12 := by
  have hl := entsOf_len es 12
  have hu : ∀ x ∈ entsOf es 12, Fk.used cs x.2 = true := by
    intro x hx
    obtain ⟨e, h1, h2, rfl⟩ := entsOf_mem hx
    have h7 := he e h1
    rw [Fk.used_spec _ _ h2]
    refine ⟨by show (nth es e).toNat < _; omega, ?_⟩
    show nth cs (nth es e).toNat ≠ 0
    have h3 := hb (nth es e).toNat (by omega)
    have h4 := hitsTo_pos es (((nth es e).toNat : Nat) : Int) e (by omega) 12 h1
    omega
  have hr := fun k hk => Fk.all_right cs (entsOf es 12) (entsOf_pair es 12) hu k hk
  have hE : Fk.mendE cs (entsOf es 12) = entsOf es 12 := by
    have := Fk.kp_all cs _ hr _ (Nat.le_refl _)
    rw [List.take_length] at this
    exact this
  refine ⟨?_, hE, fun i hi => ?_⟩
  · unfold Fk.check
    rw [if_pos ⟨by omega, hl⟩]
    have h1 : Fk.okC cs = true := by
      unfold Fk.okC
      rw [List.all_eq_true]
      intro x hx
      obtain ⟨i, hi, rfl⟩ := List.getElem_of_mem hx
      have := hb i (by omega)
      simp only [nth, List.getD, List.getElem?_eq_getElem hi, Option.getD_some] at this
      simp
      omega
    have h2 : Fk.okE (entsOf es 12) = true := by
      unfold Fk.okE
      rw [List.all_eq_true]
      intro x hx
      obtain ⟨e, h1, h2, rfl⟩ := entsOf_mem hx
      have := he e h1
      simp
      omega
    rw [h1, h2]; rfl
  · rw [Fk.mendC_nth cs _ i (by omega), hE, entsOf_hits es i (by omega)]
end Go.Proofs.Ytbohlbnbaomkiaa
