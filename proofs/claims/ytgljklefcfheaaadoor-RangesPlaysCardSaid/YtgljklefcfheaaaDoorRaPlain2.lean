/- The plain laws of package ranges. No program in sight. -/
import Derived.Test.YtgljklefcfheaaaDoorRaPlain
namespace Go.Proofs.YtgljklefcfheaaaDoor.Ra

theorem fit_ge {T : List Int} {e : Lk} (h : Fit T e) {p : Nat} (h1 : e.2.1 ≤ p) (h2 : p < e.2.1 + e.2.2.1) : st T e.1 p ≠ 0 := by
  rw [h.2.2.2 p h1 h2]; split <;> omega
/-- Two locks that meet are of two owners, and both are shared. -/
theorem meet_law {T : List Int} (h : OK T) {k i : Nat} (hk : k < i) {x y : Lk} (hx : (locks T)[k]? = some x) (hy : (locks T)[i]? = some y) (h1 : y.2.1 < x.2.1 + x.2.2.1) (h2 : x.2.1 < y.2.1 + y.2.2.1) : x.1 ≠ y.1 ∧ x.2.2.2 = false ∧ y.2.2.2 = false := by
  obtain ⟨hf, hp⟩ := locks_fit h.tab
  have fx := hf x (List.mem_of_getElem? hx)
  have fy := hf y (List.mem_of_getElem? hy)
  have hnb : Nb x y := by
    have := List.pairwise_iff_getElem.1 hp k i (List.getElem?_eq_some_iff.1 hx).1 (List.getElem?_eq_some_iff.1 hy).1 hk
    rwa [(List.getElem?_eq_some_iff.1 hx).2, (List.getElem?_eq_some_iff.1 hy).2] at this
  have hne : x.1 ≠ y.1 := fun e => by rcases hnb with h | h <;> omega
  obtain ⟨p, hp1, hp2, hp3, hp4⟩ : ∃ p, x.2.1 ≤ p ∧ p < x.2.1 + x.2.2.1 ∧ y.2.1 ≤ p ∧ p < y.2.1 + y.2.2.1 := by
    have a := fx.2.1
    have b := fy.2.1
    by_cases hxy : x.2.1 ≤ y.2.1
    · exact ⟨y.2.1, by omega, by omega, by omega, by omega⟩
    · exact ⟨x.2.1, by omega, by omega, by omega, by omega⟩
  have sx := fx.2.2.2 p hp1 hp2
  have sy := fy.2.2.2 p hp3 hp4
  have p64 : p < 64 := by have := fx.2.2.1; omega
  refine ⟨hne, ?_, ?_⟩
  · cases hx2 : x.2.2.2 with
    | false => rfl
    | true =>
      rw [hx2] at sx
      exact absurd (h.alone _ _ p fx.1 fy.1 p64 hne (by simpa using sx)) (fit_ge fy hp3 hp4)
  · cases hy2 : y.2.2.2 with
    | false => rfl
    | true =>
      rw [hy2] at sy
      exact absurd (h.alone _ _ p fy.1 fx.1 p64 (Ne.symm hne) (by simpa using sy)) (fit_ge fx hp1 hp2)
theorem nb_law {T : List Int} (h : OK T) {k i : Nat} (hk : k < i) {x y : Lk} (hx : (locks T)[k]? = some x) (hy : (locks T)[i]? = some y) : Nb x y := by
  have := List.pairwise_iff_getElem.1 (locks_fit h.tab).2 k i (List.getElem?_eq_some_iff.1 hx).1 (List.getElem?_eq_some_iff.1 hy).1 hk
  rwa [(List.getElem?_eq_some_iff.1 hx).2, (List.getElem?_eq_some_iff.1 hy).2] at this
theorem right_law {T : List Int} (h : OK T) {x : Lk} (hx : x ∈ locks T) : okL x.1 x.2.1 x.2.2.1 := by
  have := (locks_fit h.tab).1 x hx
  unfold okL
  have a := this.1
  have b := this.2.1
  have c := this.2.2.1
  omega
theorem rowTo_congr {T U : List Int} {w : Nat} : ∀ p, p ≤ 64 → (∀ q, q < 64 → st T w q = st U w q) → rowTo T w p = rowTo U w p
  | 0, _, _ => rfl
  | p + 1, hp, h => by
    unfold rowTo
    rw [rowTo_congr p (by omega) h, h p (by omega)]
    by_cases h0 : 0 < p
    · rw [h (p - 1) (by omega)]
    · simp [h0]
theorem rowTo_clear {T : List Int} {w : Nat} : ∀ p, (∀ q, q < p → st T w q = 0) → rowTo T w p = []
  | 0, _ => rfl
  | p + 1, h => by unfold rowTo; rw [if_pos (h p (by omega))]; exact rowTo_clear p (fun q hq => h q (by omega))
theorem clear_few {T : List Int} (hT : Tab T) {o : Nat} (ho : o < 4) : ∀ w, w ≤ 4 → (listTo (fillTo T o 0 0 64) w).length ≤ (listTo T w).length
  | 0, _ => by simp [listTo]
  | w + 1, hw => by
    have ih := clear_few hT ho w (by omega)
    unfold listTo
    rw [List.length_append, List.length_append]
    by_cases e : w = o
    · subst e
      rw [rowTo_clear 64 (fun q hq => by rw [fill_st hT.1 ho (by omega) _ _ _ hq, if_pos ⟨rfl, by omega, by omega⟩])]
      simp; omega
    · rw [rowTo_congr (T := fillTo T o 0 0 64) (U := T) 64 (Nat.le_refl _) (fun q hq => by rw [fill_st hT.1 ho (by omega) _ _ _ hq, if_neg (fun h => e h.1)])]
      omega
theorem free_all {T : List Int} (h : OK T) {o : Nat} (ho : o < 4) : free T o 0 64 = (fillTo T o 0 0 64, 0) := by
  have := clear_few h.tab ho 4 (Nat.le_refl _)
  have hf := h.few
  unfold locks at hf
  unfold free put
  rw [if_pos (by unfold okL; omega)]
  show (if 24 < (listTo (fillTo T (o : Int).toNat (0 : Int).toNat 0 (64 : Int).toNat) 4).length then _ else _) = _
  rw [Int.toNat_natCast]
  rw [show (0 : Int).toNat = 0 from rfl, show (64 : Int).toNat = 64 from rfl, if_neg (by omega)]
theorem gone {T : List Int} (hT : Tab T) {o : Nat} (ho : o < 4) {x : Lk} (hx : x ∈ locks (fillTo T o 0 0 64)) : x.1 ≠ o := fun e => by
  have hT' := fill_tab hT (f := 0) (n := 64) ho (by omega) (x := 0) (.inl rfl)
  have hf := (locks_fit hT').1 x hx
  have a := hf.2.1
  have b := hf.2.2.1
  refine fit_ge hf (Nat.le_refl _) (by omega) ?_
  rw [fill_st hT.1 ho (by omega) _ _ _ (by omega), if_pos ⟨e, by omega, by omega⟩]
theorem hits_mono {T : List Int} {w f : Nat} {a : Bool} {m : Nat} : ∀ n, m ≤ n → hits T w f a m = true → hits T w f a n = true
  | 0, hm, h => by obtain rfl : m = 0 := by omega
                   exact h
  | n + 1, hm, h => by
    by_cases e : m = n + 1
    · subst e; exact h
    · unfold hits; rw [hits_mono n (by omega) h]; rfl
theorem hits_congr {T U : List Int} {w f : Nat} {a : Bool} : ∀ n, f + n ≤ 64 → (∀ q, q < 64 → st T w q = st U w q) → hits T w f a n = hits U w f a n
  | 0, _, _ => rfl
  | n + 1, hn, h => by unfold hits; rw [hits_congr n (by omega) h, h (f + n) (by omega)]
theorem against_congr {T U : List Int} {o f n : Nat} {a : Bool} (hn : f + n ≤ 64) (h : ∀ w q, w ≠ o → q < 64 → st T w q = st U w q) : ∀ k, against T o f n a k = against U o f n a k
  | 0 => rfl
  | k + 1 => by
    unfold against
    rw [against_congr hn h k]
    by_cases e : 3 - k = o
    · rw [if_neg (fun hh => hh.1 e), if_neg (fun hh => hh.1 e)]
    · rw [hits_congr n hn (fun q hq => h _ q e hq)]
theorem against_le (T : List Int) (o f n : Nat) (a : Bool) : ∀ k, k ≤ 4 → -1 ≤ against T o f n a k ∧ against T o f n a k ≤ 3
  | 0, _ => by simp [against]
  | k + 1, hk => by 
    unfold against
    split
    · omega
    · exact against_le T o f n a k (by omega)
theorem against_hit {T : List Int} {o f n : Nat} {a : Bool} : ∀ k, 0 ≤ against T o f n a k → ∃ w : Nat, against T o f n a k = w ∧ w ≠ o ∧ hits T w f a n = true
  | 0, h => by simp [against] at h
  | k + 1, h => by
    unfold against at h ⊢
    split
    · rename_i hc; exact ⟨_, rfl, hc.1, hc.2⟩
    · rename_i hc; rw [if_neg hc] at h; exact against_hit k h
theorem hits_true {T : List Int} {w f : Nat} {a : Bool} : ∀ n, hits T w f a n = true → ∃ p, f ≤ p ∧ p < f + n ∧ st T w p ≠ 0
  | 0, h => by simp [hits] at h
  | n + 1, h => by
    unfold hits at h
    simp only [Bool.or_eq_true, Bool.and_eq_true, decide_eq_true_eq] at h
    rcases h with h | h | h
    · obtain ⟨p, h1, h2, h3⟩ := hits_true n h
      exact ⟨p, h1, by omega, h3⟩
    · exact ⟨f + n, by omega, by omega, by omega⟩
    · exact ⟨f + n, by omega, by omega, by omega⟩
/-- What is set then, or not, stands against the same one. -/
theorem test_again {T : List Int} (h : OK T) {o f n : Int} {a : Bool} (ho : okL o f n) : test (set T o f n a).1 o f n a = test T o f n a := by
  unfold test
  rw [if_pos ho, if_pos ho]
  congr 1
  unfold okL at ho
  refine against_congr (by omega) (fun w q hw hq => ?_) 4
  unfold set
  split
  · split
    · rfl
    · unfold put
      split
      · rfl
      · simp only
        rw [fill_st h.tab.1 (by omega) (by omega) _ _ _ hq, if_neg (fun hh => hw hh.1)]
  · rfl
theorem set_codes (T : List Int) {o f n : Int} {a : Bool} (ho : okL o f n) : (0 ≤ (test T o f n a).1 → (set T o f n a).2 = 6) ∧ (¬ 0 ≤ (test T o f n a).1 → (set T o f n a).2 = 0 ∨ (set T o f n a).2 = 4) := by
  unfold test set
  rw [if_pos ho, if_pos ho]
  refine ⟨fun h => by rw [if_pos h], fun h => ?_⟩
  rw [if_neg h]
  unfold put
  split
  · exact .inr rfl
  · exact .inl rfl
/-- Whoever stands against a lock behind the freeing is neither the owner that freed all nor the lock's own. -/
theorem test_other {T : List Int} (h : OK T) {w0 : Nat} (hw : w0 < 4) {o f n : Int} {a : Bool} (ho : okL o f n) (ht : 0 ≤ (test (fillTo T w0 0 0 64) o f n a).1) : (test (fillTo T w0 0 0 64) o f n a).1 ≠ w0 ∧ (test (fillTo T w0 0 0 64) o f n a).1 ≠ o := by
  unfold test at ht ⊢
  rw [if_pos ho] at ht ⊢
  simp only at ht ⊢
  obtain ⟨w, h1, h2, h3⟩ := against_hit 4 ht
  rw [h1]
  unfold okL at ho
  obtain ⟨p, h4, h5, h6⟩ := hits_true _ h3
  refine ⟨fun e => h6 ?_, by omega⟩
  have e' : w = w0 := by omega
  rw [fill_st h.tab.1 hw (by omega) _ _ _ (by omega), if_pos ⟨e', by omega, by omega⟩]
end Go.Proofs.YtgljklefcfheaaaDoor.Ra
