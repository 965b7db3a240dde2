/- The plain model of package soft (2): what is written keeps the disk safe; a sync writes all. No program in sight. -/
import Derived.Test.YtcldaaebncclmaaDoorSoPlain
namespace Go.Proofs.YtcldaaebncclmaaDoor.So

section
variable {L : List Int} {k : Nat}
theorem inodeAt_ok (h : OK L k) {i : Nat} (hi : i < 8) : OK (inodeAt L i).1 k ∧ (Tru L → Tru (inodeAt L i).1) := by
  unfold inodeAt
  split
  · exact ⟨h, id⟩
  · rename_i hn
    have hl := h.shp.len
    have N : ∀ q, nth (L.set i (nth L (20 + i))) q = if i = q then nth L (20 + i) else nth L q := fun q => nth_set _ _ _ _ (by omega)
    have D : ∀ j : Int, names (L.set i (nth L (20 + i))) 0 j = names L 0 j := fun j => names_off j (by omega)
    have M : ∀ j : Int, names (L.set i (nth L (20 + i))) 20 j = names L 20 j := fun j => names_off j (by omega)
    refine ⟨⟨⟨by simp [hl], fun e he => ?_, fun e he => ?_⟩, fun j hj => ?_, fun j hj => ?_, fun j hj => ?_⟩, fun ht j hj => ?_⟩
    · rw [N, if_neg (by omega)]; exact h.shp.eD e he
    · rw [N, if_neg (by omega)]; exact h.shp.eM e he
    · rw [D, N]
      split
      · rename_i e; subst e; omega
      · exact h.safe j hj
    · rw [M, N, if_neg (by omega)]; exact h.cov j hj
    · rw [N, N, if_neg (show ¬ i = 20 + j by omega)]
      have := h.small j hj
      have h2 := h.small i hi
      refine ⟨?_, by omega⟩
      split <;> omega
    · rw [M, N, if_neg (by omega)]; exact ht j hj
theorem entryAt_ok (h : OK L k) {e : Nat} (he : e < 12) : OK (entryAt L e).1 k ∧ (Tru L → Tru (entryAt L e).1) := by
  unfold entryAt
  split
  · exact ⟨h, id⟩
  · rename_i hn
    show OK (next L e) k ∧ (Tru L → Tru (next L e))
    have hl := h.shp.len
    have N : ∀ q, nth (next L e) q = if 0 + 8 + e = q then nth L (28 + e) else nth L q := fun q => nth_set _ _ _ _ (by omega)
    have D : ∀ j : Nat, names (next L e) 0 j + (if nth L (0 + 8 + e) = j then 1 else 0) = names L 0 j + (if nth L (28 + e) = j then 1 else 0) := fun j => names_set (j : Int) he (by omega)
    have M : ∀ j : Int, names (next L e) 20 j = names L 20 j := fun j => names_off j (by omega)
    refine ⟨⟨⟨by simp [next, hl], fun q hq => ?_, fun q hq => ?_⟩, fun j hj => ?_, fun j hj => ?_, fun j hj => ?_⟩, fun ht j hj => ?_⟩
    · rw [N]
      split
      · exact h.shp.eM e he
      · exact h.shp.eD q hq
    · rw [N, if_neg (by omega)]; exact h.shp.eM q hq
    · rw [N, if_neg (by omega)]
      have h1 := D j
      have h2 := h.safe j hj
      by_cases ej : nth L (28 + e) = j
      · unfold tooMany at hn
        rw [ej, Int.toNat_natCast] at hn
        omega
      · rw [if_neg ej] at h1; omega
    · rw [M, N, if_neg (by omega)]; exact h.cov j hj
    · rw [N, N, if_neg (by omega), if_neg (by omega)]; exact h.small j hj
    · rw [M, N, if_neg (by omega)]; exact ht j hj
theorem inode_ok (h : OK L k) (i : Int) : OK (inode L i).1 k ∧ (Tru L → Tru (inode L i).1) := by
  unfold inode
  split
  · exact ⟨h, id⟩
  · exact inodeAt_ok h (by omega)
theorem entry_ok (h : OK L k) (e : Int) : OK (entry L e).1 k ∧ (Tru L → Tru (entry L e).1) := by
  unfold entry
  split
  · exact ⟨h, id⟩
  · exact entryAt_ok h (by omega)
/-- An entry that goes from the disk. -/
theorem clear_ok (h : OK L k) {e : Nat} (he : e < 12) : OK (L.set (0 + 8 + e) (-1)) k ∧ (Tru L → Tru (L.set (0 + 8 + e) (-1))) := by
  have hl := h.shp.len
  have N : ∀ q, nth (L.set (0 + 8 + e) (-1)) q = if 0 + 8 + e = q then -1 else nth L q := fun q => nth_set _ _ _ _ (by omega)
  have D : ∀ j : Nat, names (L.set (0 + 8 + e) (-1)) 0 j + (if nth L (0 + 8 + e) = j then 1 else 0) = names L 0 j + (if (-1 : Int) = j then 1 else 0) := fun j => names_set (j : Int) he (by omega)
  have M : ∀ j : Int, names (L.set (0 + 8 + e) (-1)) 20 j = names L 20 j := fun j => names_off j (by omega)
  refine ⟨⟨⟨by simp [hl], fun q hq => ?_, fun q hq => ?_⟩, fun j hj => ?_, fun j hj => ?_, fun j hj => ?_⟩, fun ht j hj => ?_⟩
  · rw [N]
    split
    · omega
    · exact h.shp.eD q hq
  · rw [N, if_neg (by omega)]; exact h.shp.eM q hq
  · rw [N, if_neg (by omega)]
    have h1 := D j
    have h2 := h.safe j hj
    rw [if_neg (show ¬ (-1 : Int) = j by omega)] at h1
    omega
  · rw [M, N, if_neg (by omega)]; exact h.cov j hj
  · rw [N, N, if_neg (by omega), if_neg (by omega)]; exact h.small j hj
  · rw [M, N, if_neg (by omega)]; exact ht j hj
theorem p1_ok (h : OK L k) : ∀ n, n ≤ 12 → OK (p1 L n).1 k ∧ (Tru L → Tru (p1 L n).1)
  | 0, _ => ⟨h, id⟩
  | n + 1, hn => by
    obtain ⟨h1, h2⟩ := p1_ok h n (by omega)
    unfold p1
    split
    · obtain ⟨h3, h4⟩ := clear_ok h1 (e := n) (by omega)
      exact ⟨h3, fun ht => h4 (h2 ht)⟩
    · exact ⟨h1, h2⟩
theorem p2_ok {s : List Int × Nat} (h : OK s.1 k) : ∀ n, n ≤ 8 → OK (p2 s n).1 k ∧ (Tru s.1 → Tru (p2 s n).1)
  | 0, _ => ⟨h, id⟩
  | n + 1, hn => by
    obtain ⟨h1, h2⟩ := p2_ok h n (by omega)
    obtain ⟨h3, h4⟩ := inodeAt_ok h1 (i := n) (by omega)
    exact ⟨h3, fun ht => h4 (h2 ht)⟩
theorem p3_ok {s : List Int × Nat} (h : OK s.1 k) : ∀ n, n ≤ 12 → OK (p3 s n).1 k ∧ (Tru s.1 → Tru (p3 s n).1)
  | 0, _ => ⟨h, id⟩
  | n + 1, hn => by
    obtain ⟨h1, h2⟩ := p3_ok h n (by omega)
    obtain ⟨h3, h4⟩ := entryAt_ok h1 (e := n) (by omega)
    exact ⟨h3, fun ht => h4 (h2 ht)⟩
theorem sync_ok (h : OK L k) : OK (sync L).1 k ∧ (Tru L → Tru (sync L).1) := by
  obtain ⟨a1, a2⟩ := p1_ok h 12 (Nat.le_refl _)
  obtain ⟨b1, b2⟩ := p2_ok (s := p1 L 12) a1 8 (Nat.le_refl _)
  obtain ⟨c1, c2⟩ := p3_ok (s := p2 (p1 L 12) 8) b1 12 (Nat.le_refl _)
  exact ⟨c1, fun ht => c2 (b2 (a2 ht))⟩
theorem crash_nth (hl : L.length = 40) (q : Nat) : nth (crash L) q = if q < 20 then nth L q else if q < 40 then nth L (q - 20) else 0 := by
  unfold nth crash
  simp only [List.getD_eq_getElem?_getD, List.getElem?_append, List.getElem?_take, List.length_take, hl]
  by_cases h1 : q < 20
  · rw [if_pos (by omega), if_pos h1, if_pos h1]
  · rw [if_neg (by omega), if_neg h1]
    by_cases h2 : q < 40
    · rw [if_pos (by omega), if_pos h2]; rfl
    · rw [if_neg (by omega), if_neg h2]; rfl
theorem crash_names (hl : L.length = 40) (j : Int) : names (crash L) 0 j = names L 0 j ∧ names (crash L) 20 j = names L 0 j :=
  ⟨namesTo_congr j 12 (fun k hk => by rw [crash_nth hl, if_pos (by omega)]), namesTo_congr j 12 (fun k hk => by rw [crash_nth hl, if_neg (by omega), if_pos (by omega)]; congr 1; omega)⟩
theorem crash_ok (h : OK L k) : OK (crash L) k := by
  have hl := h.shp.len
  refine ⟨⟨by simp [crash, hl], fun e he => ?_, fun e he => ?_⟩, fun j hj => ?_, fun j hj => ?_, fun j hj => ?_⟩
  · rw [crash_nth hl, if_pos (by omega)]; exact h.shp.eD e he
  · rw [crash_nth hl, if_neg (by omega), if_pos (by omega), show 28 + e - 20 = 8 + e by omega]; exact h.shp.eD e he
  · rw [(crash_names hl j).1, crash_nth hl, if_pos (by omega)]; exact h.safe j hj
  · rw [(crash_names hl j).2, crash_nth hl, if_neg (by omega), if_pos (by omega), Nat.add_sub_cancel_left]; exact h.safe j hj
  · rw [crash_nth hl, crash_nth hl, if_pos (by omega), if_neg (by omega), if_pos (by omega), Nat.add_sub_cancel_left]
    have := h.small j hj
    exact ⟨this.1, this.1⟩

/-! ### A sync writes all -/
theorem p1_mem (L : List Int) (hl : L.length = 40) : ∀ n, n ≤ 12 → (p1 L n).1.length = 40 ∧ ∀ q, q < 8 ∨ 20 ≤ q → nth (p1 L n).1 q = nth L q
  | 0, _ => ⟨hl, fun _ _ => rfl⟩
  | n + 1, hn => by
    obtain ⟨h1, h2⟩ := p1_mem L hl n (by omega)
    unfold p1
    split
    · exact ⟨by simp [h1], fun q hq => by rw [nth_set _ _ _ _ (by omega), if_neg (by omega)]; exact h2 q hq⟩
    · exact ⟨h1, h2⟩
theorem p1_ent (L : List Int) (hl : L.length = 40) : ∀ n, n ≤ 12 → ∀ e, e < 12 → nth (p1 L n).1 (8 + e) = if e < n ∧ 0 ≤ nth L (8 + e) ∧ nth L (28 + e) ≠ nth L (8 + e) then -1 else nth L (8 + e)
  | 0, _ => fun e _ => by simp [p1]
  | n + 1, hn => fun e he => by
    have ih := p1_ent L hl n (by omega)
    obtain ⟨h1, h2⟩ := p1_mem L hl n (by omega)
    have hc : (0 ≤ nth (p1 L n).1 (8 + n) ∧ nth (p1 L n).1 (28 + n) ≠ nth (p1 L n).1 (8 + n)) ↔ (0 ≤ nth L (8 + n) ∧ nth L (28 + n) ≠ nth L (8 + n)) := by
      rw [h2 (28 + n) (by omega), ih n (by omega), if_neg (by omega)]
    unfold p1
    by_cases hcc : 0 ≤ nth L (8 + n) ∧ nth L (28 + n) ≠ nth L (8 + n)
    · rw [if_pos (hc.2 hcc), nth_set _ _ _ _ (by omega)]
      by_cases e1 : e = n
      · subst e1; rw [if_pos (by omega), if_pos ⟨by omega, hcc⟩]
      · rw [if_neg (by omega), ih e he]
        have : (e < n + 1) ↔ e < n := by omega
        simp only [this]
    · rw [if_neg (fun h => hcc (hc.1 h)), ih e he]
      by_cases e1 : e = n
      · subst e1; rw [if_neg (by omega), if_neg (fun h => hcc h.2)]
      · have : (e < n + 1) ↔ e < n := by omega
        simp only [this]
/-- Entries on the disk are no others than in memory. -/
def Sub (L : List Int) : Prop := ∀ e, e < 12 → nth L (8 + e) = -1 ∨ nth L (8 + e) = nth L (28 + e)
theorem Sub.names {L : List Int} (h : Sub L) {i : Int} (hi : 0 ≤ i) : names L 0 i ≤ names L 20 i := by
  have : ∀ n, n ≤ 12 → namesTo L 0 i n ≤ namesTo L 20 i n := by
    intro n
    induction n with
    | zero => intro _; exact Nat.le_refl _
    | succ n ih =>
      intro hn
      have h1 := ih (by omega)
      unfold namesTo
      simp only [Nat.zero_add, show 20 + 8 = 28 by rfl]
      rcases h n (by omega) with h2 | h2
      · rw [h2, if_neg (by omega)]; omega
      · rw [h2]; split <;> omega
  exact this 12 (Nat.le_refl _)
theorem p1_sub (h : Shp L) : Sub (p1 L 12).1 := fun e he => by
  have h1 := p1_ent L h.len 12 (Nat.le_refl _) e he
  have h2 := (p1_mem L h.len 12 (Nat.le_refl _)).2 (28 + e) (by omega)
  have h3 := h.eD e he
  rw [h1, h2]
  split
  · exact .inl rfl
  · rename_i hc
    by_cases h4 : nth L (28 + e) = nth L (8 + e)
    · exact .inr h4.symm
    · refine .inl ?_
      have : ¬ 0 ≤ nth L (8 + e) := fun h5 => hc ⟨he, h5, h4⟩
      omega
theorem p2_all {s : List Int × Nat} (h : OK s.1 k) (hs : Sub s.1) : ∀ n, n ≤ 8 → (∀ i, i < n → nth (p2 s n).1 i = nth s.1 (20 + i)) ∧ (∀ q, n ≤ q → nth (p2 s n).1 q = nth s.1 q)
  | 0, _ => ⟨fun _ h => absurd h (Nat.not_lt_zero _), fun _ _ => rfl⟩
  | n + 1, hn => by
    obtain ⟨h1, h2⟩ := p2_all h hs n (by omega)
    have hok := (p2_ok h n (by omega)).1
    have hl := hok.shp.len
    have hnm : ∀ o : Nat, o = 0 ∨ o = 20 → ∀ j : Int, names (p2 s n).1 o j = names s.1 o j := fun o ho j => namesTo_congr j 12 (fun k hk => h2 _ (by omega))
    have hc : ¬ nth (p2 s n).1 (20 + n) < (names (p2 s n).1 0 n : Int) := by
      rw [h2 _ (by omega), hnm 0 (.inl rfl)]
      have a := hs.names (i := (n : Int)) (by omega)
      have b := h.cov n (by omega)
      omega
    have e : (p2 s (n + 1)).1 = (p2 s n).1.set n (nth (p2 s n).1 (20 + n)) := by
      show (inodeAt (p2 s n).1 n).1 = _
      unfold inodeAt; rw [if_neg hc]
    rw [e]
    refine ⟨fun i hi => ?_, fun q hq => ?_⟩
    · rw [nth_set _ _ _ _ (by omega)]
      by_cases e1 : n = i
      · subst e1; rw [if_pos rfl, h2 _ (by omega)]
      · rw [if_neg e1]; exact h1 i (by omega)
    · rw [nth_set _ _ _ _ (by omega), if_neg (by omega)]; exact h2 q (by omega)
theorem p3_all {s : List Int × Nat} (h : OK s.1 k) (hs : Sub s.1) (hc : ∀ i, i < 8 → nth s.1 i = nth s.1 (20 + i)) : ∀ n, n ≤ 12 → (∀ e, e < n → nth (p3 s n).1 (8 + e) = nth s.1 (28 + e)) ∧ (∀ q, q < 8 ∨ 8 + n ≤ q → nth (p3 s n).1 q = nth s.1 q)
  | 0, _ => ⟨fun _ h => absurd h (Nat.not_lt_zero _), fun _ _ => rfl⟩
  | n + 1, hn => by
    obtain ⟨h1, h2⟩ := p3_all h hs hc n (by omega)
    have hok := (p3_ok h n (by omega)).1
    have hl := hok.shp.len
    have N : ∀ q, nth (next (p3 s n).1 n) q = if 0 + 8 + n = q then nth (p3 s n).1 (28 + n) else nth (p3 s n).1 q := fun q => nth_set _ _ _ _ (by omega)
    have hsub : Sub (next (p3 s n).1 n) := fun e he => by
      rw [N, N, if_neg (show ¬ 0 + 8 + n = 28 + e by omega)]
      by_cases e1 : e = n
      · subst e1; rw [if_pos (by omega)]; exact .inr rfl
      · rw [if_neg (by omega), h2 (28 + e) (by omega)]
        by_cases e2 : e < n
        · exact .inr (h1 e e2)
        · rw [h2 (8 + e) (by omega)]; exact hs e he
    have hno : ¬ tooMany (p3 s n).1 n := fun ⟨t1, t2⟩ => by
      have hm := (hok.shp.eM n (by omega)).2
      obtain ⟨j, hj⟩ : ∃ j : Nat, nth (p3 s n).1 (28 + n) = j := ⟨(nth (p3 s n).1 (28 + n)).toNat, by omega⟩
      rw [hj, Int.toNat_natCast] at t2
      have a := hsub.names (i := (j : Int)) (by omega)
      have b : names (next (p3 s n).1 n) 20 j = names s.1 20 j := namesTo_congr _ 12 (fun k hk => by rw [N, if_neg (by omega)]; exact h2 _ (by omega))
      have c := h.cov j (by omega)
      have d := hc j (by omega)
      have e := h2 j (by omega)
      omega
    have e : (p3 s (n + 1)).1 = next (p3 s n).1 n := by
      show (entryAt (p3 s n).1 n).1 = _
      unfold entryAt; rw [if_neg hno]
    rw [e]
    refine ⟨fun e he => ?_, fun q hq => ?_⟩
    · rw [N]
      by_cases e1 : n = e
      · subst e1; rw [if_pos (by omega), h2 _ (by omega)]
      · rw [if_neg (by omega)]; exact h1 e (by omega)
    · rw [N, if_neg (by omega)]; exact h2 q (by omega)
/-- Behind a sync the disk is as memory is, which is as it was. -/
theorem sync_all (h : OK L k) : ∀ q, q < 20 → nth (sync L).1 q = nth L (20 + q) ∧ nth (sync L).1 (20 + q) = nth L (20 + q) := by
  have h1 := (p1_ok h 12 (Nat.le_refl _)).1
  have m1 := (p1_mem L h.shp.len 12 (Nat.le_refl _)).2
  have s1 := p1_sub h.shp
  have h2 := (p2_ok (s := p1 L 12) h1 8 (Nat.le_refl _)).1
  obtain ⟨a1, a2⟩ := p2_all (s := p1 L 12) h1 s1 8 (Nat.le_refl _)
  have s2 : Sub (p2 (p1 L 12) 8).1 := fun e he => by rw [a2 _ (by omega), a2 _ (by omega)]; exact s1 e he
  obtain ⟨b1, b2⟩ := p3_all (s := p2 (p1 L 12) 8) h2 s2 (fun i hi => by rw [a1 i hi, a2 _ (by omega)]) 12 (Nat.le_refl _)
  intro q hq
  have hm : nth (sync L).1 (20 + q) = nth L (20 + q) := by
    show nth (p3 (p2 (p1 L 12) 8) 12).1 (20 + q) = _
    rw [b2 _ (by omega), a2 _ (by omega), m1 _ (by omega)]
  refine ⟨?_, hm⟩
  show nth (p3 (p2 (p1 L 12) 8) 12).1 q = _
  by_cases h8 : q < 8
  · rw [b2 q (by omega), a1 q h8, m1 _ (by omega)]
  · have := b1 (q - 8) (by omega)
    rw [show 8 + (q - 8) = q by omega, show 28 + (q - 8) = 20 + q by omega] at this
    rw [this, a2 _ (by omega), m1 _ (by omega)]
/-- Where the disk is as memory is, a sync writes nothing. -/
theorem sync_idle (h : OK L k) (he : ∀ q, q < 20 → nth L q = nth L (20 + q)) : (sync L).2 = 0 := by
  have e1 : ∀ n, n ≤ 12 → p1 L n = (L, 0) := by
    intro n
    induction n with
    | zero => intro _; rfl
    | succ n ih =>
      intro hn
      unfold p1
      rw [ih (by omega)]
      have h1 := he (8 + n) (by omega)
      rw [show 20 + (8 + n) = 28 + n by omega] at h1
      rw [if_neg (fun hh => hh.2 h1.symm)]
  have hl := h.shp.len
  have setSame : ∀ (M : List Int) (q : Nat), nth M q = nth L q → q < 40 → M = L → M.set q (nth L q) = L := fun M q h1 h2 h3 => by
    subst h3
    apply List.ext_getElem (by simp)
    intro i a b
    rw [List.getElem_set]
    split
    · rename_i e; subst e; simp [nth, List.getD, b]
    · rfl
  have e2 : ∀ n, n ≤ 8 → p2 (L, 0) n = (L, 0) := by
    intro n
    induction n with
    | zero => intro _; rfl
    | succ n ih =>
      intro hn
      unfold p2
      rw [ih (by omega)]
      have h1 := he n (by omega)
      have h2 : (inodeAt L n).1 = L := by
        unfold inodeAt
        split
        · rfl
        · simp only; rw [← h1]; exact setSame L n rfl (by omega) rfl
      simp only [h2]
      rw [if_neg (fun hh => hh.2 h1)]
  have e3 : ∀ n, n ≤ 12 → p3 (L, 0) n = (L, 0) := by
    intro n
    induction n with
    | zero => intro _; rfl
    | succ n ih =>
      intro hn
      unfold p3
      rw [ih (by omega)]
      have h1 := he (8 + n) (by omega)
      rw [show 20 + (8 + n) = 28 + n by omega] at h1
      have h2 : (entryAt L n).1 = L := by
        unfold entryAt
        split
        · rfl
        · simp only [next]; rw [← h1, show 0 + 8 + n = 8 + n by omega]; exact setSame L (8 + n) rfl (by omega) rfl
      simp only [h2]
      rw [if_neg (fun hh => hh.2 h1)]
  unfold sync
  rw [e1 12 (Nat.le_refl _), e2 8 (Nat.le_refl _), e3 12 (Nat.le_refl _)]
end
end Go.Proofs.YtcldaaebncclmaaDoor.So
