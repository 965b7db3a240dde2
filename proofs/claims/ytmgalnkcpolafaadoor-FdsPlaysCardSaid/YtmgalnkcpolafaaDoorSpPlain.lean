/- The plain model of a file with holes: its size, 64 bytes, and of 16 blocks whether it has them (1). No program in sight. -/
import Derived.Test.YtmgalnkcpolafaaDoorBase
namespace Go.Proofs.YtmgalnkcpolafaaDoor.Sp

structure F where
  size : Nat
  byt : List Int
  blk : List Int
def new : F := ⟨0, List.replicate 64 0, List.replicate 16 0⟩
/-- The first n numbers of l, written from a place on. -/
def wrB (byt : List Int) (at_ : Nat) (l : List Int) : Nat → List Int
  | 0 => byt
  | n + 1 => (wrB byt at_ l n).set (at_ + n) (nth l n)
def wrK (blk : List Int) (at_ : Nat) : Nat → List Int
  | 0 => blk
  | n + 1 => (wrK blk at_ n).set ((at_ + n) / 4) 1
def okL (l : List Int) : Bool := l.all fun x => decide (0 ≤ x ∧ x ≤ 255)
/-- What is wrong with a writing. -/
def wrong (at_ : Int) (l : List Int) : Int :=
  if 64 < l.length then 4 else if okL l = false then 1 else if ¬ (0 ≤ at_ ∧ at_ ≤ 64) then 1 else if 64 < at_ + l.length then 4 else 0
def wr (f : F) (at_ : Nat) (l : List Int) : F := ⟨if 0 < l.length then max f.size (at_ + l.length) else f.size, wrB f.byt at_ l l.length, wrK f.blk at_ l.length⟩
def write (f : F) (at_ : Int) (l : List Int) : F := if wrong at_ l = 0 then wr f at_.toNat l else f
def cutB (byt : List Int) (s : Nat) : List Int := (List.range 64).map fun p => if p < s then nth byt p else 0
def cutK (blk : List Int) (s : Nat) : List Int := (List.range 16).map fun i => if 4 * i < s then nth blk i else 0
def ct (f : F) (s : Nat) : F := ⟨s, cutB f.byt s, cutK f.blk s⟩
def cut (f : F) (s : Int) : F := if 0 ≤ s ∧ s ≤ 64 then ct f s.toNat else f
/-- The bytes from one place to another. -/
def cutOut (byt : List Int) (a n : Nat) : List Int := (byt.drop a).take n
/-- The blocks' numbers, of the first n. -/
def blocks (blk : List Int) (n : Nat) : List Int := ((List.range n).filter fun i => nth blk i == 1).map fun i : Nat => (i : Int)

structure OK (f : F) : Prop where
  lenB : f.byt.length = 64
  lenK : f.blk.length = 16
  size : f.size ≤ 64
  bit : ∀ i, nth f.blk i = 0 ∨ nth f.blk i = 1
  zero : ∀ p, (nth f.blk (p / 4) = 0 ∨ f.size ≤ p) → nth f.byt p = 0
  low : ∀ i, nth f.blk i = 1 → 4 * i < f.size

theorem nth_set (l : List Int) (q : Nat) (x : Int) (i : Nat) (h : q < l.length) : nth (l.set q x) i = if q = i then x else nth l i := by
  unfold nth
  simp only [List.getD_eq_getElem?_getD, List.getElem?_set]
  split
  · rename_i e; subst e; simp
  · rfl
theorem nth_out (l : List Int) (i : Nat) (h : l.length ≤ i) : nth l i = 0 := by simp [nth, List.getD, h]
theorem nth_replicate (n i : Nat) : nth (List.replicate n 0) i = 0 := by
  unfold nth
  simp only [List.getD_eq_getElem?_getD, List.getElem?_replicate]
  split <;> rfl
theorem wrB_len (byt : List Int) (a : Nat) (l : List Int) : ∀ n, (wrB byt a l n).length = byt.length
  | 0 => rfl
  | n + 1 => by unfold wrB; rw [List.length_set]; exact wrB_len byt a l n
theorem wrK_len (blk : List Int) (a : Nat) : ∀ n, (wrK blk a n).length = blk.length
  | 0 => rfl
  | n + 1 => by unfold wrK; rw [List.length_set]; exact wrK_len blk a n
theorem wrB_nth (byt : List Int) (a : Nat) (l : List Int) (i : Nat) : ∀ n, a + n ≤ byt.length → nth (wrB byt a l n) i = if a ≤ i ∧ i < a + n then nth l (i - a) else nth byt i
  | 0, _ => by unfold wrB; rw [if_neg (by omega)]
  | n + 1, h => by
    unfold wrB
    rw [nth_set _ _ _ _ (by rw [wrB_len]; omega), wrB_nth byt a l i n (by omega)]
    by_cases e : a + n = i
    · rw [if_pos e, if_pos (by omega), show i - a = n by omega]
    · rw [if_neg e]
      by_cases h1 : a ≤ i ∧ i < a + n
      · rw [if_pos h1, if_pos (by omega)]
      · rw [if_neg h1, if_neg (by omega)]
/-- Is a block touched by n bytes from a place on? -/
theorem wrK_nth (blk : List Int) (a i : Nat) : ∀ n, a + n ≤ 4 * blk.length → nth (wrK blk a n) i = if ∃ j, j < n ∧ (a + j) / 4 = i then 1 else nth blk i
  | 0, _ => by unfold wrK; rw [if_neg (by rintro ⟨j, h, _⟩; omega)]
  | n + 1, h => by
    unfold wrK
    rw [nth_set _ _ _ _ (by rw [wrK_len]; omega), wrK_nth blk a i n (by omega)]
    by_cases e : (a + n) / 4 = i
    · rw [if_pos e, if_pos ⟨n, by omega, e⟩]
    · rw [if_neg e]
      by_cases h1 : ∃ j, j < n ∧ (a + j) / 4 = i
      · obtain ⟨j, h2, h3⟩ := h1
        rw [if_pos ⟨j, h2, h3⟩, if_pos ⟨j, by omega, h3⟩]
      · rw [if_neg h1, if_neg]
        rintro ⟨j, h2, h3⟩
        by_cases hj : j = n
        · subst hj; exact e h3
        · exact h1 ⟨j, by omega, h3⟩
theorem cutB_nth (byt : List Int) (s p : Nat) (h : byt.length = 64) : nth (cutB byt s) p = if p < s then nth byt p else 0 := by
  by_cases hp : p < 64
  · simp [cutB, nth, List.getD, hp]
  · rw [nth_out _ _ (by simp [cutB]; omega), nth_out byt _ (by omega)]
    split <;> rfl
theorem cutK_nth (blk : List Int) (s i : Nat) (h : blk.length = 16) : nth (cutK blk s) i = if 4 * i < s then nth blk i else 0 := by
  by_cases hp : i < 16
  · simp [cutK, nth, List.getD, hp]
  · rw [nth_out _ _ (by simp [cutK]; omega), nth_out blk _ (by omega)]
    split <;> rfl

theorem new_ok : OK new := ⟨rfl, rfl, Nat.zero_le _, fun i => .inl (nth_replicate 16 i), fun p _ => nth_replicate 64 p, fun i h => by rw [show nth new.blk i = 0 from nth_replicate 16 i] at h; cases h⟩
theorem wrong_zero {at_ : Int} {l : List Int} (h : wrong at_ l = 0) : l.length ≤ 64 ∧ okL l = true ∧ 0 ≤ at_ ∧ at_ + l.length ≤ 64 := by
  unfold wrong at h
  split at h
  · cases h
  · split at h
    · cases h
    · rename_i h2
      split at h
      · cases h
      · split at h
        · cases h
        · refine ⟨by omega, by simpa using h2, by omega, by omega⟩
theorem wr_ok {f : F} (h : OK f) {a : Nat} {l : List Int} (hl : a + l.length ≤ 64) : OK (wr f a l) := by
  have hK := fun i => wrK_nth f.blk a i l.length (by rw [h.lenK]; omega)
  have hB := fun i => wrB_nth f.byt a l i l.length (by rw [h.lenB]; omega)
  have hs : f.size ≤ (wr f a l).size := by unfold wr; simp only; split <;> omega
  have hs2 : 0 < l.length → a + l.length ≤ (wr f a l).size := by intro h0; unfold wr; simp only; rw [if_pos h0]; omega
  refine ⟨by unfold wr; rw [wrB_len, h.lenB], by unfold wr; rw [wrK_len, h.lenK], ?_, fun i => ?_, fun p hp => ?_, fun i hi => ?_⟩
  · have := h.size
    unfold wr
    simp only
    split <;> omega
  · show nth (wrK f.blk a l.length) i = 0 ∨ nth (wrK f.blk a l.length) i = 1
    rw [hK]
    split
    · exact .inr rfl
    · exact h.bit i
  · have hp' : nth (wrK f.blk a l.length) (p / 4) = 0 ∨ (wr f a l).size ≤ p := hp
    show nth (wrB f.byt a l l.length) p = 0
    rw [hB]
    rw [hK] at hp'
    by_cases hin : a ≤ p ∧ p < a + l.length
    · exfalso
      rcases hp' with hp' | hp'
      · rw [if_pos ⟨p - a, by omega, by rw [show a + (p - a) = p by omega]⟩] at hp'
        cases hp'
      · have := hs2 (by omega)
        omega
    · rw [if_neg hin]
      apply h.zero
      rcases hp' with hp' | hp'
      · split at hp'
        · cases hp'
        · exact .inl hp'
      · exact .inr (by omega)
  · have hi' : nth (wrK f.blk a l.length) i = 1 := hi
    rw [hK] at hi'
    split at hi'
    · rename_i hx
      obtain ⟨j, h1, h2⟩ := hx
      have := hs2 (by omega)
      omega
    · have := h.low i hi'
      omega
theorem wrK_bit {f : F} (h : OK f) {a n : Nat} (hn : a + n ≤ 64) (i : Nat) : nth (wrK f.blk a n) i = 0 ∨ nth (wrK f.blk a n) i = 1 := by
  rw [wrK_nth _ _ _ _ (by rw [h.lenK]; omega)]
  split
  · exact .inr rfl
  · exact h.bit i
theorem wrB_zero {f : F} (h : OK f) {a n i : Nat} {l : List Int} (hn : a + n ≤ 64) (h0 : nth (wrK f.blk a n) i = 0) (j : Nat) (hj : j < 4) : nth (wrB f.byt a l n) (4 * i + j) = 0 := by
  rw [wrK_nth _ _ _ _ (by rw [h.lenK]; omega)] at h0
  rw [wrB_nth _ _ _ _ _ (by rw [h.lenB]; omega)]
  split at h0
  · cases h0
  · rename_i hx
    rw [if_neg (fun hh => hx ⟨4 * i + j - a, by omega, by rw [show a + (4 * i + j - a) = 4 * i + j by omega]; omega⟩)]
    exact h.zero _ (.inl (by rw [show (4 * i + j) / 4 = i by omega]; exact h0))
theorem set_one {l : List Int} {i : Nat} (h : nth l i = 1) (hi : i < l.length) : l.set i 1 = l := by
  apply List.ext_getElem?
  intro q
  rw [List.getElem?_set]
  split
  · rename_i e
    subst e
    rw [List.getElem?_eq_getElem hi]
    simp only [nth, List.getD, List.getElem?_eq_getElem hi, Option.getD_some] at h
    rw [h]
  · rfl
theorem write_ok {f : F} (h : OK f) (a : Int) (l : List Int) : OK (write f a l) := by
  unfold write
  split
  · rename_i hw
    obtain ⟨_, _, h1, h2⟩ := wrong_zero hw
    exact wr_ok h (by omega)
  · exact h
theorem ct_ok {f : F} (h : OK f) {s : Nat} (hs : s ≤ 64) : OK (ct f s) := by
  refine ⟨by simp [ct, cutB], by simp [ct, cutK], hs, fun i => ?_, fun p hp => ?_, fun i hi => ?_⟩
  · show nth (cutK f.blk s) i = 0 ∨ nth (cutK f.blk s) i = 1
    rw [cutK_nth _ _ _ h.lenK]
    split
    · exact h.bit i
    · exact .inl rfl
  · show nth (cutB f.byt s) p = 0
    rw [cutB_nth _ _ _ h.lenB]
    have hp' : nth (cutK f.blk s) (p / 4) = 0 ∨ s ≤ p := hp
    rw [cutK_nth _ _ _ h.lenK] at hp'
    split
    · rename_i hps
      rcases hp' with hp' | hp'
      · rw [if_pos (by omega)] at hp'
        exact h.zero p (.inl hp')
      · omega
    · rfl
  · have hi' : nth (cutK f.blk s) i = 1 := hi
    rw [cutK_nth _ _ _ h.lenK] at hi'
    split at hi'
    · assumption
    · cases hi'
theorem cut_ok {f : F} (h : OK f) (s : Int) : OK (cut f s) := by
  unfold cut
  split
  · exact ct_ok h (by omega)
  · exact h
theorem blocks_step (blk : List Int) (n : Nat) : blocks blk (n + 1) = if nth blk n = 1 then blocks blk n ++ [(n : Int)] else blocks blk n := by
  unfold blocks
  rw [List.range_succ, List.filter_append, List.map_append]
  by_cases h : nth blk n = 1 <;> simp [h]
theorem blocks_len (blk : List Int) (n : Nat) : (blocks blk n).length ≤ n := by
  unfold blocks
  have := List.length_filter_le (fun i => nth blk i == 1) (List.range n)
  simpa using this
theorem blocks_mem {blk : List Int} {n : Nat} {x : Int} : x ∈ blocks blk n ↔ ∃ i : Nat, i < n ∧ nth blk i = 1 ∧ x = (i : Int) := by
  unfold blocks
  rw [List.mem_map]
  constructor
  · rintro ⟨i, hi, rfl⟩
    obtain ⟨h1, h2⟩ := List.mem_filter.1 hi
    exact ⟨i, by simpa using h1, by simpa using h2, rfl⟩
  · rintro ⟨i, h1, h2, rfl⟩
    exact ⟨i, List.mem_filter.2 ⟨by simpa using h1, by simpa using h2⟩, rfl⟩
theorem blocks_rise (blk : List Int) (n : Nat) : (blocks blk n).Pairwise (· < ·) := by
  unfold blocks
  rw [List.pairwise_map]
  have h0 : (List.range n).Pairwise (fun a b => a < b) := List.pairwise_lt_range
  refine (h0.filter (fun i => nth blk i == 1)).imp ?_
  intro a b hab
  omega
theorem cutOut_len (byt : List Int) (a n : Nat) (h : a + n ≤ byt.length) : (cutOut byt a n).length = n := by unfold cutOut; rw [List.length_take, List.length_drop]; omega
theorem cutOut_nth (byt : List Int) (a n i : Nat) (h : i < n) : nth (cutOut byt a n) i = nth byt (a + i) := by
  unfold cutOut nth
  simp only [List.getD_eq_getElem?_getD, List.getElem?_take, List.getElem?_drop]
  rw [if_pos h]

/-! ### A cut, block by block: L says which blocks are still to come -/
def pcB (byt : List Int) (s : Nat) (L : Nat → Bool) : List Int := (List.range 64).map fun p => if L (p / 4) = true then nth byt p else if p < s then nth byt p else 0
def pcK (blk : List Int) (s : Nat) (L : Nat → Bool) : List Int := (List.range 16).map fun i => if L i = true then nth blk i else if 4 * i < s then nth blk i else 0
/-- The first n bytes of block i, cut. -/
def zI (byt : List Int) (i s : Nat) : Nat → List Int
  | 0 => byt
  | n + 1 => if s ≤ 4 * i + n then (zI byt i s n).set (4 * i + n) 0 else zI byt i s n
theorem pcB_len (byt : List Int) (s : Nat) (L : Nat → Bool) : (pcB byt s L).length = 64 := by simp [pcB]
theorem pcK_len (blk : List Int) (s : Nat) (L : Nat → Bool) : (pcK blk s L).length = 16 := by simp [pcK]
theorem pcB_nth (byt : List Int) (s : Nat) (L : Nat → Bool) (p : Nat) (h : p < 64) : nth (pcB byt s L) p = if L (p / 4) = true then nth byt p else if p < s then nth byt p else 0 := by simp [pcB, nth, List.getD, h]
theorem pcK_nth (blk : List Int) (s : Nat) (L : Nat → Bool) (i : Nat) (h : i < 16) : nth (pcK blk s L) i = if L i = true then nth blk i else if 4 * i < s then nth blk i else 0 := by simp [pcK, nth, List.getD, h]
theorem eq_of_nth {xs ys : List Int} (hl : xs.length = ys.length) (h : ∀ j, j < xs.length → nth xs j = nth ys j) : xs = ys := by
  apply List.ext_getElem hl
  intro i h1 h2
  have := h i h1
  simpa [nth, List.getD, h1, h2] using this
theorem zI_len (byt : List Int) (i s : Nat) : ∀ n, (zI byt i s n).length = byt.length
  | 0 => rfl
  | n + 1 => by unfold zI; split <;> simp [zI_len byt i s n]
theorem zI_nth (byt : List Int) (i s : Nat) (hl : byt.length = 64) (hi : i < 16) (p : Nat) : ∀ n, n ≤ 4 → nth (zI byt i s n) p = if 4 * i ≤ p ∧ p < 4 * i + n ∧ s ≤ p then 0 else nth byt p
  | 0, _ => by unfold zI; rw [if_neg (by omega)]
  | n + 1, hn => by
    unfold zI
    split
    · rename_i hs
      rw [nth_set _ _ _ _ (by rw [zI_len]; omega), zI_nth byt i s hl hi p n (by omega)]
      by_cases e : 4 * i + n = p
      · rw [if_pos e, if_pos (by omega)]
      · rw [if_neg e]
        by_cases h1 : 4 * i ≤ p ∧ p < 4 * i + n ∧ s ≤ p
        · rw [if_pos h1, if_pos (by omega)]
        · rw [if_neg h1, if_neg (by omega)]
    · rename_i hs
      rw [zI_nth byt i s hl hi p n (by omega)]
      by_cases h1 : 4 * i ≤ p ∧ p < 4 * i + n ∧ s ≤ p
      · rw [if_pos h1, if_pos (by omega)]
      · rw [if_neg h1, if_neg (by omega)]
theorem pc_start {f : F} (h : OK f) (s : Nat) {L : Nat → Bool} (hL : ∀ i, i < 16 → L i = false → nth f.blk i ≠ 1) : pcB f.byt s L = f.byt ∧ pcK f.blk s L = f.blk := by
  constructor
  · refine eq_of_nth (by rw [pcB_len, h.lenB]) (fun p hp => ?_)
    rw [pcB_len] at hp
    rw [pcB_nth _ _ _ _ hp]
    split
    · rfl
    · rename_i h1
      have h0 := h.zero p (.inl ((h.bit (p / 4)).resolve_right (hL (p / 4) (by omega) (by simpa using h1))))
      rw [h0]; split <;> rfl
  · refine eq_of_nth (by rw [pcK_len, h.lenK]) (fun i hi => ?_)
    rw [pcK_len] at hi
    rw [pcK_nth _ _ _ _ hi]
    split
    · rfl
    · rename_i h1
      have h0 := (h.bit i).resolve_right (hL i hi (by simpa using h1))
      rw [h0]; split <;> rfl
theorem pc_end (f : F) (s : Nat) {L : Nat → Bool} (hL : ∀ i, L i = false) : pcB f.byt s L = cutB f.byt s ∧ pcK f.blk s L = cutK f.blk s := by
  constructor
  · unfold pcB cutB
    apply List.map_congr_left
    intro p _
    rw [hL, if_neg (by decide)]
  · unfold pcK cutK
    apply List.map_congr_left
    intro i _
    rw [hL, if_neg (by decide)]
theorem pcB_step (byt : List Int) (s i : Nat) (hi : i < 16) {L L' : Nat → Bool} (h1 : L i = true) (hL : ∀ z, L' z = (L z && !(z == i))) : zI (pcB byt s L) i s 4 = pcB byt s L' := by
  refine eq_of_nth (by rw [zI_len, pcB_len, pcB_len]) (fun p hp => ?_)
  rw [zI_len, pcB_len] at hp
  rw [zI_nth _ _ _ (pcB_len _ _ _) hi _ _ (Nat.le_refl _), pcB_nth _ _ _ _ hp, pcB_nth _ _ _ _ hp, hL]
  by_cases e : p / 4 = i
  · rw [e, h1]
    simp only [beq_self_eq_true, Bool.not_true, Bool.and_false, if_true]
    rw [if_neg (show ¬ (false = true) by decide)]
    by_cases hs : p < s
    · rw [if_neg (by omega), if_pos hs]
    · rw [if_pos (by omega), if_neg hs]
  · have e2 : (p / 4 == i) = false := by simpa using e
    rw [if_neg (by omega), e2]
    simp
theorem pcK_keep (blk : List Int) (s i : Nat) (hs : 4 * i < s) {L L' : Nat → Bool} (hL : ∀ z, L' z = (L z && !(z == i))) : pcK blk s L' = pcK blk s L := by
  unfold pcK
  apply List.map_congr_left
  intro q _
  rw [hL]
  by_cases e : q = i
  · subst e
    rw [if_pos hs]
    simp
  · have e2 : (q == i) = false := by simpa using e
    rw [e2]; simp
theorem pcK_drop (blk : List Int) (s i : Nat) (hi : i < 16) (hs : s ≤ 4 * i) {L L' : Nat → Bool} (hL : ∀ z, L' z = (L z && !(z == i))) : pcK blk s L' = (pcK blk s L).set i 0 := by
  refine eq_of_nth (by rw [List.length_set, pcK_len, pcK_len]) (fun q hq => ?_)
  rw [pcK_len] at hq
  rw [nth_set _ _ _ _ (by rw [pcK_len]; exact hi), pcK_nth _ _ _ _ hq, pcK_nth _ _ _ _ hq, hL]
  by_cases e : i = q
  · subst e
    have e3 : (L i && !(i == i)) = false := by simp
    rw [if_pos rfl, e3, if_neg (by decide), if_neg (by omega)]
  · have e2 : (q == i) = false := by simp; omega
    rw [if_neg e, e2]; simp
/-- Bytes of a block that goes do not matter. -/
theorem pcB_other (byt : List Int) (s i q : Nat) (hq : q < 16) (hqi : q ≠ i) {L L' : Nat → Bool} (hL : ∀ z, L' z = (L z && !(z == i))) : cutOut (pcB byt s L') (4 * q) 4 = cutOut (pcB byt s L) (4 * q) 4 := by
  refine eq_of_nth (by rw [cutOut_len _ _ _ (by rw [pcB_len]; omega), cutOut_len _ _ _ (by rw [pcB_len]; omega)]) (fun j hj => ?_)
  rw [cutOut_len _ _ _ (by rw [pcB_len]; omega)] at hj
  rw [cutOut_nth _ _ _ _ hj, cutOut_nth _ _ _ _ hj, pcB_nth _ _ _ _ (by omega), pcB_nth _ _ _ _ (by omega), hL, show (4 * q + j) / 4 = q by omega]
  have e2 : (q == i) = false := by simpa using hqi
  rw [e2]; simp
end Go.Proofs.YtmgalnkcpolafaaDoor.Sp
