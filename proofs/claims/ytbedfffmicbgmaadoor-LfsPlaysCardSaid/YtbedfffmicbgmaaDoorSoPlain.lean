/- The plain model of package soft: a disk and its memory as forty numbers (counts 0, entries 8; in memory 20, 28). No program in sight. -/
import Derived.Test.YtbedfffmicbgmaaDoorBase
namespace Go.Proofs.YtbedfffmicbgmaaDoor.So

theorem nth_set (l : List Int) (q : Nat) (x : Int) (i : Nat) (h : q < l.length) : nth (l.set q x) i = if q = i then x else nth l i := by
  unfold nth
  simp only [List.getD_eq_getElem?_getD, List.getElem?_set]
  split
  · rename_i e; subst e; simp
  · rfl
/-- How many of the first n entries, from place o on, name i. -/
def namesTo (L : List Int) (o : Nat) (i : Int) : Nat → Nat
  | 0 => 0
  | n + 1 => namesTo L o i n + if nth L (o + 8 + n) = i then 1 else 0
def names (L : List Int) (o : Nat) (i : Int) : Nat := namesTo L o i 12
theorem namesTo_le (L : List Int) (o : Nat) (i : Int) : ∀ n, namesTo L o i n ≤ n
  | 0 => Nat.le_refl _
  | n + 1 => by have := namesTo_le L o i n; unfold namesTo; split <;> omega
theorem namesTo_congr {L M : List Int} {o p : Nat} (i : Int) : ∀ n, (∀ k, k < n → nth L (o + 8 + k) = nth M (p + 8 + k)) → namesTo L o i n = namesTo M p i n
  | 0, _ => rfl
  | n + 1, h => by
    unfold namesTo
    rw [namesTo_congr i n (fun k hk => h k (by omega)), h n (by omega)]
theorem namesTo_set (L : List Int) (o e : Nat) (x i : Int) (hl : o + 8 + e < L.length) : ∀ n, namesTo (L.set (o + 8 + e) x) o i n + (if e < n ∧ nth L (o + 8 + e) = i then 1 else 0) = namesTo L o i n + (if e < n ∧ x = i then 1 else 0)
  | 0 => by simp [namesTo]
  | n + 1 => by
    have ih := namesTo_set L o e x i hl n
    unfold namesTo
    by_cases h : e = n
    · subst h
      have e2 : nth (L.set (o + 8 + e) x) (o + 8 + e) = x := by rw [nth_set _ _ _ _ hl, if_pos rfl]
      rw [e2]
      simp only [Nat.lt_irrefl, false_and, if_false] at ih
      simp only [Nat.lt_succ_self, true_and]
      omega
    · have e2 : nth (L.set (o + 8 + e) x) (o + 8 + n) = nth L (o + 8 + n) := by rw [nth_set _ _ _ _ hl, if_neg (by omega)]
      rw [e2]
      have h1 : (e < n + 1) ↔ (e < n) := by omega
      simp only [h1]
      omega
theorem names_set {L : List Int} {o e : Nat} {x : Int} (i : Int) (he : e < 12) (hl : o + 8 + e < L.length) : names (L.set (o + 8 + e) x) o i + (if nth L (o + 8 + e) = i then 1 else 0) = names L o i + (if x = i then 1 else 0) := by
  have := namesTo_set L o e x i hl 12
  simp only [he, true_and] at this
  exact this
theorem names_off {L : List Int} {o q : Nat} {x : Int} (i : Int) (hq : q < o + 8 ∨ o + 20 ≤ q) : names (L.set q x) o i = names L o i := by
  refine namesTo_congr i 12 (fun k hk => ?_)
  unfold nth
  simp only [List.getD_eq_getElem?_getD, List.getElem?_set]
  rw [if_neg (by omega)]

def bad (e i : Int) : Prop := ¬ (0 ≤ e ∧ e ≤ 11) ∨ ¬ (0 ≤ i ∧ i ≤ 7)
instance (e i : Int) : Decidable (bad e i) := by unfold bad; infer_instance
def link (L : List Int) (e i : Int) : List Int × Int :=
  if bad e i then (L, 1) else if 0 ≤ nth L (28 + e.toNat) then (L, 6) else ((L.set (28 + e.toNat) i).set (20 + i.toNat) (nth L (20 + i.toNat) + 1), 0)
def drop (L : List Int) (e : Int) : List Int × Int :=
  if ¬ (0 ≤ e ∧ e ≤ 11) then (L, 1) else if nth L (28 + e.toNat) < 0 then (L, 5) else ((L.set (28 + e.toNat) (-1)).set (20 + (nth L (28 + e.toNat)).toNat) (nth L (20 + (nth L (28 + e.toNat)).toNat) - 1), 0)
def inodeAt (L : List Int) (i : Nat) : List Int × Int := if nth L (20 + i) < (names L 0 i : Int) then (L, 7) else (L.set i (nth L (20 + i)), 0)
def inode (L : List Int) (i : Int) : List Int × Int := if ¬ (0 ≤ i ∧ i ≤ 7) then (L, 1) else inodeAt L i.toNat
def next (L : List Int) (e : Nat) : List Int := L.set (0 + 8 + e) (nth L (28 + e))
def tooMany (L : List Int) (e : Nat) : Prop := 0 ≤ nth L (28 + e) ∧ nth L (nth L (28 + e)).toNat < (names (next L e) 0 (nth L (28 + e)) : Int)
instance (L : List Int) (e : Nat) : Decidable (tooMany L e) := by unfold tooMany; infer_instance
def entryAt (L : List Int) (e : Nat) : List Int × Int := if tooMany L e then (L, 7) else (next L e, 0)
def entry (L : List Int) (e : Int) : List Int × Int := if ¬ (0 ≤ e ∧ e ≤ 11) then (L, 1) else entryAt L e.toNat
def crash (L : List Int) : List Int := L.take 20 ++ L.take 20
/-- The three rounds of a sync: the numbers, and how many steps so far. -/
def p1 (L : List Int) : Nat → List Int × Nat
  | 0 => (L, 0)
  | n + 1 => if 0 ≤ nth (p1 L n).1 (8 + n) ∧ nth (p1 L n).1 (28 + n) ≠ nth (p1 L n).1 (8 + n) then ((p1 L n).1.set (0 + 8 + n) (-1), (p1 L n).2 + 1) else p1 L n
def p2 (s : List Int × Nat) : Nat → List Int × Nat
  | 0 => s
  | n + 1 => ((inodeAt (p2 s n).1 n).1, (p2 s n).2 + if (inodeAt (p2 s n).1 n).2 = 0 ∧ nth (p2 s n).1 n ≠ nth (p2 s n).1 (20 + n) then 1 else 0)
def p3 (s : List Int × Nat) : Nat → List Int × Nat
  | 0 => s
  | n + 1 => ((entryAt (p3 s n).1 n).1, (p3 s n).2 + if (entryAt (p3 s n).1 n).2 = 0 ∧ nth (p3 s n).1 (8 + n) ≠ nth (p3 s n).1 (28 + n) then 1 else 0)
def sync (L : List Int) : List Int × Nat := p3 (p2 (p1 L 12) 8) 12
def new : List Int := List.replicate 8 0 ++ List.replicate 12 (-1) ++ (List.replicate 8 0 ++ List.replicate 12 (-1))

/-- The shape: forty numbers; entries name inodes, or none. -/
structure Shp (L : List Int) : Prop where
  len : L.length = 40
  eD : ∀ e, e < 12 → -1 ≤ nth L (8 + e) ∧ nth L (8 + e) ≤ 7
  eM : ∀ e, e < 12 → -1 ≤ nth L (28 + e) ∧ nth L (28 + e) ≤ 7
/-- Nothing on the disk points to what is not there. -/
def Safe (L : List Int) : Prop := ∀ i : Nat, i < 8 → (names L 0 i : Int) ≤ nth L i
/-- The same in memory. -/
def Cov (L : List Int) : Prop := ∀ i : Nat, i < 8 → (names L 20 i : Int) ≤ nth L (20 + i)
def Tru (L : List Int) : Prop := ∀ i : Nat, i < 8 → nth L (20 + i) = (names L 20 i : Int)
/-- No count is large. -/
def Small (L : List Int) (k : Nat) : Prop := ∀ i : Nat, i < 8 → (nth L i ≤ k ∧ -(k : Int) ≤ nth L i) ∧ (nth L (20 + i) ≤ k ∧ -(k : Int) ≤ nth L (20 + i))
theorem Small.mono {L : List Int} {k m : Nat} (h : Small L k) (hm : k ≤ m) : Small L m := fun i hi => by have := h i hi; omega

theorem new_nth : ∀ i, i < 40 → nth new i = if 8 ≤ i ∧ i < 20 ∨ 28 ≤ i then -1 else 0 := by decide
theorem new_shp : Shp new := ⟨rfl, by decide, by decide⟩
theorem new_names : ∀ i : Nat, i < 8 → names new 0 i = 0 ∧ names new 20 i = 0 := by decide
theorem new_safe : Safe new := fun i hi => by rw [(new_names i hi).1, new_nth i (by omega), if_neg (by omega)]; simp
theorem new_tru : Tru new := fun i hi => by rw [(new_names i hi).2, new_nth (20 + i) (by omega), if_neg (by omega)]; simp
theorem new_small (k : Nat) : Small new k := fun i hi => by rw [new_nth i (by omega), new_nth (20 + i) (by omega), if_neg (by omega), if_neg (by omega)]; omega
theorem Tru.cov {L : List Int} (h : Tru L) : Cov L := fun i hi => by rw [h i hi]; exact Int.le_refl _

/-- What holds of a disk with k steps behind it. -/
structure OK (L : List Int) (k : Nat) : Prop where
  shp : Shp L
  safe : Safe L
  cov : Cov L
  small : Small L k
theorem new_ok : OK new 0 := ⟨new_shp, new_safe, new_tru.cov, new_small 0⟩

section
variable {L : List Int} {k : Nat}
theorem set_nth (hs : L.length = 40) {q : Nat} (hq : q < 40) (x : Int) (i : Nat) : nth (L.set q x) i = if q = i then x else nth L i := nth_set _ _ _ _ (by omega)
theorem link_ok (h : OK L k) (e i : Int) : OK (link L e i).1 (k + 1) ∧ (Tru L → Tru (link L e i).1) := by
  unfold link
  split
  · exact ⟨⟨h.shp, h.safe, h.cov, h.small.mono (by omega)⟩, id⟩
  · rename_i hb
    split
    · exact ⟨⟨h.shp, h.safe, h.cov, h.small.mono (by omega)⟩, id⟩
    · rename_i hn
      have hb' : (0 ≤ e ∧ e ≤ 11) ∧ (0 ≤ i ∧ i ≤ 7) := by unfold bad at hb; omega
      obtain ⟨n, rfl⟩ : ∃ n : Nat, e = n := ⟨e.toNat, by omega⟩
      obtain ⟨j, rfl⟩ : ∃ j : Nat, i = j := ⟨i.toNat, by omega⟩
      simp only [Int.toNat_natCast] at hn ⊢
      have hl := h.shp.len
      have hn12 : n < 12 := by omega
      have hj8 : j < 8 := by omega
      have hm := (h.shp.eM n hn12).1
      have N : ∀ q, nth ((L.set (28 + n) (j : Int)).set (20 + j) (nth L (20 + j) + 1)) q = if 20 + j = q then nth L (20 + j) + 1 else if 28 + n = q then (j : Int) else nth L q := fun q => by
        rw [nth_set _ _ _ _ (by simp [hl]; omega), nth_set _ _ _ _ (by omega)]
      have D : ∀ i : Int, names ((L.set (28 + n) (j : Int)).set (20 + j) (nth L (20 + j) + 1)) 0 i = names L 0 i := fun i => by
        rw [names_off i (by omega), names_off i (by omega)]
      have M : ∀ i : Nat, names ((L.set (28 + n) (j : Int)).set (20 + j) (nth L (20 + j) + 1)) 20 i = names L 20 i + if j = i then 1 else 0 := fun i => by
        rw [names_off _ (by omega)]
        have := names_set (L := L) (o := 20) (e := n) (x := (j : Int)) (i : Int) hn12 (by omega)
        simp only [show 20 + 8 + n = 28 + n by omega] at this
        rw [if_neg (by omega)] at this
        simp only [Int.natCast_inj] at this
        omega
      refine ⟨⟨⟨by simp [hl], fun e he => ?_, fun e he => ?_⟩, fun i hi => ?_, fun i hi => ?_, fun i hi => ?_⟩, fun ht i hi => ?_⟩
      · rw [N, if_neg (by omega), if_neg (by omega)]; exact h.shp.eD e he
      · rw [N, if_neg (by omega)]; split
        · omega
        · exact h.shp.eM e he
      · rw [D, N, if_neg (by omega), if_neg (by omega)]; exact h.safe i hi
      · rw [M, N]
        have := h.cov i hi
        by_cases e : j = i
        · subst e; simp; omega
        · rw [if_neg e, if_neg (by omega), if_neg (by omega)]; simpa using this
      · rw [N, N, if_neg (by omega), if_neg (by omega)]
        have := h.small i hi
        have h2 := h.small j hj8
        refine ⟨by omega, ?_⟩
        split
        · omega
        · rw [if_neg (by omega)]; omega
      · rw [M, N]
        have := ht i hi
        by_cases e : j = i
        · subst e; simp; omega
        · rw [if_neg e, if_neg (by omega), if_neg (by omega)]; simpa using this
theorem drop_ok (h : OK L k) (e : Int) : OK (drop L e).1 (k + 1) ∧ (Tru L → Tru (drop L e).1) := by
  unfold drop
  split
  · exact ⟨⟨h.shp, h.safe, h.cov, h.small.mono (by omega)⟩, id⟩
  · rename_i hb
    split
    · exact ⟨⟨h.shp, h.safe, h.cov, h.small.mono (by omega)⟩, id⟩
    · rename_i hn
      obtain ⟨n, rfl⟩ : ∃ n : Nat, e = n := ⟨e.toNat, by omega⟩
      simp only [Int.toNat_natCast] at hn ⊢
      have hl := h.shp.len
      have hn12 : n < 12 := by omega
      have hm := h.shp.eM n hn12
      obtain ⟨j, hj⟩ : ∃ j : Nat, nth L (28 + n) = j := ⟨(nth L (28 + n)).toNat, by omega⟩
      rw [hj, Int.toNat_natCast]
      have hj8 : j < 8 := by omega
      have N : ∀ q, nth ((L.set (28 + n) (-1)).set (20 + j) (nth L (20 + j) - 1)) q = if 20 + j = q then nth L (20 + j) - 1 else if 28 + n = q then -1 else nth L q := fun q => by
        rw [nth_set _ _ _ _ (by simp [hl]; omega), nth_set _ _ _ _ (by omega)]
      have D : ∀ i : Int, names ((L.set (28 + n) (-1)).set (20 + j) (nth L (20 + j) - 1)) 0 i = names L 0 i := fun i => by
        rw [names_off i (by omega), names_off i (by omega)]
      have M : ∀ i : Nat, names ((L.set (28 + n) (-1)).set (20 + j) (nth L (20 + j) - 1)) 20 i + (if j = i then 1 else 0) = names L 20 i := fun i => by
        rw [names_off _ (by omega)]
        have := names_set (L := L) (o := 20) (e := n) (x := -1) (i : Int) hn12 (by omega)
        simp only [show 20 + 8 + n = 28 + n by omega] at this
        rw [hj] at this
        rw [if_neg (show ¬ ((-1 : Int) = i) by omega)] at this
        simp only [Int.natCast_inj] at this
        omega
      refine ⟨⟨⟨by simp [hl], fun e he => ?_, fun e he => ?_⟩, fun i hi => ?_, fun i hi => ?_, fun i hi => ?_⟩, fun ht i hi => ?_⟩
      · rw [N, if_neg (by omega), if_neg (by omega)]; exact h.shp.eD e he
      · rw [N, if_neg (by omega)]; split
        · omega
        · exact h.shp.eM e he
      · rw [D, N, if_neg (by omega), if_neg (by omega)]; exact h.safe i hi
      · rw [N]
        have h1 := M i
        have := h.cov i hi
        by_cases e : j = i
        · subst e; simp at h1 ⊢; omega
        · rw [if_neg (by omega), if_neg (by omega)]; rw [if_neg e] at h1; omega
      · rw [N, N, if_neg (by omega), if_neg (by omega)]
        have := h.small i hi
        have h2 := h.small j hj8
        refine ⟨by omega, ?_⟩
        split
        · omega
        · rw [if_neg (by omega)]; omega
      · rw [N]
        have h1 := M i
        have := ht i hi
        by_cases e : j = i
        · subst e; simp at h1 ⊢; omega
        · rw [if_neg (by omega), if_neg (by omega)]; rw [if_neg e] at h1; omega
end
end Go.Proofs.YtbedfffmicbgmaaDoor.So
