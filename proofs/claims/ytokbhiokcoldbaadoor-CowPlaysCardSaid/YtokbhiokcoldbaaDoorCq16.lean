/- Trees of keys: what has and add answer; how many keys there are. No program in sight. -/
import Derived.Shelf.Lay
import Derived.Shelf.Slices.SearchI
import Derived.Shelf.Slices.Empties
import Derived.Lib.AppendZerosOnto
import Derived.Lib.Overlaps
import Derived.Test.YtokbhiokcoldbaaDoorCq02
import Derived.Test.YtokbhiokcoldbaaDoorCq04
import Derived.Test.YtokbhiokcoldbaaDoorCq15
namespace Go.Proofs.YtokbhiokcoldbaaDoor
namespace Bt

theorem hasK_mem {x : Int} {l : List Int} (h : Up l) : hasK l x = decide (x ∈ l) := by
  have := mem_lb (x := x) h
  unfold hasK
  by_cases hm : x ∈ l
  · rw [decide_eq_true hm, beq_iff_eq]; exact this.1 hm
  · rw [decide_eq_false hm, beq_eq_false_iff_ne]; exact fun e => hm (this.2 e)
theorem Ok.mono : ∀ {d lo lo' : Nat} {t : T d}, Ok d lo t → lo' ≤ lo → Ok d lo' t
  | 0, _, _, _, h, hl => ⟨Nat.le_trans hl h.1, h.2⟩
  | _ + 1, _, _, _, h, hl => ⟨⟨Nat.le_trans hl h.1.1, h.1.2⟩, h.2⟩
theorem kid_at {d lo : Nat} {t : T (d + 1)} (h : Ok (d + 1) lo t) (x : Int) : ∃ s, t.2[lb x t.1]? = some s ∧ s ∈ t.2 ∧ lb x t.1 < t.2.length := by
  have h1 := lb_le x t.1
  have h2 : lb x t.1 < t.2.length := by rw [h.2.1]; omega
  exact ⟨_, List.getElem?_eq_getElem h2, List.getElem_mem h2, h2⟩
theorem kid_all {d : Nat} {t : T (d + 1)} {i : Nat} {s : T d} (h : t.2[i]? = some s) : (t.2.map (all d)).getD i [] = all d s := by
  simp [List.getD, h]
theorem map_len {d lo : Nat} {t : T (d + 1)} (h : Ok (d + 1) lo t) : (t.2.map (all d)).length = t.1.length + 1 := by rw [List.length_map, h.2.1]
theorem has_all : ∀ (d lo : Nat) (t : T d) (x : Int), Ok d lo t → Up (all d t) → has d t x = decide (x ∈ all d t)
  | 0, _, t, x, _, hu => hasK_mem (l := t) hu
  | d + 1, lo, t, x, h, hu => by
    have hl := map_len h
    have hk := up_keys t.1 _ hl hu
    obtain ⟨s, hs, hm, hi⟩ := kid_at h x
    have hus : Up (all d s) := up_kid t.1 _ hl hu _ (List.mem_map.2 ⟨s, hm, rfl⟩)
    unfold has
    rw [hasK_mem hk, hs]
    by_cases hx : x ∈ t.1
    · rw [if_pos (by simpa using hx)]
      exact (decide_eq_true ((mem_weave x t.1 _ hl).2 (.inl hx))).symm
    · rw [if_neg (by simpa using hx)]
      simp only
      rw [has_all d 2 s x (h.2.2 s hm) hus]
      have := mem_kid x t.1 _ hl hu hx
      rw [kid_all hs] at this
      by_cases hxs : x ∈ all d s
      · rw [decide_eq_true hxs]; exact (decide_eq_true (this.2 hxs)).symm
      · rw [decide_eq_false hxs]; exact (decide_eq_false (fun e => hxs (this.1 e))).symm
theorem cut0_all (l : List Int) : fullAll 0 (cut0 l) = l := by
  unfold fullAll cut0
  by_cases h : l.length ≤ 4
  · rw [if_pos h]
    simp [all]
  · rw [if_neg h]
    have e : l = l.take 2 ++ l.getD 2 0 :: l.drop 3 := by
      conv => lhs; rw [← List.take_append_drop 2 l]
      congr 1
      rw [List.drop_eq_getElem_cons (by omega)]
      simp [List.getD, List.getElem?_eq_getElem (show 2 < l.length by omega)]
    exact e.symm
theorem cutN_all {d : Nat} (l : List Int) (m : List (T d)) (h : m.length = l.length + 1) : fullAll (d + 1) (cutN l m) = weave l (m.map (all d)) := by
  unfold cutN fullAll
  by_cases hl : l.length ≤ 4
  · rw [if_pos hl]
    simp only [List.append_nil]
    rfl
  · rw [if_neg hl]
    simp only
    have := weave_cut l (m.map (all d)) 2 (by rw [List.length_map]; exact h) (by omega)
    rw [this, ← List.map_take, ← List.map_drop]
    rfl
theorem add_all : ∀ (d lo : Nat) (t : T d) (x : Int), Ok d lo t → Up (all d t) → x ∉ all d t → fullAll d (add d t x) = insS x (all d t)
  | 0, _, t, x, _, _, _ => by
    have := cut0_all (ins (α := Int) t (lb x t) x)
    rw [show insS x (all 0 t) = ins (α := Int) t (lb x t) x from insS_lb x t]
    exact this
  | d + 1, lo, t, x, h, hu, hn => by
    have hl := map_len h
    obtain ⟨s, hs, hm, hi⟩ := kid_at h x
    have hus : Up (all d s) := up_kid t.1 _ hl hu _ (List.mem_map.2 ⟨s, hm, rfl⟩)
    have hxk : x ∉ t.1 := fun e => hn ((mem_weave x t.1 _ hl).2 (.inl e))
    have hxs : x ∉ all d s := fun e => hn ((mem_weave x t.1 _ hl).2 (.inr ⟨_, List.mem_map.2 ⟨s, hm, rfl⟩, e⟩))
    have ih := add_all d 2 s x (h.2.2 s hm) hus hxs
    have hw := insS_weave x t.1 _ hl hu hxk
    rw [kid_all hs, ← ih] at hw
    have hle := lb_le x t.1
    show fullAll (d + 1) (add (d + 1) t x) = insS x (weave t.1 (t.2.map (all d)))
    rw [hw]
    clear hw ih
    rw [add, hs]
    simp only
    rcases hadd : add d s x with ⟨s', o⟩
    cases o with
    | none =>
      simp only [fullAll, List.append_nil]
      show weave t.1 ((t.2.set (lb x t.1) s').map (all d)) = _
      rw [map_set']
    | some p =>
      obtain ⟨u, r⟩ := p
      simp only
      rw [cutN_all _ _ (by rw [ins_len _ _ _ (by rw [List.length_set]; omega), ins_len _ _ _ hle, List.length_set, h.2.1]), map_ins, map_set', fullAll]
      exact (weave_split u (all d s') (all d r) t.1 (t.2.map (all d)) (lb x t.1) hl hle).symm
theorem mem_ins {α : Type} {l : List α} {i : Nat} {x y : α} (h : y ∈ ins l i x) : y = x ∨ y ∈ l := by
  unfold ins at h
  rcases List.mem_append.1 h with h | h
  · exact .inr (List.mem_of_mem_take h)
  · rcases List.mem_cons.1 h with h | h
    · exact .inl h
    · exact .inr (List.mem_of_mem_drop h)
/-- What stands behind an add. -/
def Okp (d lo : Nat) (p : T d × Option (Int × T d)) : Prop := match p.2 with
  | none => Ok d lo p.1
  | some (_, r) => Ok d 2 p.1 ∧ Ok d 2 r
theorem cutN_ok {d lo : Nat} (l : List Int) (m : List (T d)) (h : m.length = l.length + 1) (h1 : lo ≤ l.length) (h2 : l.length ≤ 5) (h3 : ∀ s ∈ m, Ok d 2 s) : Okp (d + 1) lo (cutN l m) := by
  unfold cutN Okp
  by_cases hl : l.length ≤ 4
  · rw [if_pos hl]
    exact ⟨⟨h1, hl⟩, h, h3⟩
  · rw [if_neg hl]
    refine ⟨⟨⟨?_, ?_⟩, ?_, fun s hs => h3 s (List.mem_of_mem_take hs)⟩, ⟨⟨?_, ?_⟩, ?_, fun s hs => h3 s (List.mem_of_mem_drop hs)⟩⟩
    all_goals simp only [List.length_take, List.length_drop]
    all_goals omega
theorem add_ok : ∀ (d lo : Nat) (t : T d) (x : Int), Ok d lo t → Okp d lo (add d t x)
  | 0, lo, t, x, h => by
    have hl := ins_len (α := Int) t (lb x t) x (lb_le x t)
    have h1 : lo ≤ List.length (α := Int) t := h.1
    have h2 : List.length (α := Int) t ≤ 4 := h.2
    show Okp 0 lo (cut0 (ins (α := Int) t (lb x t) x))
    unfold cut0 Okp
    by_cases h4 : (ins (α := Int) t (lb x t) x).length ≤ 4
    · rw [if_pos h4]
      exact ⟨by show lo ≤ (ins (α := Int) t (lb x t) x).length; omega, h4⟩
    · rw [if_neg h4]
      refine ⟨⟨?_, ?_⟩, ⟨?_, ?_⟩⟩
      · show 2 ≤ (List.take 2 (ins (α := Int) t (lb x t) x)).length; rw [List.length_take]; omega
      · show (List.take 2 (ins (α := Int) t (lb x t) x)).length ≤ 4; rw [List.length_take]; omega
      · show 2 ≤ (List.drop 3 (ins (α := Int) t (lb x t) x)).length; rw [List.length_drop]; omega
      · show (List.drop 3 (ins (α := Int) t (lb x t) x)).length ≤ 4; rw [List.length_drop]; omega
  | d + 1, lo, t, x, h => by
    obtain ⟨s, hs, hm, hi⟩ := kid_at h x
    have ih := add_ok d 2 s x (h.2.2 s hm)
    have hle := lb_le x t.1
    rw [add, hs]
    simp only
    rcases hadd : add d s x with ⟨s', o⟩
    rw [hadd] at ih
    cases o with
    | none =>
      simp only
      refine ⟨h.1, by rw [List.length_set]; exact h.2.1, fun y hy => ?_⟩
      rcases List.mem_or_eq_of_mem_set hy with hy | rfl
      · exact h.2.2 y hy
      · exact ih
    | some p =>
      obtain ⟨u, r⟩ := p
      obtain ⟨i1, i2⟩ := ih
      simp only
      have e1 := ins_len t.1 (lb x t.1) u hle
      refine cutN_ok _ _ (by rw [ins_len _ _ _ (by rw [List.length_set]; omega), e1, List.length_set, h.2.1]) (by rw [e1]; have := h.1.1; omega) (by rw [e1]; have := h.1.2; omega) (fun y hy => ?_)
      rcases mem_ins hy with rfl | hy
      · exact i2
      · rcases List.mem_or_eq_of_mem_set hy with hy | rfl
        · exact h.2.2 y hy
        · exact i1
/-! ### How many keys -/
theorem sum_ge (n : Nat) : ∀ (l : List Nat), (∀ x ∈ l, n ≤ x) → l.length * n ≤ l.sum
  | [], _ => by simp
  | x :: r, h => by
    have := sum_ge n r (fun y hy => h y (by simp [hy]))
    have := h x (by simp)
    rw [List.length_cons, List.sum_cons, Nat.add_mul, Nat.one_mul]
    omega
theorem size_kids {d lo n : Nat} {t : T (d + 1)} (h : Ok (d + 1) lo t) (hn : ∀ s ∈ t.2, n ≤ (all d s).length + 1) : (lo + 1) * n ≤ (all (d + 1) t).length + 1 := by
  have h1 := weave_len t.1 (t.2.map (all d)) (map_len h)
  have h2 : (t.2.map (all d)).map List.length = t.2.map (fun s => (all d s).length) := by rw [List.map_map]; rfl
  have h3 := sum_ge n (t.2.map (fun s => (all d s).length + 1)) (fun x hx => by
    obtain ⟨s, hs, rfl⟩ := List.mem_map.1 hx
    exact hn s hs)
  have h4 : (t.2.map (fun s => (all d s).length + 1)).sum = (t.2.map (fun s => (all d s).length)).sum + t.2.length := by
    clear h h1 h2 h3 hn
    induction t.2 with
    | nil => rfl
    | cons a l ih => simp only [List.map_cons, List.sum_cons, List.length_cons, ih]; omega
  rw [List.length_map, h.2.1, h4] at h3
  rw [h2] at h1
  have h5 : (all (d + 1) t).length = t.1.length + (t.2.map (fun s => (all d s).length)).sum := h1
  have h6 := Nat.mul_le_mul_right n (Nat.succ_le_succ h.1.1)
  rw [h.2.1] at h3
  have h7 : (lo + 1) * n ≤ (t.1.length + 1) * n := h6
  omega
theorem size_low : ∀ (d : Nat) (t : T d), Ok d 2 t → 3 ^ (d + 1) ≤ (all d t).length + 1
  | 0, t, h => by
    have : 2 ≤ List.length (α := Int) t := h.1
    show 3 ≤ List.length (α := Int) t + 1
    omega
  | d + 1, t, h => by
    have := size_kids h (fun s hs => size_low d s (h.2.2 s hs))
    rw [Nat.pow_succ, Nat.mul_comm]
    exact this
theorem size_root (d : Nat) (t : T (d + 1)) (h : Ok (d + 1) 1 t) : 2 * 3 ^ (d + 1) ≤ (all (d + 1) t).length + 1 := size_kids h (fun s hs => size_low d s (h.2.2 s hs))
/-! ### The whole tree -/
structure Tree where
  d : Nat
  t : T d
  many : Nat
def Tree.keys (s : Tree) : List Int := all s.d s.t
def lowOf (d : Nat) : Nat := if d = 0 then 0 else 1
structure Tree.OK (s : Tree) : Prop where
  ok : Ok s.d (lowOf s.d) s.t
  up : Up s.keys
  len : s.keys.length = s.many
  many : s.many ≤ 60
  rng : ∀ x ∈ s.keys, 0 ≤ x ∧ x ≤ 1000
def new : Tree := ⟨0, ([] : List Int), 0⟩
theorem new_ok : new.OK := ⟨⟨Nat.le_refl _, Nat.zero_le _⟩, List.Pairwise.nil, rfl, Nat.zero_le _, fun x hx => by cases hx⟩
def addErr (s : Tree) (x : Int) : Int := if 0 ≤ x ∧ x ≤ 1000 then (if has s.d s.t x = true then 6 else if s.many = 60 then 4 else 0) else 1
/-- The tree behind the root's own add. -/
def grow (d : Nat) (p : T d × Option (Int × T d)) (n : Nat) : Tree := match p.2 with
  | none => ⟨d, p.1, n⟩
  | some (u, r) => ⟨d + 1, ([u], [p.1, r]), n⟩
def put (s : Tree) (x : Int) : Tree := if addErr s x = 0 then grow s.d (add s.d s.t x) (s.many + 1) else s
theorem grow_keys (d : Nat) (p : T d × Option (Int × T d)) (n : Nat) : (grow d p n).keys = fullAll d p := by
  obtain ⟨a, o⟩ := p
  cases o with
  | none => simp [grow, Tree.keys, fullAll]
  | some q =>
    obtain ⟨u, r⟩ := q
    show weave [u] [all d a, all d r] = _
    simp [weave, fullAll]
theorem grow_ok {d : Nat} {p : T d × Option (Int × T d)} {n : Nat} (h : Okp d (lowOf d) p) : Ok (grow d p n).d (lowOf (grow d p n).d) (grow d p n).t := by
  obtain ⟨a, o⟩ := p
  cases o with
  | none => exact h
  | some q =>
    obtain ⟨u, r⟩ := q
    obtain ⟨h1, h2⟩ := h
    refine ⟨⟨Nat.le_refl _, by show 1 ≤ 4; omega⟩, rfl, fun s hs => ?_⟩
    simp only [grow, List.mem_cons, List.not_mem_nil, or_false] at hs
    rcases hs with rfl | rfl
    · exact h1
    · exact h2
theorem Tree.OK.has {s : Tree} (h : s.OK) (x : Int) : has s.d s.t x = decide (x ∈ s.keys) := has_all s.d _ s.t x h.ok h.up
theorem addErr_zero {s : Tree} {x : Int} (h : addErr s x = 0) : (0 ≤ x ∧ x ≤ 1000) ∧ ¬ has s.d s.t x = true ∧ s.many ≠ 60 := by
  unfold addErr at h
  split at h
  · rename_i h1
    split at h
    · omega
    · rename_i h2
      split at h
      · omega
      · rename_i h3; exact ⟨h1, h2, h3⟩
  · omega
theorem put_keys {s : Tree} (h : s.OK) {x : Int} (he : addErr s x = 0) : (put s x).keys = insS x s.keys ∧ x ∉ s.keys := by
  obtain ⟨_, h2, _⟩ := addErr_zero he
  rw [h.has] at h2
  have hn : x ∉ s.keys := by simpa using h2
  refine ⟨?_, hn⟩
  unfold put
  rw [if_pos he, grow_keys]
  exact add_all s.d _ s.t x h.ok h.up hn
theorem Tree.OK.put {s : Tree} (h : s.OK) (x : Int) : (put s x).OK := by
  by_cases he : addErr s x = 0
  · obtain ⟨h1, h2⟩ := put_keys h he
    obtain ⟨h3, _, h5⟩ := addErr_zero he
    have hm : (Bt.put s x).many = s.many + 1 := by
      unfold Bt.put
      rw [if_pos he]
      unfold grow
      split <;> rfl
    refine ⟨?_, by rw [h1]; exact up_insS x _ h.up h2, by rw [h1, len_insS, hm, h.len], by rw [hm]; have := h.many; omega, fun y hy => ?_⟩
    · unfold Bt.put
      rw [if_pos he]
      exact grow_ok (add_ok s.d _ s.t x h.ok)
    · rw [h1] at hy
      rcases (mem_insS x y _).1 hy with rfl | hy
      · exact h3
      · exact h.rng y hy
  · have : Bt.put s x = s := by unfold Bt.put; rw [if_neg he]
    rw [this]; exact h
theorem Tree.OK.deep {s : Tree} (h : s.OK) : s.d ≤ 3 := by
  have h1 := h.len
  have h2 := h.many
  obtain ⟨d, t, n⟩ := s
  cases d with
  | zero => simp
  | succ d =>
    have h3 := size_root d t h.ok
    have h4 : (all (d + 1) t).length = n := h1
    simp only at h2 ⊢
    by_cases hd : d + 1 ≤ 3
    · exact hd
    · have : 3 ^ 4 ≤ 3 ^ (d + 1) := Nat.pow_le_pow_right (by decide) (by omega)
      omega
end Bt
end Go.Proofs.YtokbhiokcoldbaaDoor
/- Integers as elements of a row, in the words of rows of structs. No program in sight. -/
namespace Go.Proofs.YtokbhiokcoldbaaDoor
open Go.RowKit

/-- An integer as an element of a row. -/
def inE : Enc Int where
  k := 1
  enc := fun x => [.int .i64 x]
  len := fun _ => rfl
  one := fun e v hv => by simp only [List.mem_cons, List.not_mem_nil, or_false] at hv; rcases hv with rfl; rfl
  pos := by decide
theorem inE_cells (l : List Int) : inE.cells l = l.map (Value.int .i64) := by
  induction l with
  | nil => rfl
  | cons a l ih =>
    have e : inE.cells (a :: l) = inE.enc a ++ inE.cells l := rfl
    rw [e, ih]; rfl
theorem own_inE {w : World} {B e : Nat} {v : Value} {l : List Int} : OwnR inE w B e v l ↔ Own w B e v l := by
  unfold OwnR Own
  rw [inE_cells]
  exact Iff.rfl
end Go.Proofs.YtokbhiokcoldbaaDoor

/- slices.BinarySearch at a rising row of integers, off the shelf. -/
namespace Go.Proofs
open Go.Shelf
shelf_lay Lays2.n25 Nm2 25 at Tryd as Tryd.lays2x25
namespace YtokbhiokcoldbaaDoor
open Go.RowKit Go.Lib

theorem lb_count {x : Int} : ∀ {l : List Int}, Bt.Up l → l.countP (· < x) = Bt.lb x l
  | [], _ => rfl
  | y :: r, h => by
    rw [Bt.Up, List.pairwise_cons] at h
    by_cases hy : y < x
    · rw [List.countP_cons_of_pos (by simpa using hy), lb_count h.2, Bt.lb, if_pos hy]
    · rw [List.countP_cons_of_neg (by simpa using hy), Bt.lb, if_neg hy, List.countP_eq_zero]
      intro z hz
      have := h.1 z hz
      simp
      omega
theorem bs_own (w : World) (v : Value) (l : List Int) (x : Int) (h : OwnR inE w 0 3 v l) (hu : Bt.Up l) (hl : l.length ≤ 100000) :
    Calls Tryd.prog 66 #[v, .int .i64 x] w fun e w' => e = .returned (.tuple #[.int .i64 (Bt.lb x l : Nat), .bool (Bt.hasK l x)]) ∧ Fr [] w w' := by
  have hb : Bt.hasK l x = l.contains x := by
    rw [Bt.hasK_mem hu]
    by_cases hm : x ∈ l
    · rw [decide_eq_true hm]; simp [hm]
    · rw [decide_eq_false hm]; simp [hm]
  rcases h.2 with ⟨rfl, hn⟩ | ⟨g, cap, cur, rfl, _, hg, hc, hm, hs, ht⟩
  · have hx := List.eq_nil_of_length_eq_zero hn
    subst hx
    refine (Any.slices_BinarySearch_int_empty Tryd.lays2x25 none 0 x w).mono ?_
    rintro e w' ⟨rfl, rfl⟩
    exact ⟨rfl, Fr.refl _ _⟩
  · have hcell : ∀ j, j < l.length → w.cell? ⟨g, 0 + j, none⟩ = some (.int .i64 (l.getD j 0)) := fun j hj => by
      rw [Nat.zero_add, cell_of_row w g j cur _ _ hg]
      have h3 := inE.cells_get l j 0 hj (by decide)
      rw [← ht, List.getElem?_take, show j * inE.k + 0 = j from by show j * 1 + 0 = j; omega] at h3
      split at h3
      · simpa [inE, List.getD, hj] using h3
      · simp [inE] at h3
    have hp : (l.take l.length).Pairwise (· ≤ ·) := by
      rw [List.take_length]
      exact hu.imp (fun h => by omega)
    refine (Any.slices_BinarySearch_int Tryd.lays2x25 g 0 l.length cap l x w (Nat.le_refl _) (by omega) hcell hp).mono ?_
    rintro e w' ⟨rfl, q, rfl⟩
    rw [List.take_length, lb_count hu, ← hb]
    exact ⟨rfl, (Fr.refl _ _).drewN q⟩
end YtokbhiokcoldbaaDoor
end Go.Proofs

/- What slices.Insert does to a row that the call owns, whatever its elements: in plain words of lists and blocks. No program in sight. -/
namespace Go.Proofs.YtokbhiokcoldbaaDoor
open Go.RowKit

/-- Where a row lies that grew: where it lay, or in a new block. -/
def Moves (w : World) (v v' : Value) : Prop := v'.ownBlock = v.ownBlock ∨ ∃ g, v'.ownBlock = some g ∧ w.heap.size ≤ g
theorem Moved.moves {w : World} {n : Nat} {v v' : Value} (h : Moved n v v') (hn : w.heap.size ≤ n) : Moves w v v' := h.imp id fun h => ⟨n, h, hn⟩

theorem shift_take (cur C X : List Value) (a N k : Nat) (hC : cur.take N = C) (ha : a ≤ N) (hN : N + k ≤ cur.length) (hX : X.length = k) (cur1 : List Value)
    (h1 : cur1 = cur.take (a + k) ++ C.drop a ++ cur.drop (a + k + (N - a))) :
    (cur1.take a ++ X ++ cur1.drop (a + k)).take (N + k) = C.take a ++ X ++ C.drop a ∧ cur1.length = cur.length ∧ (cur1.take a ++ X ++ cur1.drop (a + k)).length = cur.length := by
  have hCl : C.length = N := by rw [← hC, List.length_take]; omega
  have hl1 : (cur.take (a + k)).length = a + k := by rw [List.length_take]; omega
  have hdl : (C.drop a).length = N - a := by rw [List.length_drop, hCl]
  have e1 : cur1.take a = C.take a := by
    rw [h1, List.append_assoc, List.take_append_of_le_length (by omega), List.take_take, ← hC, List.take_take]
    congr 1
    omega
  have e2 : cur1.drop (a + k) = C.drop a ++ cur.drop (a + k + (N - a)) := by
    rw [h1, List.append_assoc, List.drop_append_of_le_length (by omega), List.drop_of_length_le (by omega), List.nil_append]
  have el : cur1.length = cur.length := by
    rw [h1]
    simp only [List.length_append, hl1, hdl, List.length_drop]
    omega
  have hta : (C.take a).length = a := by rw [List.length_take]; omega
  refine ⟨?_, el, ?_⟩
  · rw [e1, e2, ← List.append_assoc, List.take_append_of_le_length (by simp only [List.length_append, hta, hX, hdl]; omega), List.take_of_length_le (by simp only [List.length_append, hta, hX, hdl]; omega)]
  · rw [e1, e2]
    simp only [List.length_append, hta, hX, hdl, List.length_drop]
    omega
theorem grow_take (row C X Z : List Value) (a N k : Nat) (hC : C.length = N) (ha : a ≤ N) (hr : row = C.take a ++ Z) (hN : N + k ≤ row.length) (hX : X.length = k) (row1 : List Value)
    (h1 : row1 = row.take a ++ X ++ row.drop (a + k)) :
    (row1.take (a + k) ++ C.drop a ++ row1.drop (a + k + (N - a))).take (N + k) = C.take a ++ X ++ C.drop a ∧ row1.length = row.length ∧ (row1.take (a + k) ++ C.drop a ++ row1.drop (a + k + (N - a))).length = row.length := by
  have hta : (C.take a).length = a := by rw [List.length_take]; omega
  have hdl : (C.drop a).length = N - a := by rw [List.length_drop, hC]
  have e0 : row.take a = C.take a := by rw [hr, List.take_append_of_le_length (by omega), List.take_of_length_le (by omega)]
  have e1 : row1.take (a + k) = C.take a ++ X := by
    rw [h1, e0, List.take_append_of_le_length (by simp only [List.length_append, hta, hX]; omega), List.take_of_length_le (by simp only [List.length_append, hta, hX]; omega)]
  have el : row1.length = row.length := by
    rw [h1, e0]
    simp only [List.length_append, hta, hX, List.length_drop]
    omega
  refine ⟨?_, el, ?_⟩
  · rw [e1, List.take_append_of_le_length (by simp only [List.length_append, hta, hX, hdl]; omega), List.take_of_length_le (by simp only [List.length_append, hta, hX, hdl]; omega)]
  · rw [e1]
    simp only [List.length_append, hta, hX, hdl, List.length_drop, el]
    omega
section
variable {α : Type} (E : Enc α)
theorem Enc.cellsTake (l : List α) (i : Nat) : (E.cells l).take (i * E.k) = E.cells (l.take i) := by
  by_cases h : i ≤ l.length
  · have e : E.cells l = E.cells (l.take i) ++ E.cells (l.drop i) := by rw [← E.cells_append, List.take_append_drop]
    have hl : (E.cells (l.take i)).length = i * E.k := by rw [E.cells_len, List.length_take, Nat.min_eq_left h]
    rw [e, List.take_append_of_le_length (by omega), List.take_of_length_le (by omega)]
  · have : l.length * E.k ≤ i * E.k := Nat.mul_le_mul_right _ (by omega)
    rw [List.take_of_length_le (by rw [E.cells_len]; exact this), List.take_of_length_le (by omega)]
theorem Enc.cellsDrop (l : List α) (i : Nat) : (E.cells l).drop (i * E.k) = E.cells (l.drop i) := by
  by_cases h : i ≤ l.length
  · have e : E.cells l = E.cells (l.take i) ++ E.cells (l.drop i) := by rw [← E.cells_append, List.take_append_drop]
    have hl : (E.cells (l.take i)).length = i * E.k := by rw [E.cells_len, List.length_take, Nat.min_eq_left h]
    rw [e, List.drop_append_of_le_length (by omega), List.drop_of_length_le (by omega), List.nil_append]
  · have : l.length * E.k ≤ i * E.k := Nat.mul_le_mul_right _ (by omega)
    rw [List.drop_of_length_le (by rw [E.cells_len]; exact this), List.drop_of_length_le (by omega)]
    rfl
theorem Enc.cells_ins (l : List α) (i : Nat) (x : α) : E.cells (l.take i ++ x :: l.drop i) = (E.cells l).take (i * E.k) ++ E.enc x ++ (E.cells l).drop (i * E.k) := by
  rw [E.cells_append, E.cellsTake, E.cellsDrop, List.append_assoc]
  rfl
theorem Enc.cells_one (l : List α) : ∀ u ∈ E.cells l, u.oneCell' = true := by
  intro u hu
  obtain ⟨x, _, hu⟩ := List.mem_flatMap.1 hu
  exact E.one x u hu
theorem ins_len (l : List α) (i : Nat) (x : α) (hi : i ≤ l.length) : (l.take i ++ x :: l.drop i).length = l.length + 1 := by
  simp only [List.length_append, List.length_take, List.length_cons, List.length_drop]
  omega
variable {E}
theorem own_at {w : World} {B e g cap : Nat} {cur : Array Value} {l : List α} {n : Nat} (hg : w.heap[g]? = some (.cells cur e (0, 0))) (hb : B ≤ g) (hn : n = l.length) (hc : n ≤ cap) (hm : cap ≤ maxLen) (hs : cur.size = cap * E.k)
    (ht : cur.toList.take (n * E.k) = E.cells l) : OwnR E w B e (.slice (some ⟨g, 0, none⟩) n cap) l := by
  subst hn
  exact ⟨E.cells_len l, .inr ⟨g, cap, cur, rfl, hb, hg, hc, hm, hs, ht⟩⟩
theorem OwnR.take {w : World} {B e : Nat} {g cap n : Nat} {l : List α} (h : OwnR E w B e (.slice (some ⟨g, 0, none⟩) n cap) l) (m : Nat) (hm : m ≤ l.length) : OwnR E w B e (.slice (some ⟨g, 0, none⟩) m cap) (l.take m) := by
  obtain ⟨h1, h2⟩ := h
  rcases h2 with ⟨h2, _⟩ | ⟨g', cap', cur, e0, hb, hg, hc, hx, hs, ht⟩
  · cases h2
  · injection e0 with e1 e2 e3
    injection e1 with e1
    injection e1 with e1 _ _
    subst e1 e3 e2
    refine own_at hg hb (by rw [List.length_take, Nat.min_eq_left hm]) (by omega) hx hs ?_
    rw [← E.cellsTake, ← ht, List.take_take, Nat.min_eq_left (Nat.mul_le_mul_right _ (by omega))]
end
section
variable {P : Program}
theorem run_copyK (w : World) (dT sT ty elem : TypeId) (k g o dLen dCap : Nat) (a : Addr) (sLen sCap : Nat) (cur : Array Value) (t : TypeId) (cs : List Value)
    (hu : P.underlying dT = some (.slice elem)) (hs : (P.info? elem).map (·.size) = some k)
    (hg : w.heap[g]? = some (.cells cur t (0, 0))) (m : Nat) (hm : m = Nat.min sLen dLen) (hn : cs.length = m * k)
    (hsrc : ∀ j v, cs[j]? = some v → w.cell? (a.add j) = some v) (hfit : o + cs.length ≤ cur.size) (h1 : ∀ v ∈ cs, v.oneCell' = true) :
    (Builtin.copy_ #[dT, sT] ty #[.slice (some ⟨g, o, none⟩) dLen dCap, .slice (some a) sLen sCap]).run P w =
      .ok (goInt m) (w.setRow g (cur.toList.take o ++ cs ++ cur.toList.drop (o + cs.length)).toArray) := by
  have hst := run_storeCells_at P g o t cs 0 cur w hg (by simpa using hfit) h1
  cases hq : P.info? elem with
  | none => simp [hq] at hs
  | some i =>
    have hi : i.size = k := by simpa [hq] using hs
    have hf := fun c => run_firstCells_some (P := P) w i.size m a sLen c cs (by rw [hi]; exact hn) hsrc
    simp [Builtin.copy_, run_underlying hu, Builtin.lenOf, sizeOf, typeInfo, hq, ← hm, hf, hst]
/-- The operation 'copy(d, s)', its run known. -/
theorem wpList_copyK {w : World} {ops : Array Oper} {rest : List Oper} {o : Oper} {a : Act} {Q : Exit → Act → World → Prop} (hgd : o.guard = none) (d s : Operand) (t t' : TypeId)
    (ho : o.op = .call { callee := .builtin .copy, args := #[d, s], argTypes := #[t, t'] }) (v u : Value) (hd : a.eval d = v) (hs : a.eval s = u) {v' : Value} {w' : World}
    (hr : (Builtin.copy_ #[t, t'] o.type #[v, u]).run P w = .ok v' w') (h : wpList P ops Q rest (a.put o.dst v') w') : wpList P ops Q (o :: rest) a w :=
  wpList_plain hgd fun _ hK => by
    unfold Oper.wp execOp
    simp only [ho, resolve, invoke, builtin, Sem.run_bind, Sem.run_pure, Result.andThen_ok, List.map_toArray, List.map_cons, List.map_nil, hd, hs, hr]
    exact hK _ _ h
theorem wpList_appendK {w : World} {ops : Array Oper} {rest : List Oper} {o : Oper} {a : Act} {Q : Exit → Act → World → Prop} (hgd : o.guard = none) (s x : Operand) (t t' : TypeId)
    (ho : o.op = .call { callee := .builtin .append, args := #[s, x], argTypes := #[t, t'] }) (v u : Value) (hd : a.eval s = v) (hs : a.eval x = u) {v' : Value} {w' : World}
    (hr : (Builtin.append_ #[t, t'] o.type #[v, u]).run P w = .ok v' w') (h : wpList P ops Q rest (a.put o.dst v') w') : wpList P ops Q (o :: rest) a w :=
  wpList_plain hgd fun _ hK => by
    unfold Oper.wp execOp
    simp only [ho, resolve, invoke, builtin, Sem.run_bind, Sem.run_pure, Result.andThen_ok, List.map_toArray, List.map_cons, List.map_nil, hd, hs, hr]
    exact hK _ _ h
end
end Go.Proofs.YtokbhiokcoldbaaDoor
