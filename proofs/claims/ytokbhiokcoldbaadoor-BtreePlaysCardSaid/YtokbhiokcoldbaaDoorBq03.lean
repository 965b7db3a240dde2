/- Trees of keys: what has and add answer; how many keys there are. No program in sight. -/

import Derived.Test.YtokbhiokcoldbaaDoorBq02
namespace Go.Proofs.YtokbhiokcoldbaaDoor
namespace Bt

theorem hasK_mem {x : Int} {l : List Int} (h : Up l) : hasK l x = decide (x ∈ l) := by
  have := mem_lb (x := x) h
  unfold hasK
  by_cases hm : x ∈ l
  · rw [decide_eq_true hm, beq_iff_eq]; exact this.1 hm
  · rw [decide_eq_false hm, beq_eq_false_iff_ne]; exact fun e => hm (this.2 e)
theorem Ok.mono : ∀ {d lo lo' : Nat} {t : T d}, Ok d lo t → lo' ≤ lo → Ok d lo' t
  | 0, _, _, _, h, hl => ⟨Nat.le_trans hl h.1, h.2⟩
  | _ + 1, _, _, _, h, hl => ⟨⟨Nat.le_trans hl h.1.1, h.1.2⟩, h.2⟩
theorem kid_at {d lo : Nat} {t : T (d + 1)} (h : Ok (d + 1) lo t) (x : Int) : ∃ s, t.2[lb x t.1]? = some s ∧ s ∈ t.2 ∧ lb x t.1 < t.2.length := by
  have h1 := lb_le x t.1
  have h2 : lb x t.1 < t.2.length := by rw [h.2.1]; omega
  exact ⟨_, List.getElem?_eq_getElem h2, List.getElem_mem h2, h2⟩
theorem kid_all {d : Nat} {t : T (d + 1)} {i : Nat} {s : T d} (h : t.2[i]? = some s) : (t.2.map (all d)).getD i [] = all d s := by
  simp [List.getD, h]
theorem map_len {d lo : Nat} {t : T (d + 1)} (h : Ok (d + 1) lo t) : (t.2.map (all d)).length = t.1.length + 1 := by rw [List.length_map, h.2.1]
theorem has_all : ∀ (d lo : Nat) (t : T d) (x : Int), Ok d lo t → Up (all d t) → has d t x = decide (x ∈ all d t)
  | 0, _, t, x, _, hu => hasK_mem (l := t) hu
  | d + 1, lo, t, x, h, hu => by
    have hl := map_len h
    have hk := up_keys t.1 _ hl hu
    obtain ⟨s, hs, hm, hi⟩ := kid_at h x
    have hus : Up (all d s) := up_kid t.1 _ hl hu _ (List.mem_map.2 ⟨s, hm, rfl⟩)
    unfold has
    rw [hasK_mem hk, hs]
    by_cases hx : x ∈ t.1
    · rw [if_pos (by simpa using hx)]
      exact (decide_eq_true ((mem_weave x t.1 _ hl).2 (.inl hx))).symm
    · rw [if_neg (by simpa using hx)]
      simp only
      rw [has_all d 2 s x (h.2.2 s hm) hus]
      have := mem_kid x t.1 _ hl hu hx
      rw [kid_all hs] at this
      by_cases hxs : x ∈ all d s
      · rw [decide_eq_true hxs]; exact (decide_eq_true (this.2 hxs)).symm
      · rw [decide_eq_false hxs]; exact (decide_eq_false (fun e => hxs (this.1 e))).symm
theorem cut0_all (l : List Int) : fullAll 0 (cut0 l) = l := by
  unfold fullAll cut0
  by_cases h : l.length ≤ 4
  · rw [if_pos h]
    simp [all]
  · rw [if_neg h]
    have e : l = l.take 2 ++ l.getD 2 0 :: l.drop 3 := by
      conv => lhs; rw [← List.take_append_drop 2 l]
      congr 1
      rw [List.drop_eq_getElem_cons (by omega)]
      simp [List.getD, List.getElem?_eq_getElem (show 2 < l.length by omega)]
    exact e.symm
theorem cutN_all {d : Nat} (l : List Int) (m : List (T d)) (h : m.length = l.length + 1) : fullAll (d + 1) (cutN l m) = weave l (m.map (all d)) := by
  unfold cutN fullAll
  by_cases hl : l.length ≤ 4
  · rw [if_pos hl]
    simp only [List.append_nil]
    rfl
  · rw [if_neg hl]
    simp only
    have := weave_cut l (m.map (all d)) 2 (by rw [List.length_map]; exact h) (by omega)
    rw [this, ← List.map_take, ← List.map_drop]
    rfl
theorem add_all : ∀ (d lo : Nat) (t : T d) (x : Int), Ok d lo t → Up (all d t) → x ∉ all d t → fullAll d (add d t x) = insS x (all d t)
  | 0, _, t, x, _, _, _ => by
    have := cut0_all (ins (α := Int) t (lb x t) x)
    rw [show insS x (all 0 t) = ins (α := Int) t (lb x t) x from insS_lb x t]
    exact this
  | d + 1, lo, t, x, h, hu, hn => by
    have hl := map_len h
    obtain ⟨s, hs, hm, hi⟩ := kid_at h x
    have hus : Up (all d s) := up_kid t.1 _ hl hu _ (List.mem_map.2 ⟨s, hm, rfl⟩)
    have hxk : x ∉ t.1 := fun e => hn ((mem_weave x t.1 _ hl).2 (.inl e))
    have hxs : x ∉ all d s := fun e => hn ((mem_weave x t.1 _ hl).2 (.inr ⟨_, List.mem_map.2 ⟨s, hm, rfl⟩, e⟩))
    have ih := add_all d 2 s x (h.2.2 s hm) hus hxs
    have hw := insS_weave x t.1 _ hl hu hxk
    rw [kid_all hs, ← ih] at hw
    have hle := lb_le x t.1
    show fullAll (d + 1) (add (d + 1) t x) = insS x (weave t.1 (t.2.map (all d)))
    rw [hw]
    clear hw ih
    rw [add, hs]
    simp only
    rcases hadd : add d s x with ⟨s', o⟩
    cases o with
    | none =>
      simp only [fullAll, List.append_nil]
      show weave t.1 ((t.2.set (lb x t.1) s').map (all d)) = _
      rw [map_set']
    | some p =>
      obtain ⟨u, r⟩ := p
      simp only
      rw [cutN_all _ _ (by rw [ins_len _ _ _ (by rw [List.length_set]; omega), ins_len _ _ _ hle, List.length_set, h.2.1]), map_ins, map_set', fullAll]
      exact (weave_split u (all d s') (all d r) t.1 (t.2.map (all d)) (lb x t.1) hl hle).symm
theorem mem_ins {α : Type} {l : List α} {i : Nat} {x y : α} (h : y ∈ ins l i x) : y = x ∨ y ∈ l := by
  unfold ins at h
  rcases List.mem_append.1 h with h | h
  · exact .inr (List.mem_of_mem_take h)
  · rcases List.mem_cons.1 h with h | h
    · exact .inl h
    · exact .inr (List.mem_of_mem_drop h)
/-- What stands behind an add. -/
def Okp (d lo : Nat) (p : T d × Option (Int × T d)) : Prop := match p.2 with
  | none => Ok d lo p.1
  | some (_, r) => Ok d 2 p.1 ∧ Ok d 2 r
theorem cutN_ok {d lo : Nat} (l : List Int) (m : List (T d)) (h : m.length = l.length + 1) (h1 : lo ≤ l.length) (h2 : l.length ≤ 5) (h3 : ∀ s ∈ m, Ok d 2 s) : Okp (d + 1) lo (cutN l m) := by
  unfold cutN Okp
  by_cases hl : l.length ≤ 4
  · rw [if_pos hl]
    exact ⟨⟨h1, hl⟩, h, h3⟩
  · rw [if_neg hl]
    refine ⟨⟨⟨?_, ?_⟩, ?_, fun s hs => h3 s (List.mem_of_mem_take hs)⟩, ⟨⟨?_, ?_⟩, ?_, fun s hs => h3 s (List.mem_of_mem_drop hs)⟩⟩
    all_goals simp only [List.length_take, List.length_drop]
    all_goals omega
theorem add_ok : ∀ (d lo : Nat) (t : T d) (x : Int), Ok d lo t → Okp d lo (add d t x)
  | 0, lo, t, x, h => by
    have hl := ins_len (α := Int) t (lb x t) x (lb_le x t)
    have h1 : lo ≤ List.length (α := Int) t := h.1
    have h2 : List.length (α := Int) t ≤ 4 := h.2
    show Okp 0 lo (cut0 (ins (α := Int) t (lb x t) x))
    unfold cut0 Okp
    by_cases h4 : (ins (α := Int) t (lb x t) x).length ≤ 4
    · rw [if_pos h4]
      exact ⟨by show lo ≤ (ins (α := Int) t (lb x t) x).length; omega, h4⟩
    · rw [if_neg h4]
      refine ⟨⟨?_, ?_⟩, ⟨?_, ?_⟩⟩
      · show 2 ≤ (List.take 2 (ins (α := Int) t (lb x t) x)).length; rw [List.length_take]; omega
      · show (List.take 2 (ins (α := Int) t (lb x t) x)).length ≤ 4; rw [List.length_take]; omega
      · show 2 ≤ (List.drop 3 (ins (α := Int) t (lb x t) x)).length; rw [List.length_drop]; omega
      · show (List.drop 3 (ins (α := Int) t (lb x t) x)).length ≤ 4; rw [List.length_drop]; omega
  | d + 1, lo, t, x, h => by
    obtain ⟨s, hs, hm, hi⟩ := kid_at h x
    have ih := add_ok d 2 s x (h.2.2 s hm)
    have hle := lb_le x t.1
    rw [add, hs]
    simp only
    rcases hadd : add d s x with ⟨s', o⟩
    rw [hadd] at ih
    cases o with
    | none =>
      simp only
      refine ⟨h.1, by rw [List.length_set]; exact h.2.1, fun y hy => ?_⟩
      rcases List.mem_or_eq_of_mem_set hy with hy | rfl
      · exact h.2.2 y hy
      · exact ih
    | some p =>
      obtain ⟨u, r⟩ := p
      obtain ⟨i1, i2⟩ := ih
      simp only
      have e1 := ins_len t.1 (lb x t.1) u hle
      refine cutN_ok _ _ (by rw [ins_len _ _ _ (by rw [List.length_set]; omega), e1, List.length_set, h.2.1]) (by rw [e1]; have := h.1.1; omega) (by rw [e1]; have := h.1.2; omega) (fun y hy => ?_)
      rcases mem_ins hy with rfl | hy
      · exact i2
      · rcases List.mem_or_eq_of_mem_set hy with hy | rfl
        · exact h.2.2 y hy
        · exact i1
/-! ### How many keys -/
theorem sum_ge (n : Nat) : ∀ (l : List Nat), (∀ x ∈ l, n ≤ x) → l.length * n ≤ l.sum
  | [], _ => by simp
  | x :: r, h => by
    have := sum_ge n r (fun y hy => h y (by simp [hy]))
    have := h x (by simp)
    rw [List.length_cons, List.sum_cons, Nat.add_mul, Nat.one_mul]
    omega
theorem size_kids {d lo n : Nat} {t : T (d + 1)} (h : Ok (d + 1) lo t) (hn : ∀ s ∈ t.2, n ≤ (all d s).length + 1) : (lo + 1) * n ≤ (all (d + 1) t).length + 1 := by
  have h1 := weave_len t.1 (t.2.map (all d)) (map_len h)
  have h2 : (t.2.map (all d)).map List.length = t.2.map (fun s => (all d s).length) := by rw [List.map_map]; rfl
  have h3 := sum_ge n (t.2.map (fun s => (all d s).length + 1)) (fun x hx => by
    obtain ⟨s, hs, rfl⟩ := List.mem_map.1 hx
    exact hn s hs)
  have h4 : (t.2.map (fun s => (all d s).length + 1)).sum = (t.2.map (fun s => (all d s).length)).sum + t.2.length := by
    clear h h1 h2 h3 hn
    induction t.2 with
    | nil => rfl
    | cons a l ih => simp only [List.map_cons, List.sum_cons, List.length_cons, ih]; omega
  rw [List.length_map, h.2.1, h4] at h3
  rw [h2] at h1
  have h5 : (all (d + 1) t).length = t.1.length + (t.2.map (fun s => (all d s).length)).sum := h1
  have h6 := Nat.mul_le_mul_right n (Nat.succ_le_succ h.1.1)
  rw [h.2.1] at h3
  have h7 : (lo + 1) * n ≤ (t.1.length + 1) * n := h6
  omega
theorem size_low : ∀ (d : Nat) (t : T d), Ok d 2 t → 3 ^ (d + 1) ≤ (all d t).length + 1
  | 0, t, h => by
    have : 2 ≤ List.length (α := Int) t := h.1
    show 3 ≤ List.length (α := Int) t + 1
    omega
  | d + 1, t, h => by
    have := size_kids h (fun s hs => size_low d s (h.2.2 s hs))
    rw [Nat.pow_succ, Nat.mul_comm]
    exact this
theorem size_root (d : Nat) (t : T (d + 1)) (h : Ok (d + 1) 1 t) : 2 * 3 ^ (d + 1) ≤ (all (d + 1) t).length + 1 := size_kids h (fun s hs => size_low d s (h.2.2 s hs))
/-! ### The whole tree -/
structure Tree where
  d : Nat
  t : T d
  many : Nat
def Tree.keys (s : Tree) : List Int := all s.d s.t
def lowOf (d : Nat) : Nat := if d = 0 then 0 else 1
structure Tree.OK (s : Tree) : Prop where
  ok : Ok s.d (lowOf s.d) s.t
  up : Up s.keys
  len : s.keys.length = s.many
  many : s.many ≤ 60
  rng : ∀ x ∈ s.keys, 0 ≤ x ∧ x ≤ 1000
def new : Tree := ⟨0, ([] : List Int), 0⟩
theorem new_ok : new.OK := ⟨⟨Nat.le_refl _, Nat.zero_le _⟩, List.Pairwise.nil, rfl, Nat.zero_le _, fun x hx => by cases hx⟩
def addErr (s : Tree) (x : Int) : Int := if 0 ≤ x ∧ x ≤ 1000 then (if has s.d s.t x = true then 6 else if s.many = 60 then 4 else 0) else 1
/-- The tree behind the root's own add. -/
def grow (d : Nat) (p : T d × Option (Int × T d)) (n : Nat) : Tree := match p.2 with
  | none => ⟨d, p.1, n⟩
  | some (u, r) => ⟨d + 1, ([u], [p.1, r]), n⟩
def put (s : Tree) (x : Int) : Tree := if addErr s x = 0 then grow s.d (add s.d s.t x) (s.many + 1) else s
theorem grow_keys (d : Nat) (p : T d × Option (Int × T d)) (n : Nat) : (grow d p n).keys = fullAll d p := by
  obtain ⟨a, o⟩ := p
  cases o with
  | none => simp [grow, Tree.keys, fullAll]
  | some q =>
    obtain ⟨u, r⟩ := q
    show weave [u] [all d a, all d r] = _
    simp [weave, fullAll]
theorem grow_ok {d : Nat} {p : T d × Option (Int × T d)} {n : Nat} (h : Okp d (lowOf d) p) : Ok (grow d p n).d (lowOf (grow d p n).d) (grow d p n).t := by
  obtain ⟨a, o⟩ := p
  cases o with
  | none => exact h
  | some q =>
    obtain ⟨u, r⟩ := q
    obtain ⟨h1, h2⟩ := h
    refine ⟨⟨Nat.le_refl _, by show 1 ≤ 4; omega⟩, rfl, fun s hs => ?_⟩
    simp only [grow, List.mem_cons, List.not_mem_nil, or_false] at hs
    rcases hs with rfl | rfl
    · exact h1
    · exact h2
theorem Tree.OK.has {s : Tree} (h : s.OK) (x : Int) : has s.d s.t x = decide (x ∈ s.keys) := has_all s.d _ s.t x h.ok h.up
theorem addErr_zero {s : Tree} {x : Int} (h : addErr s x = 0) : (0 ≤ x ∧ x ≤ 1000) ∧ ¬ has s.d s.t x = true ∧ s.many ≠ 60 := by
  unfold addErr at h
  split at h
  · rename_i h1
    split at h
    · omega
    · rename_i h2
      split at h
      · omega
      · rename_i h3; exact ⟨h1, h2, h3⟩
  · omega
theorem put_keys {s : Tree} (h : s.OK) {x : Int} (he : addErr s x = 0) : (put s x).keys = insS x s.keys ∧ x ∉ s.keys := by
  obtain ⟨_, h2, _⟩ := addErr_zero he
  rw [h.has] at h2
  have hn : x ∉ s.keys := by simpa using h2
  refine ⟨?_, hn⟩
  unfold put
  rw [if_pos he, grow_keys]
  exact add_all s.d _ s.t x h.ok h.up hn
theorem Tree.OK.put {s : Tree} (h : s.OK) (x : Int) : (put s x).OK := by
  by_cases he : addErr s x = 0
  · obtain ⟨h1, h2⟩ := put_keys h he
    obtain ⟨h3, _, h5⟩ := addErr_zero he
    have hm : (Bt.put s x).many = s.many + 1 := by
      unfold Bt.put
      rw [if_pos he]
      unfold grow
      split <;> rfl
    refine ⟨?_, by rw [h1]; exact up_insS x _ h.up h2, by rw [h1, len_insS, hm, h.len], by rw [hm]; have := h.many; omega, fun y hy => ?_⟩
    · unfold Bt.put
      rw [if_pos he]
      exact grow_ok (add_ok s.d _ s.t x h.ok)
    · rw [h1] at hy
      rcases (mem_insS x y _).1 hy with rfl | hy
      · exact h3
      · exact h.rng y hy
  · have : Bt.put s x = s := by unfold Bt.put; rw [if_neg he]
    rw [this]; exact h
theorem Tree.OK.deep {s : Tree} (h : s.OK) : s.d ≤ 3 := by
  have h1 := h.len
  have h2 := h.many
  obtain ⟨d, t, n⟩ := s
  cases d with
  | zero => simp
  | succ d =>
    have h3 := size_root d t h.ok
    have h4 : (all (d + 1) t).length = n := h1
    simp only at h2 ⊢
    by_cases hd : d + 1 ≤ 3
    · exact hd
    · have : 3 ^ 4 ≤ 3 ^ (d + 1) := Nat.pow_le_pow_right (by decide) (by omega)
      omega
end Bt
end Go.Proofs.YtokbhiokcoldbaaDoor
/- The document's tree of nodes by numbers, in plain Lean: what an insertion does to the table of nodes is what it does to the tree. No program in sight. -/
namespace Go.Proofs.YtokbhiokcoldbaaDoor
namespace Bt

/-- A node: keys, kids by number. -/
abbrev Nn := List Int × List Int
def nd (ns : List Nn) (i : Nat) : Nn := ns.getD i ([], [])
def und (l : List Int) (x : Int) : Nat := (l.filter (fun y => decide (y < x))).length
theorem und_lb {x : Int} : ∀ {l : List Int}, Up l → und l x = lb x l
  | [], _ => rfl
  | y :: r, h => by
    have h' := List.pairwise_cons.1 h
    unfold und lb
    by_cases hy : y < x
    · rw [List.filter_cons_of_pos (by simpa using hy), if_pos hy, List.length_cons]
      have := und_lb (x := x) h'.2
      unfold und at this
      rw [this]
    · rw [List.filter_cons_of_neg (by simpa using hy), if_neg hy]
      rw [List.filter_eq_nil_iff.2 (fun z hz => by have := h'.1 z hz; simp; omega)]
      rfl
theorem lb_kid {y : Int} : ∀ (k : List Int) (ls : List (List Int)) (i : Nat), ls.length = k.length + 1 → Up (weave k ls) → i ≤ k.length → y ∈ ls.getD i [] → lb y k = i
  | [], ls, i, hl, hu, hi, hy => by
    have : i = 0 := by simpa using hi
    subst this; rfl
  | u :: r, ls, i, hl, hu, hi, hy => by
    obtain ⟨l0, lr, rfl⟩ : ∃ a b, ls = a :: b := by cases ls with | nil => simp at hl | cons a b => exact ⟨a, b, rfl⟩
    have hlr : lr.length = r.length + 1 := by simpa using hl
    have e : weave (u :: r) (l0 :: lr) = l0 ++ u :: weave r lr := rfl
    rw [e] at hu
    obtain ⟨h1, h2, h3⟩ := List.pairwise_append.1 hu
    have h2' := List.pairwise_cons.1 h2
    unfold lb
    cases i with
    | zero =>
      have : y < u := h3 y (by simpa using hy) u (by simp)
      rw [if_neg (by omega)]
    | succ i =>
      have hy' : y ∈ lr.getD i [] := by simpa using hy
      have hil : i < lr.length := by simp at hi; omega
      have hm : lr.getD i [] ∈ lr := by
        rw [List.getD_eq_getElem?_getD, List.getElem?_eq_getElem hil]; exact List.getElem_mem hil
      have : u < y := h2'.1 y ((mem_weave y r lr hlr).2 (.inr ⟨_, hm, hy'⟩))
      rw [if_pos this, lb_kid r lr i hlr h2'.2 (by simpa using hi) hy']
/-- Node i of the table is the topmost one of a tree; F are its nodes. -/
def Rep : (d : Nat) → List Nn → Nat → T d → List Nat → Prop
  | 0, ns, i, t, F => ns[i]? = some (t, []) ∧ F = [i]
  | d + 1, ns, i, t, F => ∃ K : List (Nat × T d × List Nat), ns[i]? = some (t.1, K.map (fun p => (p.1 : Int))) ∧ t.2 = K.map (·.2.1) ∧ (∀ p ∈ K, Rep d ns p.1 p.2.1 p.2.2) ∧ F = i :: (K.map (·.2.2)).flatten
theorem Rep.lt : ∀ {d : Nat} {ns : List Nn} {i : Nat} {t : T d} {F : List Nat}, Rep d ns i t F → ∀ x ∈ F, x < ns.length
  | 0, ns, i, t, F, h, x, hx => by
    obtain ⟨h1, rfl⟩ := h
    rw [List.mem_singleton] at hx
    subst hx
    exact (List.getElem?_eq_some_iff.1 h1).1
  | d + 1, ns, i, t, F, h, x, hx => by
    obtain ⟨K, h1, -, h3, rfl⟩ := h
    rcases List.mem_cons.1 hx with rfl | hx
    · exact (List.getElem?_eq_some_iff.1 h1).1
    · obtain ⟨L, hL, hx⟩ := List.mem_flatten.1 hx
      obtain ⟨p, hp, rfl⟩ := List.mem_map.1 hL
      exact (h3 p hp).lt x hx
theorem Rep.keep : ∀ {d : Nat} {ns ns' : List Nn} {i : Nat} {t : T d} {F : List Nat}, Rep d ns i t F → (∀ x ∈ F, ns'[x]? = ns[x]?) → Rep d ns' i t F
  | 0, ns, ns', i, t, F, h, hk => by
    obtain ⟨h1, rfl⟩ := h
    exact ⟨(hk i (by simp)).trans h1, rfl⟩
  | d + 1, ns, ns', i, t, F, h, hk => by
    obtain ⟨K, h1, h2, h3, rfl⟩ := h
    exact ⟨K, (hk i (by simp)).trans h1, h2, fun p hp => (h3 p hp).keep (fun x hx => hk x (List.mem_cons_of_mem _ (List.mem_flatten.2 ⟨_, List.mem_map.2 ⟨p, hp, rfl⟩, hx⟩))), rfl⟩
theorem Rep.self : ∀ {d : Nat} {ns : List Nn} {i : Nat} {t : T d} {F : List Nat}, Rep d ns i t F → i ∈ F
  | 0, _, _, _, _, h => by rw [h.2]; simp
  | _ + 1, _, _, _, _, h => by obtain ⟨K, -, -, -, rfl⟩ := h; simp
/-- One node of the way, from below: a key, and a kid behind it (-1: none). -/
def body (ns : List Nn) (i : Nat) (k kid : Int) : List Nn × Option (Int × Int) :=
  let n := nd ns i
  let a := und n.1 k
  let l := ins n.1 a k
  let c := if 0 ≤ kid then ins n.2 (a + 1) kid else n.2
  if l.length ≤ 4 then (ns.set i (l, c), none) else ((ns ++ [(l.drop 3, c.drop 3)]).set i (l.take 2, c.take 3), some (l.getD 2 0, (ns.length : Int)))
def upw (ns : List Nn) (x : Int) : List Nat → List Nn × Option (Int × Int)
  | [] => (ns, some (x, -1))
  | i :: r => match upw ns x r with
    | (ns', none) => (ns', none)
    | (ns', some (k, kid)) => body ns' i k kid
/-- The way down to a leaf. -/
def path (ns : List Nn) (x : Int) : Nat → Nat → List Nat
  | 0, i => [i]
  | d + 1, i => i :: path ns x d ((nd ns i).2.getD (und (nd ns i).1 x) 0).toNat
theorem nd_of {ns : List Nn} {i : Nat} {n : Nn} (h : ns[i]? = some n) : nd ns i = n := by
  unfold nd
  rw [List.getD_eq_getElem?_getD, h]
  rfl
/-- The table has grown; of what was there only nodes of F have turned; F' has those and new ones. -/
structure Chg (ns ns' : List Nn) (F F' : List Nat) : Prop where
  le : ns.length ≤ ns'.length
  old : ∀ j, j < ns.length → j ∉ F → ns'[j]? = ns[j]?
  new : ∀ j ∈ F', j ∈ F ∨ ns.length ≤ j
theorem set_mid {α : Type} (x y : α) (B : List α) : ∀ (A : List α), (A ++ x :: B).set A.length y = A ++ y :: B
  | [] => rfl
  | a :: A => by
    rw [List.cons_append, List.length_cons, List.set_cons_succ, set_mid x y B A, List.cons_append]
theorem ins_mid {α : Type} (y z : α) (A B : List α) : ins (A ++ y :: B) (A.length + 1) z = A ++ y :: z :: B := by
  unfold ins
  have e : A ++ y :: B = (A ++ [y]) ++ B := by simp
  have l : (A ++ [y]).length = A.length + 1 := by simp
  rw [e, ← l, List.take_left, List.drop_left]
  simp
end Bt
end Go.Proofs.YtokbhiokcoldbaaDoor
