/- Trees that never change: what is put makes another one. No program in sight. -/
import Derived.Test.YtokbhiokcoldbaaDoorRows
import Derived.Test.YtokbhiokcoldbaaDoorCq01
namespace Go.Proofs.YtokbhiokcoldbaaDoor

/-- A tree in memory: each node with the block that it lies in. -/
inductive Ct where
  | nil
  | node (b : Nat) (k v : Int) (l r : Ct)
namespace Co
/-- Put: the new nodes lie in blocks from n on. -/
def put : Ct → Nat → Int → Int → Ct
  | .nil, n, k, v => .node n k v .nil .nil
  | .node _ k' v' l r, n, k, v => if k < k' then .node n k' v' (put l (n + 1) k v) r else if k' < k then .node n k' v' l (put r (n + 1) k v) else .node n k' v l r
def get : Ct → Int → Option Int
  | .nil, _ => none
  | .node _ k' v' l r, a => if k' = a then some v' else if a < k' then get l a else get r a
/-- The nodes, as keys rise: block, key. -/
def nodes : Ct → List (Nat × Int)
  | .nil => []
  | .node b k _ l r => nodes l ++ (b, k) :: nodes r
def keys (T : Ct) : List Int := (nodes T).map (·.2)
def blks (T : Ct) : List Nat := (nodes T).map (·.1)
theorem keys_node (b : Nat) (k v : Int) (l r : Ct) : keys (.node b k v l r) = keys l ++ k :: keys r := by simp [keys, nodes]
theorem blks_node (b : Nat) (k v : Int) (l r : Ct) : blks (.node b k v l r) = blks l ++ b :: blks r := by simp [blks, nodes]
theorem len_keys (T : Ct) : (keys T).length = (nodes T).length := by simp [keys]
theorem len_blks (T : Ct) : (blks T).length = (nodes T).length := by simp [blks]

/-! ### What is got -/
theorem get_put (k v a : Int) : ∀ (T : Ct) (n : Nat), get (put T n k v) a = if a = k then some v else get T a
  | .nil, n => by
    simp only [put, get]
    by_cases h : a = k
    · subst h; simp
    · rw [if_neg (fun e => h e.symm), if_neg h]; split <;> rfl
  | .node b k' v' l r, n => by
    simp only [put]
    by_cases h1 : k < k'
    · rw [if_pos h1]
      simp only [get]
      rw [get_put k v a l (n + 1)]
      by_cases ha : a = k
      · subst ha
        rw [if_neg (by omega), if_pos h1, if_pos rfl, if_pos rfl]
      · rw [if_neg ha, if_neg ha]
    · rw [if_neg h1]
      by_cases h2 : k' < k
      · rw [if_pos h2]
        simp only [get]
        rw [get_put k v a r (n + 1)]
        by_cases ha : a = k
        · subst ha
          rw [if_neg (by omega), if_neg h1, if_pos rfl, if_pos rfl]
        · rw [if_neg ha, if_neg ha]
      · rw [if_neg h2]
        obtain rfl : k = k' := by omega
        simp only [get]
        by_cases ha : a = k
        · subst ha; simp
        · have ha' : ¬ k = a := fun e => ha e.symm
          simp only [if_neg ha', if_neg ha]

/-! ### Keys -/
theorem mem_keys_put (k v x : Int) : ∀ (T : Ct) (n : Nat), x ∈ keys (put T n k v) ↔ x = k ∨ x ∈ keys T
  | .nil, n => by simp [put, keys, nodes]
  | .node b k' v' l r, n => by
    simp only [put]
    by_cases h1 : k < k'
    · rw [if_pos h1, keys_node, keys_node, List.mem_append, List.mem_append, mem_keys_put k v x l (n + 1)]
      constructor
      · rintro ((h | h) | h)
        · exact .inl h
        · exact .inr (.inl h)
        · exact .inr (.inr h)
      · rintro (h | h | h)
        · exact .inl (.inl h)
        · exact .inl (.inr h)
        · exact .inr h
    · rw [if_neg h1]
      by_cases h2 : k' < k
      · rw [if_pos h2, keys_node, keys_node, List.mem_append, List.mem_append, List.mem_cons, List.mem_cons, mem_keys_put k v x r (n + 1)]
        constructor
        · rintro (h | h | h | h)
          · exact .inr (.inl h)
          · exact .inr (.inr (.inl h))
          · exact .inl h
          · exact .inr (.inr (.inr h))
        · rintro (h | h | h | h)
          · exact .inr (.inr (.inl h))
          · exact .inl h
          · exact .inr (.inl h)
          · exact .inr (.inr (.inr h))
      · rw [if_neg h2, keys_node, keys_node]
        obtain rfl : k = k' := by omega
        simp only [List.mem_append, List.mem_cons]
        constructor
        · intro h; exact .inr h
        · rintro (rfl | h)
          · exact .inr (.inl rfl)
          · exact h
/-- Keys rise. -/
def Up (T : Ct) : Prop := (keys T).Pairwise (· < ·)
theorem up_node {b : Nat} {k v : Int} {l r : Ct} : Up (.node b k v l r) ↔ Up l ∧ Up r ∧ (∀ x ∈ keys l, x < k) ∧ (∀ x ∈ keys r, k < x) := by
  unfold Up
  rw [keys_node, List.pairwise_append, List.pairwise_cons]
  constructor
  · rintro ⟨h1, ⟨h2, h3⟩, h4⟩
    exact ⟨h1, h3, fun x hx => h4 x hx k (by simp), h2⟩
  · rintro ⟨h1, h2, h3, h4⟩
    refine ⟨h1, ⟨h4, h2⟩, fun x hx y hy => ?_⟩
    rcases List.mem_cons.1 hy with rfl | hy
    · exact h3 x hx
    · have := h3 x hx; have := h4 y hy; omega
theorem up_put (k v : Int) : ∀ (T : Ct) (n : Nat), Up T → Up (put T n k v)
  | .nil, n, _ => by simp [put, Up, keys, nodes]
  | .node b k' v' l r, n, h => by
    obtain ⟨h1, h2, h3, h4⟩ := up_node.1 h
    simp only [put]
    by_cases c1 : k < k'
    · rw [if_pos c1]
      exact up_node.2 ⟨up_put k v l (n + 1) h1, h2, fun x hx => by
        rcases (mem_keys_put k v x l (n + 1)).1 hx with rfl | hx
        · exact c1
        · exact h3 x hx, h4⟩
    · rw [if_neg c1]
      by_cases c2 : k' < k
      · rw [if_pos c2]
        exact up_node.2 ⟨h1, up_put k v r (n + 1) h2, h3, fun x hx => by
          rcases (mem_keys_put k v x r (n + 1)).1 hx with rfl | hx
          · exact c2
          · exact h4 x hx⟩
      · rw [if_neg c2]
        exact up_node.2 ⟨h1, h2, h3, h4⟩
theorem up_eq : ∀ (a b : List Int), a.Pairwise (· < ·) → b.Pairwise (· < ·) → (∀ i, i ∈ a ↔ i ∈ b) → a = b
  | [], [], _, _, _ => rfl
  | [], y :: b, _, _, h => absurd ((h y).2 (by simp)) (by simp)
  | x :: a, [], _, _, h => absurd ((h x).1 (by simp)) (by simp)
  | x :: a, y :: b, ha, hb, h => by
    rw [List.pairwise_cons] at ha hb
    have hxy : x = y := by
      have h1 := (h x).1 (by simp)
      have h2 := (h y).2 (by simp)
      rcases List.mem_cons.1 h1 with e | h1
      · exact e
      · rcases List.mem_cons.1 h2 with e | h2
        · exact e.symm
        · have := hb.1 x h1
          have := ha.1 y h2
          omega
    subst hxy
    rw [up_eq a b ha.2 hb.2 (fun i => ⟨fun hi => ?_, fun hi => ?_⟩)]
    · have := ha.1 i hi
      rcases List.mem_cons.1 ((h i).1 (by simp [hi])) with e | h1
      · omega
      · exact h1
    · have := hb.1 i hi
      rcases List.mem_cons.1 ((h i).2 (by simp [hi])) with e | h1
      · omega
      · exact h1
theorem keys_put_old {T : Ct} (h : Up T) (n : Nat) (k v : Int) (hk : k ∈ keys T) : keys (put T n k v) = keys T :=
  up_eq _ _ (up_put k v T n h) h (fun i => by rw [mem_keys_put]; exact ⟨fun h => h.elim (fun e => e ▸ hk) id, .inr⟩)
theorem up_nodup {l : List Int} (h : l.Pairwise (· < ·)) : l.Nodup := h.imp (fun h => by omega)
theorem keys_put_new {T : Ct} (h : Up T) (n : Nat) (k v : Int) (hk : k ∉ keys T) : (keys (put T n k v)).Perm (keys T ++ [k]) := by
  rw [List.perm_ext_iff_of_nodup (up_nodup (up_put k v T n h)) (List.nodup_append.2 ⟨up_nodup h, by simp, fun a ha b hb => by simp only [List.mem_singleton] at hb; rintro rfl; exact hk (hb ▸ ha)⟩)]
  intro a
  rw [mem_keys_put, List.mem_append, List.mem_singleton]
  exact ⟨fun h => h.symm, fun h => h.symm⟩

/-! ### Blocks -/
theorem root_put (k v : Int) (T : Ct) (n : Nat) : n ∈ blks (put T n k v) := by
  cases T with
  | nil => simp [put, blks, nodes]
  | node b k' v' l r =>
    simp only [put]
    split
    · rw [blks_node]; simp
    · split <;> (rw [blks_node]; simp)
theorem blks_put (k v : Int) (x : Nat) : ∀ (T : Ct) (n : Nat), x ∈ blks (put T n k v) → n ≤ x ∨ x ∈ blks T
  | .nil, n, h => by simp [put, blks, nodes] at h; omega
  | .node b k' v' l r, n, h => by
    simp only [put] at h
    rw [blks_node]
    split at h
    · rw [blks_node, List.mem_append, List.mem_cons] at h
      rcases h with h | h | h
      · rcases blks_put k v x l (n + 1) h with h | h
        · exact .inl (by omega)
        · exact .inr (by simp [h])
      · exact .inl (by omega)
      · exact .inr (by simp [h])
    · split at h
      · rw [blks_node, List.mem_append, List.mem_cons] at h
        rcases h with h | h | h
        · exact .inr (by simp [h])
        · exact .inl (by omega)
        · rcases blks_put k v x r (n + 1) h with h | h
          · exact .inl (by omega)
          · exact .inr (by simp [h])
      · rw [blks_node, List.mem_append, List.mem_cons] at h
        rcases h with h | h | h
        · exact .inr (by simp [h])
        · exact .inl (by omega)
        · exact .inr (by simp [h])
/-- No block twice, all below n. -/
def Apt (T : Ct) (n : Nat) : Prop := (blks T).Nodup ∧ ∀ x ∈ blks T, x < n
theorem apt_node {b : Nat} {k v : Int} {l r : Ct} {n : Nat} : Apt (.node b k v l r) n ↔ Apt l n ∧ Apt r n ∧ b < n ∧ b ∉ blks l ∧ b ∉ blks r ∧ ∀ x ∈ blks l, x ∉ blks r := by
  unfold Apt
  rw [blks_node, List.nodup_append, List.nodup_cons]
  constructor
  · rintro ⟨⟨h1, ⟨h2, h3⟩, h4⟩, h5⟩
    exact ⟨⟨h1, fun x hx => h5 x (by simp [hx])⟩, ⟨h3, fun x hx => h5 x (by simp [hx])⟩, h5 b (by simp), fun hb => h4 b hb b (by simp) rfl, h2, fun x hx hr => h4 x hx x (by simp [hr]) rfl⟩
  · rintro ⟨⟨h1, h2⟩, ⟨h3, h4⟩, h5, h6, h7, h8⟩
    refine ⟨⟨h1, ⟨h7, h3⟩, fun a ha c hc e => ?_⟩, fun x hx => ?_⟩
    · subst e
      rcases List.mem_cons.1 hc with rfl | hc
      · exact h6 ha
      · exact h8 a ha hc
    · rcases List.mem_append.1 hx with hx | hx
      · exact h2 x hx
      · rcases List.mem_cons.1 hx with rfl | hx
        · exact h5
        · exact h4 x hx
theorem Apt.mono {T : Ct} {n m : Nat} (h : Apt T n) (hm : n ≤ m) : Apt T m := ⟨h.1, fun x hx => Nat.lt_of_lt_of_le (h.2 x hx) hm⟩
/-- How deep the way to a key is: so many nodes are new. -/
def way : Ct → Int → Nat
  | .nil, _ => 1
  | .node _ k' _ l r, k => if k < k' then way l k + 1 else if k' < k then way r k + 1 else 1
theorem apt_put (k v : Int) : ∀ (T : Ct) (n : Nat), Apt T n → Apt (put T n k v) (n + way T k)
  | .nil, n, _ => by simp [put, Apt, blks, nodes, way]
  | .node b k' v' l r, n, h => by
    obtain ⟨h1, h2, h3, h4, h5, h6⟩ := apt_node.1 h
    simp only [put, way]
    by_cases c1 : k < k'
    · rw [if_pos c1, if_pos c1]
      have ih := apt_put k v l (n + 1) (h1.mono (by omega))
      refine apt_node.2 ⟨?_, h2.mono (by omega), by omega, fun hb => ?_, fun hb => ?_, fun x hx hr => ?_⟩
      · rw [show n + (way l k + 1) = n + 1 + way l k by omega]; exact ih
      · rcases blks_put k v n l (n + 1) hb with h | h
        · omega
        · have := h1.2 n h; omega
      · have := h2.2 n hb; omega
      · rcases blks_put k v x l (n + 1) hx with h | h
        · have := h2.2 x hr; omega
        · exact h6 x h hr
    · rw [if_neg c1, if_neg c1]
      by_cases c2 : k' < k
      · rw [if_pos c2, if_pos c2]
        have ih := apt_put k v r (n + 1) (h2.mono (by omega))
        refine apt_node.2 ⟨h1.mono (by omega), ?_, by omega, fun hb => ?_, fun hb => ?_, fun x hx hr => ?_⟩
        · rw [show n + (way r k + 1) = n + 1 + way r k by omega]; exact ih
        · have := h1.2 n hb; omega
        · rcases blks_put k v n r (n + 1) hb with h | h
          · omega
          · have := h2.2 n h; omega
        · rcases blks_put k v x r (n + 1) hr with h | h
          · have := h1.2 x hx; omega
          · exact h6 x hx h
      · rw [if_neg c2, if_neg c2]
        refine apt_node.2 ⟨h1.mono (by omega), h2.mono (by omega), by omega, fun hb => ?_, fun hb => ?_, h6⟩
        · have := h1.2 n hb; omega
        · have := h2.2 n hb; omega
/-- The old root is not in the new tree. -/
theorem root_gone {b : Nat} {k' v' : Int} {l r : Ct} {n : Nat} (h : Apt (.node b k' v' l r) n) (k v : Int) : b ∉ blks (put (.node b k' v' l r) n k v) := by
  obtain ⟨h1, h2, h3, h4, h5, h6⟩ := apt_node.1 h
  simp only [put]
  split
  · rw [blks_node, List.mem_append, List.mem_cons]
    rintro (hb | hb | hb)
    · rcases blks_put k v b l (n + 1) hb with h | h
      · omega
      · exact h4 h
    · omega
    · exact h5 hb
  · split
    · rw [blks_node, List.mem_append, List.mem_cons]
      rintro (hb | hb | hb)
      · exact h4 hb
      · omega
      · rcases blks_put k v b r (n + 1) hb with h | h
        · omega
        · exact h5 h
    · rw [blks_node, List.mem_append, List.mem_cons]
      rintro (hb | hb | hb)
      · exact h4 hb
      · omega
      · exact h5 hb

/-! ### Nodes that two trees share -/
/-- How many nodes of the second tree are nodes of the first one. -/
def shared (A B : Ct) : Nat := ((blks B).filter fun b => (blks A).contains b).length
theorem shared_comm {A B : Ct} (hA : (blks A).Nodup) (hB : (blks B).Nodup) : shared A B = shared B A := by
  unfold shared
  refine List.Perm.length_eq ((List.perm_ext_iff_of_nodup (hB.filter _) (hA.filter _)).2 fun x => ?_)
  simp only [List.mem_filter, List.contains_iff_mem]
  exact ⟨fun h => ⟨h.2, h.1⟩, fun h => ⟨h.2, h.1⟩⟩
theorem shared_self (A : Ct) : shared A A = (keys A).length := by
  unfold shared
  rw [List.filter_eq_self.2 (fun a ha => by simpa using ha), len_keys, len_blks]
theorem shared_le (A B : Ct) : shared A B ≤ (keys B).length := by
  unfold shared
  rw [len_keys, ← len_blks]
  exact List.length_filter_le _ _
theorem shared_lt {A B : Ct} {x : Nat} (hx : x ∈ blks B) (hn : x ∉ blks A) : shared A B < (keys B).length := by
  unfold shared
  rw [len_keys, ← len_blks]
  exact List.length_filter_lt_length_iff_exists.2 ⟨x, hx, by simpa using hn⟩
/-- What CowShared says. -/
theorem shared_law {A : Ct} {n : Nat} (hA : Apt A n) (k v : Int) (B : Ct) (hB : B = put A n k v) :
    shared A B = shared B A ∧ shared B B = (keys B).length ∧ shared A B < (keys B).length ∧ shared A B ≤ (keys A).length ∧ ((keys A).length = 0 ∨ shared A B < (keys A).length) := by
  subst hB
  have hB := apt_put k v A n hA
  have hc := shared_comm hA.1 hB.1
  refine ⟨hc, shared_self _, shared_lt (root_put k v A n) (fun h => by have := hA.2 n h; omega), by rw [hc]; exact shared_le _ _, ?_⟩
  cases A with
  | nil => exact .inl rfl
  | node b k' v' l r =>
    refine .inr ?_
    rw [hc]
    exact shared_lt (x := b) (by rw [blks_node]; simp) (root_gone hA k v)

theorem nodes_put (k v : Int) : ∀ (T : Ct) (n : Nat), (nodes (put T n k v)).length ≤ (nodes T).length + 1
  | .nil, n => by simp [put, nodes]
  | .node b k' v' l r, n => by
    simp only [put]
    split
    · have := nodes_put k v l (n + 1)
      simp only [nodes, List.length_append, List.length_cons]
      omega
    · split
      · have := nodes_put k v r (n + 1)
        simp only [nodes, List.length_append, List.length_cons]
        omega
      · simp only [nodes, List.length_append, List.length_cons]
        omega
/-! ### A store -/
def tree (st : List Ct) (v : Int) : Ct := st.getD v.toNat .nil
def has (st : List Ct) (v : Int) : Prop := 0 ≤ v ∧ v ≤ (st.length : Int) - 1
instance (st : List Ct) (v : Int) : Decidable (has st v) := inferInstanceAs (Decidable (_ ∧ _))
def putErr (st : List Ct) (v k x : Int) : Int := if has st v then (if (0 ≤ k ∧ k ≤ 1000) ∧ (0 ≤ x ∧ x ≤ 1000) then (if 20 < st.length then 4 else 0) else 1) else 1
structure OK (st : List Ct) (n : Nat) : Prop where
  up : ∀ T ∈ st, Up T
  apt : ∀ T ∈ st, Apt T n
  few : ∀ T ∈ st, (nodes T).length < st.length
  len : 1 ≤ st.length ∧ st.length ≤ 21
theorem OK.mono {st : List Ct} {n m : Nat} (h : OK st n) (hm : n ≤ m) : OK st m := ⟨h.up, fun T hT => (h.apt T hT).mono hm, h.few, h.len⟩
theorem new_ok (n : Nat) : OK [.nil] n := ⟨fun T hT => by simp at hT; subst hT; exact List.Pairwise.nil, fun T hT => by simp at hT; subst hT; exact ⟨List.Pairwise.nil, fun x hx => by simp [blks, nodes] at hx⟩, fun T hT => by simp at hT; subst hT; decide, by decide⟩
theorem tree_mem {st : List Ct} {v : Int} (h : has st v) : tree st v ∈ st := by
  unfold has at h
  unfold tree
  rw [List.getD_eq_getElem?_getD, List.getElem?_eq_getElem (by omega)]
  exact List.getElem_mem (by omega)
theorem OK.put {st : List Ct} {n m : Nat} (h : OK st n) {v k x : Int} (hp : putErr st v k x = 0) (hm : n + way (tree st v) k ≤ m) : OK (st ++ [Co.put (tree st v) n k x]) m := by
  unfold putErr at hp
  split at hp
  · rename_i hv
    split at hp
    · split at hp
      · cases hp
      · rename_i hl
        have hT := tree_mem hv
        refine ⟨fun T hTm => ?_, fun T hTm => ?_, fun T hTm => ?_, by simp; have := h.len; omega⟩
        · rcases List.mem_append.1 hTm with hTm | hTm
          · exact h.up T hTm
          · simp at hTm; subst hTm; exact up_put k x _ n (h.up _ hT)
        · rcases List.mem_append.1 hTm with hTm | hTm
          · exact (h.apt T hTm).mono (by omega)
          · simp at hTm; subst hTm; exact (apt_put k x _ n (h.apt _ hT)).mono hm
        · rw [List.length_append, List.length_singleton]
          rcases List.mem_append.1 hTm with hTm | hTm
          · have := h.few T hTm; omega
          · simp at hTm; subst hTm
            have := nodes_put k x (tree st v) n
            have := h.few _ hT
            omega
    · cases hp
  · cases hp
theorem tree_old {st : List Ct} {v : Int} (h : has st v) (T : Ct) : tree (st ++ [T]) v = tree st v := by
  unfold has at h
  unfold tree
  simp only [List.getD_eq_getElem?_getD]
  rw [List.getElem?_append_left (by omega)]
theorem tree_new (st : List Ct) (T : Ct) : tree (st ++ [T]) (st.length : Int) = T := by
  unfold tree
  simp
theorem has_new {st : List Ct} (T : Ct) : has (st ++ [T]) (st.length : Int) := by
  unfold has
  rw [List.length_append, List.length_singleton]
  omega
theorem has_old {st : List Ct} {v : Int} (h : has st v) (T : Ct) : has (st ++ [T]) v := by
  unfold has at h ⊢
  rw [List.length_append, List.length_singleton]
  omega
end Co
end Go.Proofs.YtokbhiokcoldbaaDoor
/- What all the walks of this seat share: Within, small words on lists of numbers, the forms of answers. -/
namespace Go.Proofs.YtokbhiokcoldbaaDoor
open Go.RowKit

theorem within_any (n lo hi : Int) (w : World) :
    Calls Tryd.prog 63 #[.int .i64 n, .int .i64 lo, .int .i64 hi] w fun e w' => e = .returned (.bool (decide (lo ≤ n ∧ n ≤ hi))) ∧ w = w' := by
  go_enter Tryd.func63, Tryd.ntmps63
  go_wp2
  all_goals (go_ret; refine ⟨?_, rfl⟩; congr; try simp; try omega)
theorem within_is (n lo hi : Int) (b : Bool) (w : World) (h : decide (lo ≤ n ∧ n ≤ hi) = b) :
    Calls Tryd.prog 63 #[.int .i64 n, .int .i64 lo, .int .i64 hi] w fun e w' => e = .returned (.bool b) ∧ w' = w :=
  (within_any n lo hi w).mono fun _ _ ⟨h1, h2⟩ => ⟨by rw [h1, h], h2.symm⟩
theorem getD_mem {xs : List Int} {k : Nat} (h : k < xs.length) : nth xs k ∈ xs := by
  simp [nth, List.getD, h]
theorem not_mem_of {xs : List Int} {x : Int} (h : ∀ j, j < xs.length → nth xs j ≠ x) : x ∉ xs := fun hm => by
  obtain ⟨k, hk, e⟩ := List.getElem_of_mem hm
  exact h k hk (by simp [nth, List.getD, hk, e])
/-- Two lists, held against each other. -/
theorem eq_of_getD {xs ys : List Int} (hl : xs.length = ys.length) (h : ∀ j, j < xs.length → nth xs j = nth ys j) : xs = ys := by
  apply List.ext_getElem hl
  intro i h1 h2
  have := h i h1
  simpa [nth, List.getD, h1, h2] using this
def SameAs (b : Bool) (w : World) (e : Ending) (w' : World) : Prop := e = .returned (.bool b) ∧ Dr w w'
/-- An error of the project's own: 0 is nil. -/
def errV (c : Int) : Value := if c = 0 then .nilIface else .iface 88 (.int .i64 c)
theorem errV_no {c : Int} (h : c ≠ 0) : errV c = .iface 88 (.int .i64 c) := by unfold errV; rw [if_neg h]
/-- The answer b, and nothing that was there has turned. -/
def OkB (b : Bool) (w : World) (e : Ending) (w' : World) : Prop := e = .returned (.bool b) ∧ Fr [] w w'
/-- The answer true, and nothing that was there has turned. -/
def OkT (w : World) (e : Ending) (w' : World) : Prop := e = .returned (.bool true) ∧ Fr [] w w'
end Go.Proofs.YtokbhiokcoldbaaDoor

/- What the walks over rows of integers share. -/
namespace Go.Proofs.YtokbhiokcoldbaaDoor
open Go.RowKit
theorem Tryd.info_int : (Tryd.prog.info? 3).map (fun i => (i.zero, i.size, i.bytes)) = some (some (.int .i64 0), 1, 8) := by kernel_rfl
theorem Tryd.intT : IntT Tryd.prog 25 3 := ⟨Tryd.underlying25, Tryd.info_int⟩
/-- What a call hands back that makes a row: the integers xs, in new memory. -/
def NewRow (xs : List Int) (w : World) (e : Ending) (w' : World) : Prop := ∃ v g, e = .returned v ∧ (w.heap.size ≤ g ∨ xs = []) ∧ Sl w' v g xs ∧ Fr [] w w'
end Go.Proofs.YtokbhiokcoldbaaDoor
