/- Trees that never change: what is put makes another one. No program in sight. -/
import Derived.Test.YtokbhiokcoldbaaRows
import Derived.Deep.AppendLies
import Derived.Test.YtokbhiokcoldbaaTkM01
namespace Go.Proofs.Ytokbhiokcoldbaa

/-- A tree in memory: each node with the block that it lies in. -/
inductive Ct where
  | nil
  | node (b : Nat) (k v : Int) (l r : Ct)
namespace Co
/-- Put: the new nodes lie in blocks from n on. -/
def put : Ct → Nat → Int → Int → Ct
  | .nil, n, k, v => .node n k v .nil .nil
  | .node _ k' v' l r, n, k, v => if k < k' then .node n k' v' (put l (n + 1) k v) r else if k' < k then .node n k' v' l (put r (n + 1) k v) else .node n k' v l r
def get : Ct → Int → Option Int
  | .nil, _ => none
  | .node _ k' v' l r, a => if k' = a then some v' else if a < k' then get l a else get r a
/-- The nodes, as keys rise: block, key. -/
def nodes : Ct → List (Nat × Int)
  | .nil => []
  | .node b k _ l r => nodes l ++ (b, k) :: nodes r
def keys (T : Ct) : List Int := (nodes T).map (·.2)
def blks (T : Ct) : List Nat := (nodes T).map (·.1)
theorem keys_node (b : Nat) (k v : Int) (l r : Ct) : keys (.node b k v l r) = keys l ++ k :: keys r := by simp [keys, nodes]
theorem blks_node (b : Nat) (k v : Int) (l r : Ct) : blks (.node b k v l r) = blks l ++ b :: blks r := by simp [blks, nodes]
theorem len_keys (T : Ct) : (keys T).length = (nodes T).length := by simp [keys]
theorem len_blks (T : Ct) : (blks T).length = (nodes T).length := by simp [blks]

/-! ### What is got -/
theorem get_put (k v a : Int) : ∀ (T : Ct) (n : Nat), get (put T n k v) a = if a = k then some v else get T a
  | .nil, n => by
    simp only [put, get]
    by_cases h : a = k
    · subst h; simp
    · rw [if_neg (fun e => h e.symm), if_neg h]; split <;> rfl
  | .node b k' v' l r, n => by
    simp only [put]
    by_cases h1 : k < k'
    · rw [if_pos h1]
      simp only [get]
      rw [get_put k v a l (n + 1)]
      by_cases ha : a = k
      · subst ha
        rw [if_neg (by omega), if_pos h1, if_pos rfl, if_pos rfl]
      · rw [if_neg ha, if_neg ha]
    · rw [if_neg h1]
      by_cases h2 : k' < k
      · rw [if_pos h2]
        simp only [get]
        rw [get_put k v a r (n + 1)]
        by_cases ha : a = k
        · subst ha
          rw [if_neg (by omega), if_neg h1, if_pos rfl, if_pos rfl]
        · rw [if_neg ha, if_neg ha]
      · rw [if_neg h2]
        obtain rfl : k = k' := by omega
        simp only [get]
        by_cases ha : a = k
        · subst ha; simp
        · have ha' : ¬ k = a := fun e => ha e.symm
          simp only [if_neg ha', if_neg ha]

/-! ### Keys -/
theorem mem_keys_put (k v x : Int) : ∀ (T : Ct) (n : Nat), x ∈ keys (put T n k v) ↔ x = k ∨ x ∈ keys T
  | .nil, n => by simp [put, keys, nodes]
  | .node b k' v' l r, n => by
    simp only [put]
    by_cases h1 : k < k'
    · rw [if_pos h1, keys_node, keys_node, List.mem_append, List.mem_append, mem_keys_put k v x l (n + 1)]
      constructor
      · rintro ((h | h) | h)
        · exact .inl h
        · exact .inr (.inl h)
        · exact .inr (.inr h)
      · rintro (h | h | h)
        · exact .inl (.inl h)
        · exact .inl (.inr h)
        · exact .inr h
    · rw [if_neg h1]
      by_cases h2 : k' < k
      · rw [if_pos h2, keys_node, keys_node, List.mem_append, List.mem_append, List.mem_cons, List.mem_cons, mem_keys_put k v x r (n + 1)]
        constructor
        · rintro (h | h | h | h)
          · exact .inr (.inl h)
          · exact .inr (.inr (.inl h))
          · exact .inl h
          · exact .inr (.inr (.inr h))
        · rintro (h | h | h | h)
          · exact .inr (.inr (.inl h))
          · exact .inl h
          · exact .inr (.inl h)
          · exact .inr (.inr (.inr h))
      · rw [if_neg h2, keys_node, keys_node]
        obtain rfl : k = k' := by omega
        simp only [List.mem_append, List.mem_cons]
        constructor
        · intro h; exact .inr h
        · rintro (rfl | h)
          · exact .inr (.inl rfl)
          · exact h
/-- Keys rise. -/
def Up (T : Ct) : Prop := (keys T).Pairwise (· < ·)
theorem up_node {b : Nat} {k v : Int} {l r : Ct} : Up (.node b k v l r) ↔ Up l ∧ Up r ∧ (∀ x ∈ keys l, x < k) ∧ (∀ x ∈ keys r, k < x) := by
  unfold Up
  rw [keys_node, List.pairwise_append, List.pairwise_cons]
  constructor
  · rintro ⟨h1, ⟨h2, h3⟩, h4⟩
    exact ⟨h1, h3, fun x hx => h4 x hx k (by simp), h2⟩
  · rintro ⟨h1, h2, h3, h4⟩
    refine ⟨h1, ⟨h4, h2⟩, fun x hx y hy => ?_⟩
    rcases List.mem_cons.1 hy with rfl | hy
    · exact h3 x hx
    · have := h3 x hx; have := h4 y hy; omega
theorem up_put (k v : Int) : ∀ (T : Ct) (n : Nat), Up T → Up (put T n k v)
  | .nil, n, _ => by simp [put, Up, keys, nodes]
  | .node b k' v' l r, n, h => by
    obtain ⟨h1, h2, h3, h4⟩ := up_node.1 h
    simp only [put]
    by_cases c1 : k < k'
    · rw [if_pos c1]
      exact up_node.2 ⟨up_put k v l (n + 1) h1, h2, fun x hx => by
        rcases (mem_keys_put k v x l (n + 1)).1 hx with rfl | hx
        · exact c1
        · exact h3 x hx, h4⟩
    · rw [if_neg c1]
      by_cases c2 : k' < k
      · rw [if_pos c2]
        exact up_node.2 ⟨h1, up_put k v r (n + 1) h2, h3, fun x hx => by
          rcases (mem_keys_put k v x r (n + 1)).1 hx with rfl | hx
          · exact c2
          · exact h4 x hx⟩
      · rw [if_neg c2]
        exact up_node.2 ⟨h1, h2, h3, h4⟩
theorem up_eq : ∀ (a b : List Int), a.Pairwise (· < ·) → b.Pairwise (· < ·) → (∀ i, i ∈ a ↔ i ∈ b) → a = b
  | [], [], _, _, _ => rfl
  | [], y :: b, _, _, h => absurd ((h y).2 (by simp)) (by simp)
  | x :: a, [], _, _, h => absurd ((h x).1 (by simp)) (by simp)
  | x :: a, y :: b, ha, hb, h => by
    rw [List.pairwise_cons] at ha hb
    have hxy : x = y := by
      have h1 := (h x).1 (by simp)
      have h2 := (h y).2 (by simp)
      rcases List.mem_cons.1 h1 with e | h1
      · exact e
      · rcases List.mem_cons.1 h2 with e | h2
        · exact e.symm
        · have := hb.1 x h1
          have := ha.1 y h2
          omega
    subst hxy
    rw [up_eq a b ha.2 hb.2 (fun i => ⟨fun hi => ?_, fun hi => ?_⟩)]
    · have := ha.1 i hi
      rcases List.mem_cons.1 ((h i).1 (by simp [hi])) with e | h1
      · omega
      · exact h1
    · have := hb.1 i hi
      rcases List.mem_cons.1 ((h i).2 (by simp [hi])) with e | h1
      · omega
      · exact h1
theorem keys_put_old {T : Ct} (h : Up T) (n : Nat) (k v : Int) (hk : k ∈ keys T) : keys (put T n k v) = keys T :=
  up_eq _ _ (up_put k v T n h) h (fun i => by rw [mem_keys_put]; exact ⟨fun h => h.elim (fun e => e ▸ hk) id, .inr⟩)
theorem up_nodup {l : List Int} (h : l.Pairwise (· < ·)) : l.Nodup := h.imp (fun h => by omega)
theorem keys_put_new {T : Ct} (h : Up T) (n : Nat) (k v : Int) (hk : k ∉ keys T) : (keys (put T n k v)).Perm (keys T ++ [k]) := by
  rw [List.perm_ext_iff_of_nodup (up_nodup (up_put k v T n h)) (List.nodup_append.2 ⟨up_nodup h, by simp, fun a ha b hb => by simp only [List.mem_singleton] at hb; rintro rfl; exact hk (hb ▸ ha)⟩)]
  intro a
  rw [mem_keys_put, List.mem_append, List.mem_singleton]
  exact ⟨fun h => h.symm, fun h => h.symm⟩

/-! ### Blocks -/
theorem root_put (k v : Int) (T : Ct) (n : Nat) : n ∈ blks (put T n k v) := by
  cases T with
  | nil => simp [put, blks, nodes]
  | node b k' v' l r =>
    simp only [put]
    split
    · rw [blks_node]; simp
    · split <;> (rw [blks_node]; simp)
theorem blks_put (k v : Int) (x : Nat) : ∀ (T : Ct) (n : Nat), x ∈ blks (put T n k v) → n ≤ x ∨ x ∈ blks T
  | .nil, n, h => by simp [put, blks, nodes] at h; omega
  | .node b k' v' l r, n, h => by
    simp only [put] at h
    rw [blks_node]
    split at h
    · rw [blks_node, List.mem_append, List.mem_cons] at h
      rcases h with h | h | h
      · rcases blks_put k v x l (n + 1) h with h | h
        · exact .inl (by omega)
        · exact .inr (by simp [h])
      · exact .inl (by omega)
      · exact .inr (by simp [h])
    · split at h
      · rw [blks_node, List.mem_append, List.mem_cons] at h
        rcases h with h | h | h
        · exact .inr (by simp [h])
        · exact .inl (by omega)
        · rcases blks_put k v x r (n + 1) h with h | h
          · exact .inl (by omega)
          · exact .inr (by simp [h])
      · rw [blks_node, List.mem_append, List.mem_cons] at h
        rcases h with h | h | h
        · exact .inr (by simp [h])
        · exact .inl (by omega)
        · exact .inr (by simp [h])
/-- No block twice, all below n. -/
def Apt (T : Ct) (n : Nat) : Prop := (blks T).Nodup ∧ ∀ x ∈ blks T, x < n
theorem apt_node {b : Nat} {k v : Int} {l r : Ct} {n : Nat} : Apt (.node b k v l r) n ↔ Apt l n ∧ Apt r n ∧ b < n ∧ b ∉ blks l ∧ b ∉ blks r ∧ ∀ x ∈ blks l, x ∉ blks r := by
  unfold Apt
  rw [blks_node, List.nodup_append, List.nodup_cons]
  constructor
  · rintro ⟨⟨h1, ⟨h2, h3⟩, h4⟩, h5⟩
    exact ⟨⟨h1, fun x hx => h5 x (by simp [hx])⟩, ⟨h3, fun x hx => h5 x (by simp [hx])⟩, h5 b (by simp), fun hb => h4 b hb b (by simp) rfl, h2, fun x hx hr => h4 x hx x (by simp [hr]) rfl⟩
  · rintro ⟨⟨h1, h2⟩, ⟨h3, h4⟩, h5, h6, h7, h8⟩
    refine ⟨⟨h1, ⟨h7, h3⟩, fun a ha c hc e => ?_⟩, fun x hx => ?_⟩
    · subst e
      rcases List.mem_cons.1 hc with rfl | hc
      · exact h6 ha
      · exact h8 a ha hc
    · rcases List.mem_append.1 hx with hx | hx
      · exact h2 x hx
      · rcases List.mem_cons.1 hx with rfl | hx
        · exact h5
        · exact h4 x hx
theorem Apt.mono {T : Ct} {n m : Nat} (h : Apt T n) (hm : n ≤ m) : Apt T m := ⟨h.1, fun x hx => Nat.lt_of_lt_of_le (h.2 x hx) hm⟩
/-- How deep the way to a key is: so many nodes are new. -/
def way : Ct → Int → Nat
  | .nil, _ => 1
  | .node _ k' _ l r, k => if k < k' then way l k + 1 else if k' < k then way r k + 1 else 1
theorem apt_put (k v : Int) : ∀ (T : Ct) (n : Nat), Apt T n → Apt (put T n k v) (n + way T k)
  | .nil, n, _ => by simp [put, Apt, blks, nodes, way]
  | .node b k' v' l r, n, h => by
    obtain ⟨h1, h2, h3, h4, h5, h6⟩ := apt_node.1 h
    simp only [put, way]
    by_cases c1 : k < k'
    · rw [if_pos c1, if_pos c1]
      have ih := apt_put k v l (n + 1) (h1.mono (by omega))
      refine apt_node.2 ⟨?_, h2.mono (by omega), by omega, fun hb => ?_, fun hb => ?_, fun x hx hr => ?_⟩
      · rw [show n + (way l k + 1) = n + 1 + way l k by omega]; exact ih
      · rcases blks_put k v n l (n + 1) hb with h | h
        · omega
        · have := h1.2 n h; omega
      · have := h2.2 n hb; omega
      · rcases blks_put k v x l (n + 1) hx with h | h
        · have := h2.2 x hr; omega
        · exact h6 x h hr
    · rw [if_neg c1, if_neg c1]
      by_cases c2 : k' < k
      · rw [if_pos c2, if_pos c2]
        have ih := apt_put k v r (n + 1) (h2.mono (by omega))
        refine apt_node.2 ⟨h1.mono (by omega), ?_, by omega, fun hb => ?_, fun hb => ?_, fun x hx hr => ?_⟩
        · rw [show n + (way r k + 1) = n + 1 + way r k by omega]; exact ih
        · have := h1.2 n hb; omega
        · rcases blks_put k v n r (n + 1) hb with h | h
          · omega
          · have := h2.2 n h; omega
        · rcases blks_put k v x r (n + 1) hr with h | h
          · have := h1.2 x hx; omega
          · exact h6 x hx h
      · rw [if_neg c2, if_neg c2]
        refine apt_node.2 ⟨h1.mono (by omega), h2.mono (by omega), by omega, fun hb => ?_, fun hb => ?_, h6⟩
        · have := h1.2 n hb; omega
        · have := h2.2 n hb; omega
/-- The old root is not in the new tree. -/
theorem root_gone {b : Nat} {k' v' : Int} {l r : Ct} {n : Nat} (h : Apt (.node b k' v' l r) n) (k v : Int) : b ∉ blks (put (.node b k' v' l r) n k v) := by
  obtain ⟨h1, h2, h3, h4, h5, h6⟩ := apt_node.1 h
  simp only [put]
  split
  · rw [blks_node, List.mem_append, List.mem_cons]
    rintro (hb | hb | hb)
    · rcases blks_put k v b l (n + 1) hb with h | h
      · omega
      · exact h4 h
    · omega
    · exact h5 hb
  · split
    · rw [blks_node, List.mem_append, List.mem_cons]
      rintro (hb | hb | hb)
      · exact h4 hb
      · omega
      · rcases blks_put k v b r (n + 1) hb with h | h
        · omega
        · exact h5 h
    · rw [blks_node, List.mem_append, List.mem_cons]
      rintro (hb | hb | hb)
      · exact h4 hb
      · omega
      · exact h5 hb

/-! ### Nodes that two trees share -/
/-- How many nodes of the second tree are nodes of the first one. -/
def shared (A B : Ct) : Nat := ((blks B).filter fun b => (blks A).contains b).length
theorem shared_comm {A B : Ct} (hA : (blks A).Nodup) (hB : (blks B).Nodup) : shared A B = shared B A := by
  unfold shared
  refine List.Perm.length_eq ((List.perm_ext_iff_of_nodup (hB.filter _) (hA.filter _)).2 fun x => ?_)
  simp only [List.mem_filter, List.contains_iff_mem]
  exact ⟨fun h => ⟨h.2, h.1⟩, fun h => ⟨h.2, h.1⟩⟩
theorem shared_self (A : Ct) : shared A A = (keys A).length := by
  unfold shared
  rw [List.filter_eq_self.2 (fun a ha => by simpa using ha), len_keys, len_blks]
theorem shared_le (A B : Ct) : shared A B ≤ (keys B).length := by
  unfold shared
  rw [len_keys, ← len_blks]
  exact List.length_filter_le _ _
theorem shared_lt {A B : Ct} {x : Nat} (hx : x ∈ blks B) (hn : x ∉ blks A) : shared A B < (keys B).length := by
  unfold shared
  rw [len_keys, ← len_blks]
  exact List.length_filter_lt_length_iff_exists.2 ⟨x, hx, by simpa using hn⟩
/-- What CowShared says. -/
theorem shared_law {A : Ct} {n : Nat} (hA : Apt A n) (k v : Int) (B : Ct) (hB : B = put A n k v) :
    shared A B = shared B A ∧ shared B B = (keys B).length ∧ shared A B < (keys B).length ∧ shared A B ≤ (keys A).length ∧ ((keys A).length = 0 ∨ shared A B < (keys A).length) := by
  subst hB
  have hB := apt_put k v A n hA
  have hc := shared_comm hA.1 hB.1
  refine ⟨hc, shared_self _, shared_lt (root_put k v A n) (fun h => by have := hA.2 n h; omega), by rw [hc]; exact shared_le _ _, ?_⟩
  cases A with
  | nil => exact .inl rfl
  | node b k' v' l r =>
    refine .inr ?_
    rw [hc]
    exact shared_lt (x := b) (by rw [blks_node]; simp) (root_gone hA k v)

theorem nodes_put (k v : Int) : ∀ (T : Ct) (n : Nat), (nodes (put T n k v)).length ≤ (nodes T).length + 1
  | .nil, n => by simp [put, nodes]
  | .node b k' v' l r, n => by
    simp only [put]
    split
    · have := nodes_put k v l (n + 1)
      simp only [nodes, List.length_append, List.length_cons]
      omega
    · split
      · have := nodes_put k v r (n + 1)
        simp only [nodes, List.length_append, List.length_cons]
        omega
      · simp only [nodes, List.length_append, List.length_cons]
        omega
/-! ### A store -/
def tree (st : List Ct) (v : Int) : Ct := st.getD v.toNat .nil
def has (st : List Ct) (v : Int) : Prop := 0 ≤ v ∧ v ≤ (st.length : Int) - 1
instance (st : List Ct) (v : Int) : Decidable (has st v) := inferInstanceAs (Decidable (_ ∧ _))
def putErr (st : List Ct) (v k x : Int) : Int := if has st v then (if (0 ≤ k ∧ k ≤ 1000) ∧ (0 ≤ x ∧ x ≤ 1000) then (if 20 < st.length then 4 else 0) else 1) else 1
structure OK (st : List Ct) (n : Nat) : Prop where
  up : ∀ T ∈ st, Up T
  apt : ∀ T ∈ st, Apt T n
  few : ∀ T ∈ st, (nodes T).length < st.length
  len : 1 ≤ st.length ∧ st.length ≤ 21
theorem OK.mono {st : List Ct} {n m : Nat} (h : OK st n) (hm : n ≤ m) : OK st m := ⟨h.up, fun T hT => (h.apt T hT).mono hm, h.few, h.len⟩
theorem new_ok (n : Nat) : OK [.nil] n := ⟨fun T hT => by simp at hT; subst hT; exact List.Pairwise.nil, fun T hT => by simp at hT; subst hT; exact ⟨List.Pairwise.nil, fun x hx => by simp [blks, nodes] at hx⟩, fun T hT => by simp at hT; subst hT; decide, by decide⟩
theorem tree_mem {st : List Ct} {v : Int} (h : has st v) : tree st v ∈ st := by
  unfold has at h
  unfold tree
  rw [List.getD_eq_getElem?_getD, List.getElem?_eq_getElem (by omega)]
  exact List.getElem_mem (by omega)
theorem OK.put {st : List Ct} {n m : Nat} (h : OK st n) {v k x : Int} (hp : putErr st v k x = 0) (hm : n + way (tree st v) k ≤ m) : OK (st ++ [Co.put (tree st v) n k x]) m := by
  unfold putErr at hp
  split at hp
  · rename_i hv
    split at hp
    · split at hp
      · cases hp
      · rename_i hl
        have hT := tree_mem hv
        refine ⟨fun T hTm => ?_, fun T hTm => ?_, fun T hTm => ?_, by simp; have := h.len; omega⟩
        · rcases List.mem_append.1 hTm with hTm | hTm
          · exact h.up T hTm
          · simp at hTm; subst hTm; exact up_put k x _ n (h.up _ hT)
        · rcases List.mem_append.1 hTm with hTm | hTm
          · exact (h.apt T hTm).mono (by omega)
          · simp at hTm; subst hTm; exact (apt_put k x _ n (h.apt _ hT)).mono hm
        · rw [List.length_append, List.length_singleton]
          rcases List.mem_append.1 hTm with hTm | hTm
          · have := h.few T hTm; omega
          · simp at hTm; subst hTm
            have := nodes_put k x (tree st v) n
            have := h.few _ hT
            omega
    · cases hp
  · cases hp
theorem tree_old {st : List Ct} {v : Int} (h : has st v) (T : Ct) : tree (st ++ [T]) v = tree st v := by
  unfold has at h
  unfold tree
  simp only [List.getD_eq_getElem?_getD]
  rw [List.getElem?_append_left (by omega)]
theorem tree_new (st : List Ct) (T : Ct) : tree (st ++ [T]) (st.length : Int) = T := by
  unfold tree
  simp
theorem has_new {st : List Ct} (T : Ct) : has (st ++ [T]) (st.length : Int) := by
  unfold has
  rw [List.length_append, List.length_singleton]
  omega
theorem has_old {st : List Ct} {v : Int} (h : has st v) (T : Ct) : has (st ++ [T]) v := by
  unfold has at h ⊢
  rw [List.length_append, List.length_singleton]
  omega
end Co
end Go.Proofs.Ytokbhiokcoldbaa
/- What all the walks of this seat share: Within, small words on lists of numbers, the forms of answers. -/
namespace Go.Proofs.Ytokbhiokcoldbaa
open Go.RowKit

theorem within_any (n lo hi : Int) (w : World) :
    Calls Try.prog 36 #[.int .i64 n, .int .i64 lo, .int .i64 hi] w fun e w' => e = .returned (.bool (decide (lo ≤ n ∧ n ≤ hi))) ∧ w = w' := by
  go_enter Try.func36, Try.ntmps36
  go_wp2
  all_goals (go_ret; refine ⟨?_, rfl⟩; congr; try simp; try omega)
theorem within_is (n lo hi : Int) (b : Bool) (w : World) (h : decide (lo ≤ n ∧ n ≤ hi) = b) :
    Calls Try.prog 36 #[.int .i64 n, .int .i64 lo, .int .i64 hi] w fun e w' => e = .returned (.bool b) ∧ w' = w :=
  (within_any n lo hi w).mono fun _ _ ⟨h1, h2⟩ => ⟨by rw [h1, h], h2.symm⟩
theorem getD_mem {xs : List Int} {k : Nat} (h : k < xs.length) : nth xs k ∈ xs := by
  simp [nth, List.getD, h]
theorem not_mem_of {xs : List Int} {x : Int} (h : ∀ j, j < xs.length → nth xs j ≠ x) : x ∉ xs := fun hm => by
  obtain ⟨k, hk, e⟩ := List.getElem_of_mem hm
  exact h k hk (by simp [nth, List.getD, hk, e])
/-- Two lists, held against each other. -/
theorem eq_of_getD {xs ys : List Int} (hl : xs.length = ys.length) (h : ∀ j, j < xs.length → nth xs j = nth ys j) : xs = ys := by
  apply List.ext_getElem hl
  intro i h1 h2
  have := h i h1
  simpa [nth, List.getD, h1, h2] using this
def SameAs (b : Bool) (w : World) (e : Ending) (w' : World) : Prop := e = .returned (.bool b) ∧ Dr w w'
/-- An error of the project's own: 0 is nil. -/
def errV (c : Int) : Value := if c = 0 then .nilIface else .iface 67 (.int .i64 c)
theorem errV_no {c : Int} (h : c ≠ 0) : errV c = .iface 67 (.int .i64 c) := by unfold errV; rw [if_neg h]
/-- The answer b, and nothing that was there has turned. -/
def OkB (b : Bool) (w : World) (e : Ending) (w' : World) : Prop := e = .returned (.bool b) ∧ Fr [] w w'
/-- The answer true, and nothing that was there has turned. -/
def OkT (w : World) (e : Ending) (w' : World) : Prop := e = .returned (.bool true) ∧ Fr [] w w'
end Go.Proofs.Ytokbhiokcoldbaa

/- What the walks over rows of integers share. -/
namespace Go.Proofs.Ytokbhiokcoldbaa
open Go.RowKit
theorem Try.info_int : (Try.prog.info? 3).map (fun i => (i.zero, i.size, i.bytes)) = some (some (.int .i64 0), 1, 8) := by kernel_rfl
theorem Try.intT : IntT Try.prog 22 3 := ⟨Try.underlying22, Try.info_int⟩
/-- What a call hands back that makes a row: the integers xs, in new memory. -/
def NewRow (xs : List Int) (w : World) (e : Ending) (w' : World) : Prop := ∃ v g, e = .returned v ∧ (w.heap.size ≤ g ∨ xs = []) ∧ Sl w' v g xs ∧ Fr [] w w'
end Go.Proofs.Ytokbhiokcoldbaa

/- Rows of structs: elements of k cells each. What the call owns and grows; what it reads. No program in sight. -/
namespace Go.Proofs.Ytokbhiokcoldbaa
open Go.RowKit

/-- How an element lies in cells. -/
structure Enc (α : Type) where
  k : Nat
  enc : α → List Value
  len : ∀ a, (enc a).length = k
  one : ∀ a, ∀ v ∈ enc a, v.oneCell' = true
  pos : 0 < k
section
variable {α : Type} (E : Enc α)
def Enc.cells (l : List α) : List Value := l.flatMap E.enc
theorem Enc.cells_len (l : List α) : (E.cells l).length = l.length * E.k := by
  induction l with
  | nil => simp [Enc.cells]
  | cons a l ih =>
    have e : E.cells (a :: l) = E.enc a ++ E.cells l := rfl
    rw [e, List.length_append, E.len, ih, List.length_cons, Nat.add_mul, Nat.one_mul, Nat.add_comm]
theorem Enc.cells_append (l m : List α) : E.cells (l ++ m) = E.cells l ++ E.cells m := by simp [Enc.cells]
theorem Enc.cells_get : ∀ (l : List α) (i r : Nat) (h : i < l.length), r < E.k → (E.cells l)[i * E.k + r]? = (E.enc l[i])[r]?
  | [], i, r, h, _ => by simp at h
  | a :: l, 0, r, h, hr => by
    have e : E.cells (a :: l) = E.enc a ++ E.cells l := rfl
    rw [e, Nat.zero_mul, Nat.zero_add, List.getElem?_append_left (by rw [E.len]; exact hr)]
    rfl
  | a :: l, i + 1, r, h, hr => by
    have e : E.cells (a :: l) = E.enc a ++ E.cells l := rfl
    rw [e, List.getElem?_append_right (by rw [E.len, Nat.add_mul]; omega), E.len, show (i + 1) * E.k + r - E.k = i * E.k + r by rw [Nat.add_mul]; omega]
    exact Enc.cells_get l i r (by simpa using h) hr
theorem Enc.cells_set : ∀ (l : List α) (i : Nat) (_ : i < l.length) (x : α), (E.cells l).take (i * E.k) ++ E.enc x ++ (E.cells l).drop (i * E.k + E.k) = E.cells (l.set i x)
  | [], i, h, _ => by simp at h
  | a :: l, 0, h, x => by
    have e : E.cells (a :: l) = E.enc a ++ E.cells l := rfl
    rw [e, Nat.zero_mul, Nat.zero_add, List.take_zero, List.nil_append, List.drop_append, E.len, Nat.sub_self, List.drop_zero, List.drop_of_length_le (by rw [E.len]; exact Nat.le_refl _)]
    rfl
  | a :: l, i + 1, h, x => by
    have e : E.cells (a :: l) = E.enc a ++ E.cells l := rfl
    have ih := Enc.cells_set l i (by simpa using h) x
    rw [List.set_cons_succ]
    show _ = E.enc a ++ E.cells (l.set i x)
    rw [← ih, e, List.take_append, List.drop_append, E.len, show (i + 1) * E.k - E.k = i * E.k by rw [Nat.add_mul]; omega, show (i + 1) * E.k + E.k - E.k = i * E.k + E.k by rw [Nat.add_mul]; omega,
      List.take_of_length_le (l := E.enc a) (by rw [E.len, Nat.add_mul]; omega), List.drop_of_length_le (l := E.enc a) (by rw [E.len, Nat.add_mul]; omega)]
    simp
/-- What the call owns as a row of such elements that grows. -/
def OwnR (w : World) (B e : Nat) (v : Value) (l : List α) : Prop := w.ownsRow B e E.k v l.length (E.cells l)
/-- What reads so, wherever it lies (in block g). -/
def SlR (w : World) (v : Value) (g : Nat) (l : List α) : Prop :=
  (l = [] ∧ ∃ A c, v = .slice A 0 c) ∨ ∃ o c, v = .slice (some ⟨g, o, none⟩) l.length c ∧ l.length ≤ c ∧ c ≤ maxLen ∧ ∀ i (h : i < l.length) r, r < E.k → w.cell? ⟨g, o + i * E.k + r, none⟩ = (E.enc l[i])[r]?
variable {E} {w w' : World} {B e : Nat} {v : Value} {l : List α}
theorem OwnR.nil : OwnR E w B e (.slice none 0 0) [] := World.ownsRow_nil w B e E.k
theorem OwnR.alloc (h : OwnR E w B e v l) (o : Obj) : OwnR E (w.alloc o) B e v l := World.ownsRow.alloc h o
theorem OwnR.ge (h : OwnR E w B e v l) : ∀ g, v.ownBlock = some g → B ≤ g ∧ g < w.heap.size := World.ownsRow.lt h
theorem OwnR.kept {S : List Nat} (h : OwnR E w B e v l) (hf : Fr S w w') (hS : ∀ g ∈ S, v.ownBlock ≠ some g) : OwnR E w' B e v l := by
  obtain ⟨h1, h2⟩ := h
  refine ⟨h1, ?_⟩
  rcases h2 with h2 | ⟨g, cap, cur, rfl, hb, hg, r⟩
  · exact .inl h2
  · exact .inr ⟨g, cap, cur, rfl, hb, hf.get hg (fun hm => hS g hm rfl), r⟩
theorem OwnR.sl (h : OwnR E w B e v l) : ∃ g, (B ≤ g ∨ l = []) ∧ SlR E w v g l := by
  obtain ⟨h1, h2⟩ := h
  rcases h2 with ⟨rfl, hn⟩ | ⟨g, cap, cur, rfl, hb, hg, hc, hm, hs, ht⟩
  · have := List.eq_nil_of_length_eq_zero hn
    exact ⟨0, .inr this, .inl ⟨this, none, 0, rfl⟩⟩
  · refine ⟨g, .inl hb, .inr ⟨0, cap, rfl, hc, hm, fun i hi r hr => ?_⟩⟩
    have hlt : i * E.k + r < l.length * E.k := by
      have := Nat.mul_le_mul_right E.k (Nat.succ_le_of_lt hi)
      rw [Nat.succ_mul] at this
      omega
    rw [Nat.zero_add, cell_of_row w g _ cur e _ hg, ← E.cells_get l i r hi hr, ← ht, List.getElem?_take, if_pos hlt]
    simp
theorem SlR.fr {S : List Nat} {g : Nat} (h : SlR E w v g l) (hf : Fr S w w') (hg : g ∉ S) : SlR E w' v g l := by
  rcases h with h | ⟨o, c, h0, h1, h2, h3⟩
  · exact .inl h
  · refine .inr ⟨o, c, h0, h1, h2, fun i hi r hr => ?_⟩
    have h4 := h3 i hi r hr
    have hlt : r < (E.enc l[i]).length := by rw [E.len]; exact hr
    rw [List.getElem?_eq_getElem hlt] at h4 ⊢
    exact hf.cell h4 hg
theorem SlR.form {g : Nat} (h : SlR E w v g l) : ∃ (A : Option Addr) (o c : Nat), v = .slice A l.length c ∧ l.length ≤ 9223372036854775807 ∧ (0 < l.length → A = some ⟨g, o, none⟩) ∧ ∀ i (h : i < l.length) r, r < E.k → w.cell? ⟨g, o + i * E.k + r, none⟩ = (E.enc l[i])[r]? := by
  rcases h with ⟨rfl, A, c, rfl⟩ | ⟨o, c, rfl, h1, h2, h3⟩
  · exact ⟨A, 0, c, rfl, by simp, by simp, by simp⟩
  · exact ⟨_, o, c, rfl, by unfold maxLen at h2; omega, fun _ => rfl, h3⟩
/-- 'out = append(out, x)', x laid in a block of its own just ahead: one element more. -/
theorem wpList_push_enc {P : Program} {ops : Array Oper} {rest : List Oper} {o : Oper} {a : Act} {Q : Exit → Act → World → Prop} {wr w1 : World} {y : α} {t : TypeId} {z : Value} {bytes : Nat} (ht : P.underlying t = some (.slice e))
    (hi : (P.info? e).map (fun i => (i.zero, i.size, i.bytes)) = some (some z, E.k, bytes)) (hz : z.cells.size = E.k) (hby : bytes ≤ 1000) (hgd : o.guard = none) (s x : Operand)
    (ho : o.op = .call { callee := .builtin .append, args := #[s, x], argTypes := #[t, t] })
    (B : Nat) (v : Value) (l : List α) (hs : a.eval s = v) (hw : w1 = wr.alloc (.cells (E.enc y).toArray e)) (hown : OwnR E wr B e v l) (hx : a.eval x = .slice (some ⟨wr.heap.size, 0, none⟩) 1 1) (hl : l.length < 1000000) (hB : B ≤ wr.heap.size)
    (h : ∀ v' w', OwnR E w' B e v' (l ++ [y]) → wr.grownBy w' v.ownBlock → Below B wr w' → wpList P ops Q rest (a.put o.dst v') w') : wpList P ops Q (o :: rest) a w1 := by
  subst hw
  obtain ⟨i0, hi, hz0, hz1, hz2⟩ := info_parts hi
  refine wpList_append_own _ hgd s x t ho B e i0 z E.k bytes ht hi hz0 hz1 hz2 hz E.pos v l.length _ hs (World.ownsRow.alloc hown _) ⟨wr.heap.size, 0, none⟩ 1 1 (E.enc y) hx (by rw [E.len, Nat.one_mul]) ?_ (E.one y) (by unfold maxLen; omega) ?_ (by simp; omega) ?_
  · have := World.news_of_block (cs := (E.enc y).toArray) (t := e) (fr := (0, 0)) (heap_alloc_new wr _)
    simpa using this
  · have := Nat.mul_le_mul (show l.length + 1 ≤ 1000000 by omega) hby
    omega
  · intro v' w' h1 h2 _
    have hg : wr.grownBy w' v.ownBlock := ⟨h2.os, h2.tape, h2.output, Nat.le_trans (by simp) h2.size, fun k hk hn => (h2.block k (by simp; omega) hn).trans (Below.heap_alloc wr _ k hk)⟩
    refine h v' w' ?_ hg ?_
    · unfold OwnR
      rw [E.cells_append, List.length_append]
      have e1 : E.cells [y] = E.enc y := by simp [Enc.cells]
      rw [e1]
      exact h1
    · exact ⟨hg.os, hg.tape, hg.output, hg.size, fun k hk => hg.block k (by omega) (fun e => by have := hown.ge k e.symm; omega)⟩
/-- A cell of an own row's element is another one: the element is y then. -/
theorem OwnR.setCell {g cap n : Nat} {A : Value} (h : OwnR E w B e A l) (hA : A = .slice (some ⟨g, 0, none⟩) n cap) (i r : Nat) (hi : i < l.length) (hr : r < E.k) (y : α) (u : Value) (hy : (E.enc l[i]).set r u = E.enc y) :
    OwnR E (w.setCell ⟨g, i * E.k + r, none⟩ u) B e A (l.set i y) := by
  obtain ⟨h1, h2⟩ := h
  rcases h2 with ⟨rfl, hn⟩ | ⟨g', cap', cur, e0, hb, hg, hc, hm, hs, ht⟩
  · omega
  · rw [hA] at e0
    injection e0 with e1 e2 e3
    injection e1 with e1
    injection e1 with e1 _ _
    subst e1 e3 e2
    refine ⟨by rw [E.cells_len, List.length_set], .inr ⟨g, cap, _, by rw [hA, List.length_set], hb, set_block hg u, by rw [List.length_set]; exact hc, hm, by simp [hs], ?_⟩⟩
    rw [List.length_set]
    have hlt : i * E.k + r < l.length * E.k := by
      have := Nat.mul_le_mul_right E.k (Nat.succ_le_of_lt hi)
      rw [Nat.succ_mul] at this
      omega
    rw [Array.toList_setIfInBounds, List.take_set, ht]
    apply List.ext_getElem?
    intro j
    rw [List.getElem?_set]
    have hcs := E.cells_set l i hi y
    rw [← hcs]
    have hl1 : ((E.cells l).take (i * E.k)).length = i * E.k := by rw [List.length_take, E.cells_len]; omega
    have hmul : (i + 1) * E.k ≤ l.length * E.k := Nat.mul_le_mul_right E.k (Nat.succ_le_of_lt hi)
    rw [Nat.succ_mul] at hmul
    by_cases hj1 : j < i * E.k
    · rw [if_neg (by omega), List.append_assoc, List.getElem?_append_left (by omega), List.getElem?_take, if_pos hj1]
    · by_cases hj2 : j < i * E.k + E.k
      · rw [List.append_assoc, List.getElem?_append_right (by omega), hl1, List.getElem?_append_left (by rw [E.len]; omega), ← hy, List.getElem?_set]
        have hgj := E.cells_get l i (j - i * E.k) hi (by omega)
        rw [show i * E.k + (j - i * E.k) = j by omega] at hgj
        by_cases hjr : i * E.k + r = j
        · rw [if_pos hjr, if_pos (by rw [E.cells_len]; omega), if_pos (by omega), if_pos (by rw [E.len]; omega)]
        · rw [if_neg hjr, if_neg (by omega), hgj]
      · rw [if_neg (by omega), List.getElem?_append_right (by rw [List.length_append, hl1, E.len]; omega), List.length_append, hl1, E.len, List.getElem?_drop, show i * E.k + E.k + (j - (i * E.k + E.k)) = j by omega]
end
end Go.Proofs.Ytokbhiokcoldbaa
