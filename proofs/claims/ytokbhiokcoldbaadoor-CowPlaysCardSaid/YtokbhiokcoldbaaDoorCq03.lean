/- The document's versions against trees that share nodes. No program in sight. -/

import Derived.Test.YtokbhiokcoldbaaDoorCq02
namespace Go.Proofs.YtokbhiokcoldbaaDoor
namespace Co

theorem keys_of_nodes {T : Ct} {p : Nat × Int} (h : p ∈ nodes T) : p.2 ∈ keys T := List.mem_map.2 ⟨p, h, rfl⟩
theorem blks_of_nodes {T : Ct} {p : Nat × Int} (h : p ∈ nodes T) : p.1 ∈ blks T := List.mem_map.2 ⟨p, h, rfl⟩
theorem nodes_node (b : Nat) (k v : Int) (l r : Ct) (p : Nat × Int) : p ∈ nodes (.node b k v l r) ↔ p ∈ nodes l ∨ p = (b, k) ∨ p ∈ nodes r := by
  simp [nodes]
theorem mem_node (b : Nat) (k v : Int) (l r : Ct) (x : Int) : x ∈ keys (.node b k v l r) ↔ x ∈ keys l ∨ x = k ∨ x ∈ keys r := by
  rw [keys_node]; simp

/-! ### The way of what is put -/
/-- The keys on the way. -/
def trail : Ct → Int → List Int
  | .nil, k => [k]
  | .node _ k' _ l r, k => if k < k' then k' :: trail l k else if k' < k then k' :: trail r k else [k']
theorem trail_self (k : Int) : ∀ T, k ∈ trail T k
  | .nil => by simp [trail]
  | .node _ k' _ l r => by
    unfold trail
    split
    · exact List.mem_cons_of_mem _ (trail_self k l)
    · split
      · exact List.mem_cons_of_mem _ (trail_self k r)
      · have : k = k' := by omega
        simp [this]
theorem trail_way (k : Int) : ∀ T, (trail T k).length = way T k
  | .nil => rfl
  | .node _ k' _ l r => by
    unfold trail way
    split
    · rw [List.length_cons, trail_way k l]
    · split
      · rw [List.length_cons, trail_way k r]
      · rfl
theorem trail_mem {k x : Int} : ∀ T, x ∈ trail T k → x = k ∨ x ∈ keys T
  | .nil, h => by simp [trail] at h; exact .inl h
  | .node b k' v' l r, h => by
    rw [mem_node]
    unfold trail at h
    split at h
    · rcases List.mem_cons.1 h with h | h
      · exact .inr (.inr (.inl h))
      · rcases trail_mem l h with h | h
        · exact .inl h
        · exact .inr (.inl h)
    · split at h
      · rcases List.mem_cons.1 h with h | h
        · exact .inr (.inr (.inl h))
        · rcases trail_mem r h with h | h
          · exact .inl h
          · exact .inr (.inr (.inr h))
      · simp at h; exact .inr (.inr (.inl h))
theorem trail_lt {k k' x : Int} {l : Ct} (hl : ∀ y ∈ keys l, y < k') (h : k < k') (hx : x ∈ trail l k) : x < k' := by
  rcases trail_mem l hx with rfl | hx
  · exact h
  · exact hl x hx
theorem trail_gt {k k' x : Int} {r : Ct} (hr : ∀ y ∈ keys r, k' < y) (h : k' < k) (hx : x ∈ trail r k) : k' < x := by
  rcases trail_mem r hx with rfl | hx
  · exact h
  · exact hr x hx
theorem trail_nodup (k : Int) : ∀ T, Up T → (trail T k).Nodup
  | .nil, _ => by simp [trail]
  | .node b k' v' l r, h => by
    obtain ⟨h1, h2, h3, h4⟩ := up_node.1 h
    unfold trail
    split
    · rename_i c
      exact List.nodup_cons.2 ⟨fun hm => by have := trail_lt h3 c hm; omega, trail_nodup k l h1⟩
    · split
      · rename_i c
        exact List.nodup_cons.2 ⟨fun hm => by have := trail_gt h4 c hm; omega, trail_nodup k r h2⟩
      · simp
theorem nodes_put_iff (k v : Int) (p : Nat × Int) : ∀ (T : Ct) (n : Nat), Up T → (p ∈ nodes (put T n k v) ↔ (n ≤ p.1 ∧ (trail T k)[p.1 - n]? = some p.2) ∨ (p ∈ nodes T ∧ p.2 ∉ trail T k))
  | .nil, n, _ => by
    obtain ⟨p1, p2⟩ := p
    simp only [put, nodes, List.nil_append, List.mem_singleton, List.not_mem_nil, false_and, or_false, trail, Prod.mk.injEq]
    constructor
    · rintro ⟨rfl, rfl⟩
      simp
    · rintro ⟨h1, h2⟩
      have h3 : p1 - n < 1 := by
        apply Classical.byContradiction
        intro hc
        rw [List.getElem?_eq_none (by simp only [List.length_singleton]; omega)] at h2
        cases h2
      have h4 : p1 = n := by omega
      subst h4
      simp at h2
      exact ⟨rfl, h2.symm⟩
  | .node b k' v' l r, n, h => by
    obtain ⟨h1, h2, h3, h4⟩ := up_node.1 h
    unfold put trail
    by_cases c1 : k < k'
    · rw [if_pos c1, if_pos c1, nodes_node, nodes_node, nodes_put_iff k v p l (n + 1) h1]
      constructor
      · rintro ((⟨g1, g2⟩ | ⟨g1, g2⟩) | rfl | g)
        · refine .inl ⟨by omega, ?_⟩
          rw [show p.1 - n = (p.1 - (n + 1)) + 1 by omega]
          exact g2
        · refine .inr ⟨.inl g1, fun hm => ?_⟩
          rcases List.mem_cons.1 hm with e | hm
          · have := h3 _ (keys_of_nodes g1); omega
          · exact g2 hm
        · exact .inl ⟨Nat.le_refl _, by simp⟩
        · refine .inr ⟨.inr (.inr g), fun hm => ?_⟩
          have h5 := h4 _ (keys_of_nodes g)
          rcases List.mem_cons.1 hm with e | hm
          · omega
          · have := trail_lt h3 c1 hm; omega
      · rintro (⟨g1, g2⟩ | ⟨g1, g2⟩)
        · by_cases e : p.1 = n
          · rw [e, Nat.sub_self] at g2
            simp at g2
            exact .inr (.inl (Prod.ext e g2.symm))
          · rw [show p.1 - n = (p.1 - (n + 1)) + 1 by omega, List.getElem?_cons_succ] at g2
            exact .inl (.inl ⟨by omega, g2⟩)
        · rcases g1 with g1 | rfl | g1
          · exact .inl (.inr ⟨g1, fun hm => g2 (List.mem_cons_of_mem _ hm)⟩)
          · exact absurd (List.mem_cons_self) g2
          · exact .inr (.inr g1)
    · rw [if_neg c1, if_neg c1]
      by_cases c2 : k' < k
      · rw [if_pos c2, if_pos c2, nodes_node, nodes_node, nodes_put_iff k v p r (n + 1) h2]
        constructor
        · rintro (g | rfl | (⟨g1, g2⟩ | ⟨g1, g2⟩))
          · refine .inr ⟨.inl g, fun hm => ?_⟩
            have h5 := h3 _ (keys_of_nodes g)
            rcases List.mem_cons.1 hm with e | hm
            · omega
            · have := trail_gt h4 c2 hm; omega
          · exact .inl ⟨Nat.le_refl _, by simp⟩
          · refine .inl ⟨by omega, ?_⟩
            rw [show p.1 - n = (p.1 - (n + 1)) + 1 by omega]
            exact g2
          · refine .inr ⟨.inr (.inr g1), fun hm => ?_⟩
            rcases List.mem_cons.1 hm with e | hm
            · have := h4 _ (keys_of_nodes g1); omega
            · exact g2 hm
        · rintro (⟨g1, g2⟩ | ⟨g1, g2⟩)
          · by_cases e : p.1 = n
            · rw [e, Nat.sub_self] at g2
              simp at g2
              exact .inr (.inl (Prod.ext e g2.symm))
            · rw [show p.1 - n = (p.1 - (n + 1)) + 1 by omega, List.getElem?_cons_succ] at g2
              exact .inr (.inr (.inl ⟨by omega, g2⟩))
          · rcases g1 with g1 | rfl | g1
            · exact .inl g1
            · exact absurd (List.mem_cons_self) g2
            · exact .inr (.inr (.inr ⟨g1, fun hm => g2 (List.mem_cons_of_mem _ hm)⟩))
      · rw [if_neg c2, if_neg c2, nodes_node, nodes_node]
        constructor
        · rintro (g | rfl | g)
          · exact .inr ⟨.inl g, fun hm => by have := h3 _ (keys_of_nodes g); simp at hm; omega⟩
          · exact .inl ⟨Nat.le_refl _, by simp⟩
          · exact .inr ⟨.inr (.inr g), fun hm => by have := h4 _ (keys_of_nodes g); simp at hm; omega⟩
        · rintro (⟨g1, g2⟩ | ⟨g1, g2⟩)
          · have h5 : p.1 - n < 1 := by
              apply Classical.byContradiction
              intro hc
              rw [List.getElem?_eq_none (by simp only [List.length_singleton]; omega)] at g2
              cases g2
            have e : p.1 = n := by omega
            rw [e, Nat.sub_self] at g2
            simp at g2
            exact .inr (.inl (Prod.ext e g2.symm))
          · rcases g1 with g1 | rfl | g1
            · exact .inl g1
            · exact absurd (by simp) g2
            · exact .inr (.inr g1)

/-! ### Which keys lie on the way, told by the order in which they came in -/
/-- A key came in ahead of those below it. -/
def Hp (f : Int → Nat) : Ct → Prop
  | .nil => True
  | .node _ k _ l r => (∀ y ∈ keys l, f k < f y) ∧ (∀ y ∈ keys r, f k < f y) ∧ Hp f l ∧ Hp f r
/-- y lies between x and k, or it is k. -/
def Btw (x y k : Int) : Prop := (x < y ∧ y < k) ∨ (y < x ∧ k < y) ∨ y = k
instance (x y k : Int) : Decidable (Btw x y k) := inferInstanceAs (Decidable (_ ∨ _))
theorem trail_iff {f : Int → Nat} {k x : Int} : ∀ T, Up T → Hp f T → x ∈ keys T → (x ∈ trail T k ↔ ∀ y ∈ keys T, Btw x y k → f x ≤ f y)
  | .nil, _, _, h => by simp [keys, nodes] at h
  | .node b k' v' l r, hU, hH, hx => by
    obtain ⟨u1, u2, u3, u4⟩ := up_node.1 hU
    obtain ⟨p1, p2, p3, p4⟩ := hH
    have hroot : ∀ y ∈ keys (.node b k' v' l r), f k' ≤ f y := fun y hy => by
      rcases (mem_node b k' v' l r y).1 hy with hy | rfl | hy
      · exact Nat.le_of_lt (p1 y hy)
      · exact Nat.le_refl _
      · exact Nat.le_of_lt (p2 y hy)
    have hk' : k' ∈ keys (.node b k' v' l r) := (mem_node b k' v' l r k').2 (.inr (.inl rfl))
    unfold trail
    by_cases c1 : k < k'
    · rw [if_pos c1]
      rcases (mem_node b k' v' l r x).1 hx with hx | rfl | hx
      · have h5 := u3 x hx
        have ih := trail_iff (f := f) (k := k) l u1 p3 hx
        constructor
        · intro h y hy hb
          rcases List.mem_cons.1 h with e | h
          · omega
          · rcases (mem_node b k' v' l r y).1 hy with hy | rfl | hy
            · exact ih.1 h y hy hb
            · unfold Btw at hb; omega
            · have := u4 y hy; unfold Btw at hb; omega
        · intro h
          exact List.mem_cons_of_mem _ (ih.2 fun y hy hb => h y ((mem_node b k' v' l r y).2 (.inl hy)) hb)
      · exact ⟨fun _ y hy _ => hroot y hy, fun _ => List.mem_cons_self⟩
      · have h5 := u4 x hx
        have h6 := p2 x hx
        constructor
        · intro h
          rcases List.mem_cons.1 h with e | h
          · omega
          · have := trail_lt u3 c1 h; omega
        · intro h
          have := h k' hk' (.inr (.inl ⟨h5, c1⟩))
          omega
    · rw [if_neg c1]
      by_cases c2 : k' < k
      · rw [if_pos c2]
        rcases (mem_node b k' v' l r x).1 hx with hx | rfl | hx
        · have h5 := u3 x hx
          have h6 := p1 x hx
          constructor
          · intro h
            rcases List.mem_cons.1 h with e | h
            · omega
            · have := trail_gt u4 c2 h; omega
          · intro h
            have := h k' hk' (.inl ⟨h5, c2⟩)
            omega
        · exact ⟨fun _ y hy _ => hroot y hy, fun _ => List.mem_cons_self⟩
        · have h5 := u4 x hx
          have ih := trail_iff (f := f) (k := k) r u2 p4 hx
          constructor
          · intro h y hy hb
            rcases List.mem_cons.1 h with e | h
            · omega
            · rcases (mem_node b k' v' l r y).1 hy with hy | rfl | hy
              · have := u3 y hy; unfold Btw at hb; omega
              · unfold Btw at hb; omega
              · exact ih.1 h y hy hb
          · intro h
            exact List.mem_cons_of_mem _ (ih.2 fun y hy hb => h y ((mem_node b k' v' l r y).2 (.inr (.inr hy))) hb)
      · rw [if_neg c2]
        have e : k' = k := by omega
        rcases (mem_node b k' v' l r x).1 hx with hx | rfl | hx
        · have h5 := u3 x hx
          have h6 := p1 x hx
          constructor
          · intro h; simp at h; omega
          · intro h; have := h k' hk' (.inr (.inr e)); omega
        · exact ⟨fun _ y hy _ => hroot y hy, fun _ => by simp⟩
        · have h5 := u4 x hx
          have h6 := p2 x hx
          constructor
          · intro h; simp at h; omega
          · intro h; have := h k' hk' (.inr (.inr e)); omega
theorem hp_congr {f g : Int → Nat} : ∀ T, (∀ y ∈ keys T, f y = g y) → Hp f T → Hp g T
  | .nil, _, _ => trivial
  | .node b k v l r, h, ⟨p1, p2, p3, p4⟩ => by
    have hk := h k ((mem_node b k v l r k).2 (.inr (.inl rfl)))
    have hl : ∀ y ∈ keys l, f y = g y := fun y hy => h y ((mem_node b k v l r y).2 (.inl hy))
    have hr : ∀ y ∈ keys r, f y = g y := fun y hy => h y ((mem_node b k v l r y).2 (.inr (.inr hy)))
    exact ⟨fun y hy => by rw [← hk, ← hl y hy]; exact p1 y hy, fun y hy => by rw [← hk, ← hr y hy]; exact p2 y hy, hp_congr l hl p3, hp_congr r hr p4⟩
theorem hp_put {f : Int → Nat} (k v : Int) : ∀ T n, Up T → Hp f T → (k ∉ keys T → ∀ y ∈ keys T, f y < f k) → Hp f (put T n k v)
  | .nil, n, _, _, _ => ⟨fun y hy => by simp [keys, nodes] at hy, fun y hy => by simp [keys, nodes] at hy, trivial, trivial⟩
  | .node b k' v' l r, n, hU, ⟨p1, p2, p3, p4⟩, hf => by
    obtain ⟨u1, u2, u3, u4⟩ := up_node.1 hU
    unfold put
    by_cases c1 : k < k'
    · rw [if_pos c1]
      have hno : k ∉ keys l → k ∉ keys (.node b k' v' l r) := fun hn hm => by
        rcases (mem_node b k' v' l r k).1 hm with hm | e | hm
        · exact hn hm
        · omega
        · have := u4 k hm; omega
      refine ⟨fun y hy => ?_, p2, hp_put k v l (n + 1) u1 p3 (fun hn y hy => hf (hno hn) y ((mem_node b k' v' l r y).2 (.inl hy))), p4⟩
      rcases (mem_keys_put k v y l (n + 1)).1 hy with rfl | hy
      · by_cases hm : y ∈ keys l
        · exact p1 y hm
        · exact hf (hno hm) k' ((mem_node b k' v' l r k').2 (.inr (.inl rfl)))
      · exact p1 y hy
    · rw [if_neg c1]
      by_cases c2 : k' < k
      · rw [if_pos c2]
        have hno : k ∉ keys r → k ∉ keys (.node b k' v' l r) := fun hn hm => by
          rcases (mem_node b k' v' l r k).1 hm with hm | e | hm
          · have := u3 k hm; omega
          · omega
          · exact hn hm
        refine ⟨p1, fun y hy => ?_, p3, hp_put k v r (n + 1) u2 p4 (fun hn y hy => hf (hno hn) y ((mem_node b k' v' l r y).2 (.inr (.inr hy))))⟩
        rcases (mem_keys_put k v y r (n + 1)).1 hy with rfl | hy
        · by_cases hm : y ∈ keys r
          · exact p2 y hm
          · exact hf (hno hm) k' ((mem_node b k' v' l r k').2 (.inr (.inl rfl)))
        · exact p2 y hy
      · rw [if_neg c2]
        exact ⟨p1, p2, p3, p4⟩

/-! ### The document's versions -/
/-- Keys in the order in which they came in, values, in which version each node was made. -/
structure Vr where
  K : List Int
  V : List Int
  M : List Int
def vr0 : Vr := ⟨[], [], []⟩
/-- Is the node of the i-th key on the way to another one? -/
def abv (K : List Int) (key : Int) (i : Nat) : Bool := decide (∀ k, k < i → ¬ Btw (nth K i) (nth K k) key)
/-- The nodes ahead of j renumbered. -/
def mTo (K : List Int) (key num : Int) (M0 : List Int) : Nat → List Int
  | 0 => M0
  | i + 1 => if abv K key i = true then (mTo K key num M0 i).set i num else mTo K key num M0 i
theorem mTo_len (K : List Int) (key num : Int) (M0 : List Int) : ∀ j, (mTo K key num M0 j).length = M0.length
  | 0 => rfl
  | j + 1 => by
    unfold mTo
    split
    · rw [List.length_set, mTo_len K key num M0 j]
    · exact mTo_len K key num M0 j
theorem mTo_at (K : List Int) (key num : Int) (M0 : List Int) {i : Nat} (h : i < M0.length) : ∀ j, nth (mTo K key num M0 j) i = if i < j ∧ abv K key i = true then num else nth M0 i
  | 0 => by rw [if_neg (by omega)]; rfl
  | j + 1 => by
    have ih := mTo_at K key num M0 h j
    have hl := mTo_len K key num M0 j
    unfold mTo
    by_cases ha : abv K key j = true
    · rw [if_pos ha]
      by_cases e : i = j
      · subst e
        rw [if_pos ⟨by omega, ha⟩]
        simp [nth, List.getD, List.getElem?_set, hl, h]
      · have e2 : nth ((mTo K key num M0 j).set j num) i = nth (mTo K key num M0 j) i := by
          simp [nth, List.getD, List.getElem?_set, show ¬ j = i from fun x => e x.symm]
        rw [e2, ih]
        by_cases c : i < j ∧ abv K key i = true
        · rw [if_pos c, if_pos ⟨by omega, c.2⟩]
        · rw [if_neg c, if_neg (fun hc => c ⟨by omega, hc.2⟩)]
    · rw [if_neg ha, ih]
      by_cases c : i < j ∧ abv K key i = true
      · rw [if_pos c, if_pos ⟨by omega, c.2⟩]
      · rw [if_neg c, if_neg (fun hc => c ⟨by
          rcases Nat.lt_or_ge i j with h | h
          · exact h
          · have e : i = j := by omega
            rw [e] at hc; exact absurd hc.2 ha, hc.2⟩)]
/-- With a place for a key. -/
def Vr.room (q : Vr) (key : Int) : Vr := if key ∈ q.K then q else ⟨q.K ++ [key], q.V ++ [0], q.M ++ [0]⟩
def Vr.put (q : Vr) (key x num : Int) : Vr := ⟨(q.room key).K, (q.room key).V.set (q.K.idxOf key) x, mTo (q.room key).K key num (q.room key).M (q.K.idxOf key + 1)⟩
/-- A tree and a version say the same; F tells of each block the key, and in which version it was made. -/
structure Rv (F : Nat → Int × Int) (T : Ct) (q : Vr) (m : Nat) : Prop where
  nd : q.K.Nodup
  lv : q.V.length = q.K.length
  lm : q.M.length = q.K.length
  mem : ∀ x, x ∈ keys T ↔ x ∈ q.K
  val : ∀ i, i < q.K.length → get T (nth q.K i) = some (nth q.V i)
  hp : Hp (fun y => q.K.idxOf y) T
  nm : ∀ i, i < q.K.length → 0 ≤ nth q.M i ∧ nth q.M i < m
  blk : ∀ p ∈ nodes T, F p.1 = (p.2, nth q.M (q.K.idxOf p.2))
theorem nth_idx {K : List Int} {y : Int} (h : y ∈ K) : nth K (K.idxOf y) = y := by
  have hl := List.idxOf_lt_length_iff.2 h
  unfold nth
  rw [List.getD_eq_getElem?_getD, List.getElem?_eq_getElem hl]
  exact List.getElem_idxOf hl
theorem idx_absent {K : List Int} {y : Int} (h : y ∉ K) : K.idxOf y = K.length := by
  have h1 := mt List.idxOf_lt_length_iff.1 h
  have h2 := List.idxOf_le_length (a := y) (l := K)
  omega
theorem idx_nth {K : List Int} (h : K.Nodup) {i : Nat} (hi : i < K.length) : K.idxOf (nth K i) = i := by
  have e : nth K i = K[i] := by unfold nth; rw [List.getD_eq_getElem?_getD, List.getElem?_eq_getElem hi]; rfl
  rw [e]
  exact h.idxOf_getElem i hi
theorem nth_mem {K : List Int} {i : Nat} (hi : i < K.length) : nth K i ∈ K := by
  have e : nth K i = K[i] := by unfold nth; rw [List.getD_eq_getElem?_getD, List.getElem?_eq_getElem hi]; rfl
  rw [e]; exact List.getElem_mem hi
/-- What is asked of the rows that have a place for the key. -/
structure Room (q : Vr) (key : Int) (K V M : List Int) : Prop where
  nd : K.Nodup
  mem : ∀ x, x ∈ K ↔ x = key ∨ x ∈ q.K
  lv : V.length = K.length
  lm : M.length = K.length
  at_ : q.K.idxOf key < K.length ∧ nth K (q.K.idxOf key) = key
  idx : ∀ y ∈ q.K, K.idxOf y = q.K.idxOf y
  old : ∀ i, i < q.K.length → i < K.length ∧ nth K i = nth q.K i ∧ nth V i = nth q.V i ∧ nth M i = nth q.M i
  new : ∀ i, i < K.length → i < q.K.length ∨ i = q.K.idxOf key
theorem nth_app {K L : List Int} {i : Nat} (h : i < K.length) : nth (K ++ L) i = nth K i := by
  unfold nth
  rw [List.getD_eq_getElem?_getD, List.getD_eq_getElem?_getD, List.getElem?_append_left h]
theorem room_ok {F : Nat → Int × Int} {T : Ct} {q : Vr} {m : Nat} (h : Rv F T q m) (key : Int) : Room q key (q.room key).K (q.room key).V (q.room key).M := by
  unfold Vr.room
  by_cases hk : key ∈ q.K
  · rw [if_pos hk]
    exact ⟨h.nd, fun x => ⟨.inr, fun hx => hx.elim (fun e => e ▸ hk) id⟩, h.lv, h.lm, ⟨List.idxOf_lt_length_iff.2 hk, nth_idx hk⟩, fun _ _ => rfl, fun i hi => ⟨hi, rfl, rfl, rfl⟩, fun i hi => .inl hi⟩
  · rw [if_neg hk]
    have hi : q.K.idxOf key = q.K.length := idx_absent hk
    refine ⟨?_, fun x => ?_, by simp [h.lv], by simp [h.lm], ?_, fun y hy => ?_, fun i hi => ?_, fun i h1 => ?_⟩
    · exact List.nodup_append.2 ⟨h.nd, by simp, fun a ha b hb => by simp only [List.mem_singleton] at hb; rintro rfl; exact hk (hb ▸ ha)⟩
    · show x ∈ q.K ++ [key] ↔ _
      rw [List.mem_append, List.mem_singleton]
      exact ⟨fun h => h.symm, fun h => h.symm⟩
    · rw [hi]
      refine ⟨by simp, ?_⟩
      show nth (q.K ++ [key]) q.K.length = key
      simp [nth, List.getD]
    · show (q.K ++ [key]).idxOf y = _
      rw [List.idxOf_append, if_pos hy]
    · refine ⟨by show i < (q.K ++ [key]).length; rw [List.length_append]; omega, nth_app hi, nth_app (by rw [h.lv]; exact hi), nth_app (by rw [h.lm]; exact hi)⟩
    · simp only [List.length_append, List.length_singleton] at h1
      rw [hi]; omega
theorem trail_abv {F : Nat → Int × Int} {T : Ct} {q : Vr} {m : Nat} (h : Rv F T q m) (hU : Up T) {key : Int} {K V M : List Int} (hR : Room q key K V M) {i : Nat} (hi : i < K.length) : (i < q.K.idxOf key + 1 ∧ abv K key i = true) ↔ nth K i ∈ trail T key := by
  by_cases e : i = q.K.idxOf key
  · have hx : nth K i = key := by rw [e]; exact hR.at_.2
    rw [hx]
    refine ⟨fun _ => trail_self key T, fun _ => ⟨by omega, decide_eq_true fun k hk hb => ?_⟩⟩
    rw [hx] at hb
    have hkl : k < K.length := by omega
    have : nth K k = key := by unfold Btw at hb; omega
    have h1 := idx_nth hR.nd hkl
    have h2 := idx_nth hR.nd hi
    rw [hx] at h2
    rw [this] at h1
    omega
  · have hiq : i < q.K.length := (hR.new i hi).resolve_right e
    obtain ⟨-, hx, -, -⟩ := hR.old i hiq
    have hm : nth q.K i ∈ keys T := (h.mem _).2 (nth_mem hiq)
    rw [hx, trail_iff T hU h.hp hm, idx_nth h.nd hiq]
    constructor
    · rintro ⟨g1, g2⟩ y hy hb
      have g3 := of_decide_eq_true g2
      have hyK := (h.mem y).1 hy
      have hyl := List.idxOf_lt_length_iff.2 hyK
      apply Classical.byContradiction
      intro hc
      have hlt : q.K.idxOf y < i := by omega
      have := g3 _ hlt
      rw [hx, (hR.old _ hyl).2.1, nth_idx hyK] at this
      exact this hb
    · intro g
      refine ⟨?_, decide_eq_true fun k hk hb => ?_⟩
      · by_cases hkey : key ∈ q.K
        · have := g key ((h.mem key).2 hkey) (.inr (.inr rfl))
          omega
        · have : q.K.idxOf key = q.K.length := idx_absent hkey
          omega
      · have hkq : k < q.K.length := by omega
        rw [hx, (hR.old k hkq).2.1] at hb
        have := g (nth q.K k) ((h.mem _).2 (nth_mem hkq)) hb
        rw [idx_nth h.nd hkq] at this
        omega
/-- What blocks are, behind a put: those from n on are new. -/
def putF (F : Nat → Int × Int) (T : Ct) (n m : Nat) (key : Int) (b : Nat) : Int × Int := if b < n then F b else ((trail T key).getD (b - n) 0, (m : Int))
theorem rv_put {F : Nat → Int × Int} {T : Ct} {q : Vr} {m n : Nat} (h : Rv F T q m) (hU : Up T) (hA : Apt T n) (key x : Int) : Rv (putF F T n m key) (put T n key x) (q.put key x m) (m + 1) := by
  have hR := room_ok h key
  unfold Vr.put
  generalize (q.room key).K = K at *
  generalize (q.room key).V = V at *
  generalize (q.room key).M = M at *
  have hTA := fun i (hi : i < K.length) => trail_abv h hU hR hi
  have hM := fun i (hi : i < K.length) => mTo_at K key (m : Int) M (by rw [hR.lm]; exact hi) (q.K.idxOf key + 1)
  have hmem : ∀ y, y ∈ keys (put T n key x) ↔ y ∈ K := fun y => by rw [mem_keys_put, hR.mem, h.mem]
  refine ⟨hR.nd, by rw [List.length_set]; exact hR.lv, by rw [mTo_len]; exact hR.lm, hmem, fun i hi => ?_, ?_, fun i hi => ?_, fun p hp => ?_⟩
  · show get (put T n key x) (nth K i) = some (nth (V.set (q.K.idxOf key) x) i)
    have hi : i < K.length := hi
    rw [get_put]
    by_cases e : i = q.K.idxOf key
    · rw [e, if_pos hR.at_.2]
      have : q.K.idxOf key < V.length := by rw [hR.lv]; exact hR.at_.1
      simp [nth, List.getD, List.getElem?_set, this]
    · have hiq : i < q.K.length := (hR.new i hi).resolve_right e
      obtain ⟨-, h1, h2, -⟩ := hR.old i hiq
      have hne : nth K i ≠ key := fun hc => by
        have g1 := idx_nth hR.nd hi
        have g2 := idx_nth hR.nd hR.at_.1
        rw [hR.at_.2] at g2
        rw [hc] at g1
        omega
      rw [if_neg hne, h1, h.val i hiq, ← h2]
      congr 1
      simp [nth, List.getD, List.getElem?_set, show ¬ q.K.idxOf key = i from fun c => e c.symm]
  · refine hp_put key x T n hU (hp_congr T (fun y hy => (hR.idx y ((h.mem y).1 hy)).symm) h.hp) (fun hk y hy => ?_)
    have hyK := (h.mem y).1 hy
    have hkq : key ∉ q.K := fun hm => hk ((h.mem key).2 hm)
    have e1 : q.K.idxOf key = q.K.length := idx_absent hkq
    have e2 := idx_nth hR.nd hR.at_.1
    rw [hR.at_.2, e1] at e2
    have e3 := hR.idx y hyK
    have e4 := List.idxOf_lt_length_iff.2 hyK
    show K.idxOf y < K.idxOf key
    omega
  · have hi : i < K.length := hi
    show 0 ≤ nth (mTo K key (m : Int) M (q.K.idxOf key + 1)) i ∧ nth (mTo K key (m : Int) M (q.K.idxOf key + 1)) i < ((m + 1 : Nat) : Int)
    rw [hM i hi]
    by_cases c : i < q.K.idxOf key + 1 ∧ abv K key i = true
    · rw [if_pos c]; omega
    · rw [if_neg c]
      rcases hR.new i hi with hiq | e
      · obtain ⟨-, -, -, h3⟩ := hR.old i hiq
        have := h.nm i hiq
        omega
      · exfalso
        refine c ((hTA i hi).2 ?_)
        rw [e, hR.at_.2]
        exact trail_self key T
  · have hpK : p.2 ∈ K := (hmem _).1 (keys_of_nodes hp)
    have hil := List.idxOf_lt_length_iff.2 hpK
    show putF F T n m key p.1 = (p.2, nth (mTo K key (m : Int) M (q.K.idxOf key + 1)) (K.idxOf p.2))
    rw [hM _ hil]
    have hta := hTA _ hil
    rw [nth_idx hpK] at hta
    rcases (nodes_put_iff key x p T n hU).1 hp with ⟨g1, g2⟩ | ⟨g1, g2⟩
    · unfold putF
      rw [if_neg (by omega)]
      have g3 : p.2 ∈ trail T key := List.mem_of_getElem? g2
      rw [if_pos (hta.2 g3), List.getD_eq_getElem?_getD, g2]
      rfl
    · unfold putF
      rw [if_pos (hA.2 _ (blks_of_nodes g1)), if_neg (fun c => g2 (hta.1 c)), h.blk p g1]
      have hq := (h.mem _).1 (keys_of_nodes g1)
      have e1 := hR.idx _ hq
      rw [e1, (hR.old _ (List.idxOf_lt_length_iff.2 hq)).2.2.2]
/-- A store and the document's row of versions. -/
structure Sq (F : Nat → Int × Int) (st : List Ct) (qs : List Vr) : Prop where
  len : qs.length = st.length
  rv : ∀ v, v < st.length → Rv F (st.getD v .nil) (qs.getD v vr0) st.length
  inj : ∀ b b', (∃ T ∈ st, b ∈ blks T) → (∃ T ∈ st, b' ∈ blks T) → F b = F b' → b = b'
theorem sq_new : Sq (fun _ => (0, 0)) [.nil] [vr0] := ⟨rfl, fun v hv => by
  have e : v = 0 := by simpa using hv
  subst e
  exact ⟨List.nodup_nil, rfl, rfl, fun x => by simp [keys, nodes, vr0], fun i hi => by simp [vr0] at hi, trivial, fun i hi => by simp [vr0] at hi, fun p hp => by simp [nodes] at hp⟩, fun b b' ⟨T, hT, hb⟩ => by simp at hT; subst hT; simp [blks, nodes] at hb⟩
theorem getD_mem' {st : List Ct} {v : Nat} (h : v < st.length) : st.getD v .nil ∈ st := by
  rw [List.getD_eq_getElem?_getD, List.getElem?_eq_getElem h]
  exact List.getElem_mem h
theorem mem_getD' {st : List Ct} {T : Ct} (h : T ∈ st) : ∃ v, v < st.length ∧ st.getD v .nil = T := by
  obtain ⟨i, hi, e⟩ := List.getElem_of_mem h
  exact ⟨i, hi, by rw [List.getD_eq_getElem?_getD, List.getElem?_eq_getElem hi, ← e]; rfl⟩
theorem getD_app1 {α : Type} {l : List α} {a d : α} {i : Nat} (h : i < l.length) : (l ++ [a]).getD i d = l.getD i d := by
  rw [List.getD_eq_getElem?_getD, List.getD_eq_getElem?_getD, List.getElem?_append_left h]
theorem getD_app2 {α : Type} {l : List α} {a d : α} : (l ++ [a]).getD l.length d = a := by
  rw [List.getD_eq_getElem?_getD]; simp
theorem Rv.far {F F' : Nat → Int × Int} {T : Ct} {q : Vr} {m m' : Nat} (h : Rv F T q m) (hm : m ≤ m') (hF : ∀ b ∈ blks T, F' b = F b) : Rv F' T q m' :=
  ⟨h.nd, h.lv, h.lm, h.mem, h.val, h.hp, fun i hi => by have := h.nm i hi; omega, fun p hp => by rw [hF _ (blks_of_nodes hp)]; exact h.blk p hp⟩
theorem sq_put {F : Nat → Int × Int} {st : List Ct} {qs : List Vr} {n : Nat} (h : Sq F st qs) (hO : OK st n) {v : Nat} (hv : v < st.length) (key x : Int) :
    ∃ F', Sq F' (st ++ [put (st.getD v .nil) n key x]) (qs ++ [(qs.getD v vr0).put key x st.length]) := by
  have hT := getD_mem' hv
  have hU := hO.up _ hT
  have hA := hO.apt _ hT
  have hnew := rv_put (h.rv v hv) hU hA key x
  have hold : ∀ b, (∃ T ∈ st, b ∈ blks T) → b < n := fun b ⟨T, hT, hb⟩ => (hO.apt T hT).2 b hb
  have hF : ∀ b, b < n → putF F (st.getD v .nil) n st.length key b = F b := fun b hb => if_pos hb
  have hF2 : ∀ b, n ≤ b → putF F (st.getD v .nil) n st.length key b = ((trail (st.getD v .nil) key).getD (b - n) 0, (st.length : Int)) := fun b hb => if_neg (by omega)
  have hnum : ∀ b, (∃ T ∈ st, b ∈ blks T) → (F b).2 < st.length := fun b ⟨T, hT, hb⟩ => by
    obtain ⟨u, hu, rfl⟩ := mem_getD' hT
    obtain ⟨p, hp, rfl⟩ := List.mem_map.1 hb
    have hr := h.rv u hu
    rw [hr.blk p hp]
    exact (hr.nm _ (List.idxOf_lt_length_iff.2 ((hr.mem _).1 (keys_of_nodes hp)))).2
  have hcase : ∀ b, (∃ T ∈ st ++ [put (st.getD v .nil) n key x], b ∈ blks T) → (b < n ∧ ∃ T ∈ st, b ∈ blks T) ∨ (n ≤ b ∧ b - n < (trail (st.getD v .nil) key).length) := fun b ⟨T, hTm, hb⟩ => by
    rcases List.mem_append.1 hTm with hTm | hTm
    · exact .inl ⟨hold b ⟨T, hTm, hb⟩, T, hTm, hb⟩
    · rw [List.mem_singleton] at hTm
      subst hTm
      obtain ⟨p, hp, rfl⟩ := List.mem_map.1 hb
      rcases (nodes_put_iff key x p _ n hU).1 hp with ⟨g1, g2⟩ | ⟨g1, g2⟩
      · exact .inr ⟨g1, (List.getElem?_eq_some_iff.1 g2).1⟩
      · have := blks_of_nodes g1
        exact .inl ⟨hold _ ⟨_, hT, this⟩, _, hT, this⟩
  generalize putF F (st.getD v .nil) n st.length key = F' at *
  refine ⟨F', by simp [h.len], fun u hu => ?_, fun b b' hb hb' he => ?_⟩
  · rw [List.length_append, List.length_singleton] at hu ⊢
    rcases Nat.lt_or_ge u st.length with hlt | hge
    · rw [getD_app1 hlt, getD_app1 (by rw [h.len]; exact hlt)]
      exact (h.rv u hlt).far (by omega) (fun b hb => hF b (hold b ⟨_, getD_mem' hlt, hb⟩))
    · have e : u = st.length := by omega
      subst e
      have e2 : ∀ (a : Vr), (qs ++ [a]).getD st.length vr0 = a := fun a => by rw [← h.len]; exact getD_app2
      rw [getD_app2, e2]
      exact hnew
  · rcases hcase b hb with ⟨c1, d1⟩ | ⟨c1, d1⟩
    · rcases hcase b' hb' with ⟨c2, d2⟩ | ⟨c2, d2⟩
      · rw [hF b c1, hF b' c2] at he
        exact h.inj b b' d1 d2 he
      · rw [hF b c1, hF2 b' c2] at he
        have := hnum b d1
        rw [he] at this
        exact absurd this (by simp)
    · rcases hcase b' hb' with ⟨c2, d2⟩ | ⟨c2, d2⟩
      · rw [hF2 b c1, hF b' c2] at he
        have := hnum b' d2
        rw [← he] at this
        exact absurd this (by simp)
      · rw [hF2 b c1, hF2 b' c2] at he
        have h1 := (Prod.mk.inj he).1
        have hnd := trail_nodup key _ hU
        generalize trail (st.getD v .nil) key = tr at *
        rw [List.getD_eq_getElem?_getD, List.getD_eq_getElem?_getD, List.getElem?_eq_getElem d1, List.getElem?_eq_getElem d2] at h1
        have := (List.getElem_inj hnd).1 h1
        omega
/-- Is the node of a key the same in both? -/
def shB (a b : Vr) (y : Int) : Bool := decide (y ∈ b.K ∧ nth a.M (a.K.idxOf y) = nth b.M (b.K.idxOf y))
/-- How many nodes both have. -/
def vshared (a b : Vr) : Nat := (a.K.filter (shB a b)).length
theorem vshared_eq {F : Nat → Int × Int} {st : List Ct} {qs : List Vr} {n : Nat} (h : Sq F st qs) (hO : OK st n) {u v : Nat} (hu : u < st.length) (hv : v < st.length) :
    vshared (qs.getD u vr0) (qs.getD v vr0) = shared (st.getD u .nil) (st.getD v .nil) := by
  have ru := h.rv u hu
  have rv := h.rv v hv
  have mu := getD_mem' hu
  have mv := getD_mem' hv
  rw [shared_comm (hO.apt _ mu).1 (hO.apt _ mv).1]
  have upu := hO.up _ mu
  have hinj := h.inj
  generalize qs.getD u vr0 = a at *
  generalize qs.getD v vr0 = b at *
  generalize st.getD u .nil = A at *
  generalize st.getD v .nil = B at *
  have hp : a.K.Perm (keys A) := (List.perm_ext_iff_of_nodup ru.nd (up_nodup upu)).2 fun x => (ru.mem x).symm
  have h1 : vshared a b = ((keys A).filter (shB a b)).length := (hp.filter _).length_eq
  rw [h1]
  unfold shared keys blks
  rw [List.filter_map, List.filter_map, List.length_map, List.length_map]
  congr 1
  refine List.filter_congr fun p hpA => ?_
  show shB a b p.2 = List.contains ((nodes B).map (·.1)) p.1
  have hFA := ru.blk p hpA
  rw [Bool.eq_iff_iff, List.contains_iff_mem]
  unfold shB
  rw [decide_eq_true_eq]
  constructor
  · rintro ⟨g1, g2⟩
    have g3 := (rv.mem p.2).2 g1
    obtain ⟨p', hp', e⟩ := List.mem_map.1 g3
    have hFB := rv.blk p' hp'
    have e : p'.2 = p.2 := e
    rw [e, ← g2, ← hFA] at hFB
    have := hinj p'.1 p.1 ⟨B, mv, blks_of_nodes hp'⟩ ⟨A, mu, blks_of_nodes hpA⟩ hFB
    exact List.mem_map.2 ⟨p', hp', this⟩
  · intro hm
    obtain ⟨p', hp', e⟩ := List.mem_map.1 hm
    have hFB := rv.blk p' hp'
    have e : p'.1 = p.1 := e
    rw [e, hFA] at hFB
    obtain ⟨e1, e2⟩ := Prod.mk.inj hFB
    rw [← e1] at e2
    refine ⟨?_, e2⟩
    rw [e1]
    exact (rv.mem _).1 (keys_of_nodes hp')
end Co
end Go.Proofs.YtokbhiokcoldbaaDoor
