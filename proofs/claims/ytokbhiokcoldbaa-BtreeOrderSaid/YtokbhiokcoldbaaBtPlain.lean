/- Trees of keys whose leaves are all as deep (package btree), in plain Lean: by their depth. No program in sight. -/
import Derived.WalkKit
namespace Go.Proofs.Ytokbhiokcoldbaa
namespace Bt

/-- A tree of depth d: its keys and, above the leaves, its kids. -/
def T : Nat → Type
  | 0 => List Int
  | d + 1 => List Int × List (T d)
def ks : (d : Nat) → T d → List Int
  | 0, t => t
  | _ + 1, t => t.1
/-- How many keys are below. -/
def lb (x : Int) : List Int → Nat
  | [] => 0
  | y :: r => if y < x then lb x r + 1 else 0
def ins {α : Type} (l : List α) (i : Nat) (x : α) : List α := l.take i ++ x :: l.drop i
/-- Keys between lists. -/
def weave : List Int → List (List Int) → List Int
  | [], ls => ls.headD []
  | k :: r, ls => ls.headD [] ++ k :: weave r ls.tail
/-- All keys, from left to right. -/
def all : (d : Nat) → T d → List Int
  | 0, t => t
  | d + 1, t => weave t.1 (t.2.map (all d))
def hasK (l : List Int) (x : Int) : Bool := l[lb x l]? == some x
def has : (d : Nat) → T d → Int → Bool
  | 0, t, x => hasK t x
  | d + 1, t, x => if hasK t.1 x then true else match t.2[lb x t.1]? with
    | some s => has d s x
    | none => false
/-- A node whose keys are too many is split; the middle one goes up. -/
def cut0 (l : List Int) : List Int × Option (Int × List Int) := if l.length ≤ 4 then (l, none) else (l.take 2, some (l.getD 2 0, l.drop 3))
def cutN {α : Type} (l : List Int) (m : List α) : (List Int × List α) × Option (Int × (List Int × List α)) := if l.length ≤ 4 then ((l, m), none) else ((l.take 2, m.take 3), some (l.getD 2 0, (l.drop 3, m.drop 3)))
def add : (d : Nat) → T d → Int → T d × Option (Int × T d)
  | 0, t, x => cut0 (ins (α := Int) t (lb x t) x)
  | d + 1, t, x => match t.2[lb x t.1]? with
    | none => (t, none)
    | some s => match add d s x with
      | (s', none) => ((t.1, t.2.set (lb x t.1) s'), none)
      | (s', some (up, r)) => cutN (ins t.1 (lb x t.1) up) (ins (t.2.set (lb x t.1) s') (lb x t.1 + 1) r)
/-- Of how many keys the nodes are: lo of the topmost one at least. -/
def Ok : (d : Nat) → Nat → T d → Prop
  | 0, lo, t => lo ≤ List.length (α := Int) t ∧ List.length (α := Int) t ≤ 4
  | d + 1, lo, t => (lo ≤ t.1.length ∧ t.1.length ≤ 4) ∧ t.2.length = t.1.length + 1 ∧ ∀ s ∈ t.2, Ok d 2 s
def Up (l : List Int) : Prop := l.Pairwise (· < ·)
/-- A number into a rising list. -/
def insS (x : Int) : List Int → List Int
  | [] => [x]
  | y :: r => if y < x then y :: insS x r else x :: y :: r
theorem lb_le (x : Int) : ∀ (l : List Int), lb x l ≤ l.length
  | [] => Nat.le_refl _
  | y :: r => by
    have := lb_le x r
    unfold lb
    split <;> simp <;> omega
theorem ins_len {α : Type} (l : List α) (i : Nat) (x : α) (h : i ≤ l.length) : (ins l i x).length = l.length + 1 := by
  unfold ins
  simp only [List.length_append, List.length_take, List.length_cons, List.length_drop]
  omega
theorem insS_append_lt (x : Int) : ∀ (a b : List Int), (∀ y ∈ a, y < x) → insS x (a ++ b) = a ++ insS x b
  | [], _, _ => rfl
  | y :: r, b, h => by
    rw [List.cons_append, insS, if_pos (h y (by simp)), insS_append_lt x r b (fun z hz => h z (by simp [hz]))]
    rfl
theorem insS_append_gt (x : Int) : ∀ (a b : List Int), (∀ y ∈ b, x < y) → insS x (a ++ b) = insS x a ++ b
  | [], [], _ => rfl
  | [], y :: r, h => by
    have := h y (by simp)
    show insS x (y :: r) = x :: y :: r
    rw [insS, if_neg (by omega)]
  | z :: r, b, h => by
    rw [List.cons_append, insS, insS]
    split
    · rw [insS_append_gt x r b h]; rfl
    · rfl
theorem insS_lb (x : Int) : ∀ (l : List Int), insS x l = ins l (lb x l) x
  | [] => rfl
  | y :: r => by
    rw [insS]
    unfold lb
    split
    · rw [insS_lb x r]; rfl
    · rfl
theorem mem_insS (x y : Int) : ∀ (l : List Int), y ∈ insS x l ↔ y = x ∨ y ∈ l
  | [] => by simp [insS]
  | z :: r => by
    rw [insS]
    split
    · simp [mem_insS x y r]; constructor <;> (rintro (h | h | h) <;> simp [h])
    · simp
theorem up_insS (x : Int) : ∀ (l : List Int), Up l → x ∉ l → Up (insS x l)
  | [], _, _ => by simp [insS, Up]
  | y :: r, h, hn => by
    have hh := h
    rw [Up, List.pairwise_cons] at h
    rw [insS]
    split
    · rename_i hy
      rw [Up, List.pairwise_cons]
      refine ⟨fun z hz => ?_, up_insS x r h.2 (fun hm => hn (by simp [hm]))⟩
      rcases (mem_insS x z r).1 hz with rfl | hz
      · exact hy
      · exact h.1 z hz
    · rename_i hy
      have hne : x ≠ y := fun e => hn (by simp [e])
      rw [Up, List.pairwise_cons]
      refine ⟨fun z hz => ?_, hh⟩
      rcases List.mem_cons.1 hz with rfl | hz
      · omega
      · have := h.1 z hz; omega
theorem len_insS (x : Int) : ∀ (l : List Int), (insS x l).length = l.length + 1
  | [] => rfl
  | y :: r => by
    rw [insS]
    split
    · simp [len_insS x r]
    · rfl
/-! ### Keys between lists -/
theorem weave_len : ∀ (k : List Int) (ls : List (List Int)), ls.length = k.length + 1 → (weave k ls).length = k.length + (ls.map List.length).sum
  | [], [l], _ => by simp [weave]
  | k :: r, l :: ls, h => by
    have ih := weave_len r ls (by simpa using h)
    simp only [weave, List.headD_cons, List.tail_cons, List.length_append, List.length_cons, ih, List.map_cons, List.sum_cons]
    omega
theorem mem_weave (x : Int) : ∀ (k : List Int) (ls : List (List Int)), ls.length = k.length + 1 → (x ∈ weave k ls ↔ x ∈ k ∨ ∃ l ∈ ls, x ∈ l)
  | [], [l], _ => by simp [weave]
  | k :: r, l :: ls, h => by
    have ih := mem_weave x r ls (by simpa using h)
    simp only [weave, List.headD_cons, List.tail_cons, List.mem_append, List.mem_cons, ih]
    constructor
    · rintro (h | h | h | ⟨m, h1, h2⟩)
      · exact .inr ⟨l, .inl rfl, h⟩
      · exact .inl (.inl h)
      · exact .inl (.inr h)
      · exact .inr ⟨m, .inr h1, h2⟩
    · rintro ((h | h) | ⟨m, h1 | h1, h2⟩)
      · exact .inr (.inl h)
      · exact .inr (.inr (.inl h))
      · subst h1; exact .inl h2
      · exact .inr (.inr (.inr ⟨m, h1, h2⟩))
/-- A number lies in the list that its place says. -/
theorem insS_weave (x : Int) : ∀ (k : List Int) (ls : List (List Int)), ls.length = k.length + 1 → Up (weave k ls) → x ∉ k → insS x (weave k ls) = weave k (ls.set (lb x k) (insS x (ls.getD (lb x k) [])))
  | [], [l], _, _, _ => by simp [weave, lb]
  | k :: r, l :: ls, h, hu, hn => by
    have hu' : Up (l ++ k :: weave r ls) := hu
    rw [Up, List.pairwise_append, List.pairwise_cons] at hu'
    obtain ⟨h1, ⟨h2, h3⟩, h4⟩ := hu'
    simp only [weave, List.headD_cons, List.tail_cons]
    by_cases hk : k < x
    · have e : lb x (k :: r) = lb x r + 1 := by rw [lb, if_pos hk]
      have ih := insS_weave x r ls (by simpa using h) h3 (fun hm => hn (by simp [hm]))
      rw [e, insS_append_lt x l _ (fun y hy => by have := h4 y hy k (by simp); omega), insS, if_pos hk, ih]
      simp
    · have hkx : x < k := by
        have : x ≠ k := fun e => hn (by simp [e])
        omega
      have e : lb x (k :: r) = 0 := by rw [lb, if_neg hk]
      rw [e, insS_append_gt x l _ (fun y hy => by
        rcases List.mem_cons.1 hy with rfl | hy
        · exact hkx
        · have := h2 y hy; omega)]
      simp
/-- A list is split: its middle goes between. -/
theorem weave_split (u : Int) (a b : List Int) : ∀ (k : List Int) (ls : List (List Int)) (i : Nat), ls.length = k.length + 1 → i ≤ k.length → weave k (ls.set i (a ++ u :: b)) = weave (ins k i u) (ins (ls.set i a) (i + 1) b)
  | [], [l], 0, _, _ => by simp [weave, ins]
  | k :: r, l :: ls, 0, h, _ => by
    cases ls with
    | nil => simp at h
    | cons m ls => simp [weave, ins]
  | k :: r, l :: ls, i + 1, h, hi => by
    have ih := weave_split u a b r ls i (by simpa using h) (by simpa using hi)
    have e1 : ins (k :: r) (i + 1) u = k :: ins r i u := by simp [ins]
    have e2 : ins ((l :: ls).set (i + 1) a) (i + 1 + 1) b = l :: ins (ls.set i a) (i + 1) b := by simp [ins]
    rw [e1, e2]
    simp only [weave, List.set_cons_succ, List.headD_cons, List.tail_cons, ih]
theorem weave_cut : ∀ (k : List Int) (ls : List (List Int)) (i : Nat), ls.length = k.length + 1 → i < k.length → weave k ls = weave (k.take i) (ls.take (i + 1)) ++ k.getD i 0 :: weave (k.drop (i + 1)) (ls.drop (i + 1))
  | k :: r, l :: ls, 0, h, _ => by
    cases ls with
    | nil => simp at h
    | cons m ls => simp [weave]
  | k :: r, l :: ls, i + 1, h, hi => by
    have ih := weave_cut r ls i (by simpa using h) (by simpa using hi)
    simp only [weave, List.take_succ_cons, List.drop_succ_cons, List.headD_cons, List.tail_cons, List.getD_cons_succ]
    rw [ih]
    simp
/-! ### What adding does -/
def fullAll (d : Nat) (p : T d × Option (Int × T d)) : List Int := all d p.1 ++ match p.2 with | none => [] | some (u, r) => u :: all d r
theorem map_set' {α β : Type} (f : α → β) (l : List α) (i : Nat) (x : α) : (l.set i x).map f = (l.map f).set i (f x) := by rw [List.map_set]
theorem map_ins {α β : Type} (f : α → β) (l : List α) (i : Nat) (x : α) : (ins l i x).map f = ins (l.map f) i (f x) := by
  unfold ins
  rw [List.map_append, List.map_cons, List.map_take, List.map_drop]
theorem mem_lb {x : Int} : ∀ {l : List Int}, Up l → (x ∈ l ↔ l[lb x l]? = some x)
  | [], _ => by simp
  | y :: r, h => by
    rw [Up, List.pairwise_cons] at h
    by_cases hy : y < x
    · have e : lb x (y :: r) = lb x r + 1 := by rw [lb, if_pos hy]
      rw [e, List.getElem?_cons_succ, ← mem_lb h.2, List.mem_cons]
      exact ⟨fun hx => hx.resolve_left (by omega), .inr⟩
    · have e : lb x (y :: r) = 0 := by rw [lb, if_neg hy]
      rw [e, List.getElem?_cons_zero, List.mem_cons]
      constructor
      · rintro (hx | hx)
        · rw [hx]
        · have := h.1 x hx; omega
      · intro hx; injection hx with hx; exact .inl hx.symm
theorem up_keys : ∀ (k : List Int) (ls : List (List Int)), ls.length = k.length + 1 → Up (weave k ls) → Up k
  | [], _, _, _ => List.Pairwise.nil
  | k :: r, l :: ls, h, hu => by
    have hu' : Up (l ++ k :: weave r ls) := hu
    rw [Up, List.pairwise_append, List.pairwise_cons] at hu'
    rw [Up, List.pairwise_cons]
    exact ⟨fun y hy => hu'.2.1.1 y ((mem_weave y r ls (by simpa using h)).2 (.inl hy)), up_keys r ls (by simpa using h) hu'.2.1.2⟩
theorem up_kid : ∀ (k : List Int) (ls : List (List Int)), ls.length = k.length + 1 → Up (weave k ls) → ∀ l ∈ ls, Up l
  | [], [l], _, hu, m, hm => by
    simp only [List.mem_singleton] at hm
    subst hm
    exact hu
  | k :: r, l :: ls, h, hu, m, hm => by
    have hu' : Up (l ++ k :: weave r ls) := hu
    rw [Up, List.pairwise_append, List.pairwise_cons] at hu'
    rcases List.mem_cons.1 hm with rfl | hm
    · exact hu'.1
    · exact up_kid r ls (by simpa using h) hu'.2.1.2 m hm
/-- Where a number lies: in the kid of its place, if it is no key. -/
theorem mem_kid (x : Int) : ∀ (k : List Int) (ls : List (List Int)), ls.length = k.length + 1 → Up (weave k ls) → x ∉ k → (x ∈ weave k ls ↔ x ∈ ls.getD (lb x k) [])
  | [], [l], _, _, _ => by simp [weave, lb]
  | k :: r, l :: ls, h, hu, hn => by
    have hu' : Up (l ++ k :: weave r ls) := hu
    rw [Up, List.pairwise_append, List.pairwise_cons] at hu'
    obtain ⟨h1, ⟨h2, h3⟩, h4⟩ := hu'
    have hne : x ≠ k := fun e => hn (by simp [e])
    simp only [weave, List.headD_cons, List.tail_cons, List.mem_append, List.mem_cons]
    by_cases hk : k < x
    · have e : lb x (k :: r) = lb x r + 1 := by rw [lb, if_pos hk]
      rw [e, List.getD_cons_succ, ← mem_kid x r ls (by simpa using h) h3 (fun hm => hn (by simp [hm]))]
      constructor
      · rintro (hx | hx | hx)
        · have := h4 x hx k (by simp); omega
        · omega
        · exact hx
      · intro hx; exact .inr (.inr hx)
    · have e : lb x (k :: r) = 0 := by rw [lb, if_neg hk]
      rw [e, List.getD_cons_zero]
      constructor
      · rintro (hx | hx | hx)
        · exact hx
        · omega
        · have := h2 x hx; omega
      · exact .inl
end Bt
end Go.Proofs.Ytokbhiokcoldbaa
