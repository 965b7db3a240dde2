/- The order of a tree's keys, in plain Lean. -/
import Derived.Test.YtokbhiokcoldbaaBtEvenP
namespace Go.Proofs.Ytokbhiokcoldbaa
namespace Bt

/-- All keys of trees side by side. -/
def flat (L : List Sub) : List Int := (L.map (fun s => all s.1 s.2)).flatten
def lkeys (L : List Sub) : List Int := (L.map keysOf).flatten
theorem weave_sub1 : ∀ (k : List Int) (ls : List (List Int)), k.Sublist (weave k ls)
  | [], _ => List.nil_sublist _
  | k :: r, ls => ((weave_sub1 r ls.tail).cons_cons k).trans (List.sublist_append_right _ _)
theorem weave_sub2 : ∀ (k : List Int) (ls : List (List Int)), ls.length = k.length + 1 → ls.flatten.Sublist (weave k ls)
  | [], [l], _ => by simp [weave]
  | k :: r, l :: ls, h => by
    have ih := weave_sub2 r ls (by simpa using h)
    show (l ++ ls.flatten).Sublist (l ++ k :: weave r ls)
    exact (List.Sublist.refl l).append (ih.cons k)
theorem flat_kidsOf {d : Nat} (t : T (d + 1)) : flat (kidsOf ⟨d + 1, t⟩) = (t.2.map (all d)).flatten := by
  show ((t.2.map (fun s => (⟨d, s⟩ : Sub))).map (fun s => all s.1 s.2)).flatten = _
  rw [List.map_map]
  rfl
theorem sub_keys {s : Sub} : (keysOf s).Sublist (all s.1 s.2) := by
  obtain ⟨d, t⟩ := s
  cases d with
  | zero => exact List.Sublist.refl _
  | succ d => exact weave_sub1 t.1 _
theorem sub_kids {s : Sub} {lo : Nat} (h : Ok s.1 lo s.2) : (flat (kidsOf s)).Sublist (all s.1 s.2) := by
  obtain ⟨d, t⟩ := s
  cases d with
  | zero => exact List.nil_sublist _
  | succ d => rw [flat_kidsOf]; exact weave_sub2 t.1 _ (map_len h)
theorem len_kids {s : Sub} {lo : Nat} (h : Ok s.1 lo s.2) : (all s.1 s.2).length = (keysOf s).length + (flat (kidsOf s)).length := by
  obtain ⟨d, t⟩ := s
  cases d with
  | zero => rfl
  | succ d => rw [flat_kidsOf, List.length_flatten]; exact weave_len t.1 _ (map_len h)
theorem flat_cons (s : Sub) (L : List Sub) : flat (s :: L) = all s.1 s.2 ++ flat L := rfl
theorem flat_append (L M : List Sub) : flat (L ++ M) = flat L ++ flat M := by unfold flat; rw [List.map_append, List.flatten_append]
theorem flat_kids : ∀ {L : List Sub}, OkL L → (flat (L.flatMap kidsOf)).Sublist (flat L)
  | [], _ => List.Sublist.refl _
  | s :: L, h => by
    obtain ⟨lo, ho⟩ := h s (by simp)
    rw [List.flatMap_cons, flat_append, flat_cons]
    exact (sub_kids ho).append (flat_kids (fun q hq => h q (by simp [hq])))
theorem len_flat : ∀ {L : List Sub}, OkL L → (flat L).length = (lkeys L).length + (flat (L.flatMap kidsOf)).length
  | [], _ => rfl
  | s :: L, h => by
    obtain ⟨lo, ho⟩ := h s (by simp)
    have h1 := len_kids ho
    have h2 := len_flat (L := L) (fun q hq => h q (by simp [hq]))
    have h3 : lkeys (s :: L) = keysOf s ++ lkeys L := rfl
    rw [List.flatMap_cons, flat_append, flat_cons, h3]
    simp only [List.length_append]
    omega
theorem lkeys_flat : ∀ (L : List Sub), (lkeys L).Sublist (flat L)
  | [] => List.Sublist.refl _
  | _ :: L => sub_keys.append (lkeys_flat L)
theorem lev_okL {s : Tree} (hO : s.OK) : ∀ k, OkL (lev k [⟨s.d, s.t⟩])
  | 0 => fun q hq => by
    simp only [lev, List.mem_singleton] at hq
    subst hq
    exact ⟨_, hO.ok⟩
  | k + 1 => by rw [lev_succ]; exact okL_kids (lev_okL hO k)
theorem lev_flat {s : Tree} (hO : s.OK) : ∀ k, (flat (lev k [⟨s.d, s.t⟩])).Sublist s.keys
  | 0 => by
    show (all s.d s.t ++ []).Sublist (all s.d s.t)
    rw [List.append_nil]
    exact List.Sublist.refl _
  | k + 1 => by rw [lev_succ]; exact (flat_kids (lev_okL hO k)).trans (lev_flat hO k)
/-- A level's keys, from left to right, are a part of all. -/
theorem level_sub {s : Tree} (hO : s.OK) (k : Nat) : (level s k).flatten.Sublist s.keys := (lkeys_flat _).trans (lev_flat hO k)
theorem level_up {s : Tree} (hO : s.OK) (k : Nat) : Up (level s k).flatten := List.Pairwise.sublist (level_sub hO k) hO.up
/-- How many keys the first k levels have. -/
def manyTo (s : Tree) : Nat → Nat
  | 0 => 0
  | k + 1 => manyTo s k + (level s k).flatten.length
theorem manyTo_flat {s : Tree} (hO : s.OK) : ∀ k, manyTo s k + (flat (lev k [⟨s.d, s.t⟩])).length = s.keys.length
  | 0 => by
    show 0 + (all s.d s.t ++ []).length = (all s.d s.t).length
    rw [List.append_nil, Nat.zero_add]
  | k + 1 => by
    have h1 := manyTo_flat hO k
    have h2 := len_flat (lev_okL hO k)
    rw [lev_succ]
    show manyTo s k + (lkeys (lev k [⟨s.d, s.t⟩])).length + _ = _
    omega
theorem many_all {s : Tree} (hO : s.OK) : manyTo s (s.d + 1) = s.keys.length := by
  have h1 := manyTo_flat hO (s.d + 1)
  have h2 : (lev (s.d + 1) [⟨s.d, s.t⟩]).map keysOf = [] := level_high hO
  rw [List.map_eq_nil_iff.1 h2] at h1
  exact h1
theorem up_ext : ∀ (a b : List Int), Up a → Up b → (∀ x, x ∈ a ↔ x ∈ b) → a = b
  | [], [], _, _, _ => rfl
  | [], y :: b, _, _, h => absurd ((h y).2 (by simp)) (by simp)
  | x :: a, [], _, _, h => absurd ((h x).1 (by simp)) (by simp)
  | x :: a, y :: b, ha, hb, h => by
    obtain ⟨a1, a2⟩ := List.pairwise_cons.1 ha
    obtain ⟨b1, b2⟩ := List.pairwise_cons.1 hb
    have e : x = y := by
      rcases List.mem_cons.1 ((h x).1 (by simp)) with e | e
      · exact e
      · rcases List.mem_cons.1 ((h y).2 (by simp)) with e' | e'
        · exact e'.symm
        · have := b1 x e; have := a1 y e'; omega
    subst e
    rw [up_ext a b a2 b2 (fun z => ⟨fun hz => ?_, fun hz => ?_⟩)]
    · rcases List.mem_cons.1 ((h z).1 (by simp [hz])) with e | e
      · have := a1 z hz; omega
      · exact e
    · rcases List.mem_cons.1 ((h z).2 (by simp [hz])) with e | e
      · have := b1 z hz; omega
      · exact e
theorem put_many {s : Tree} {x : Int} (he : addErr s x = 0) : (put s x).many = s.many + 1 := by
  unfold put
  rw [if_pos he]
  rcases add s.d s.t x with ⟨a, o⟩
  cases o <;> rfl
theorem fold_keys : ∀ (l : List Int) (s : Tree), s.OK → s.many + l.length ≤ 60 → ∀ x, x ∈ (l.foldl put s).keys ↔ x ∈ s.keys ∨ (x ∈ l ∧ 0 ≤ x ∧ x ≤ 1000)
  | [], s, _, _, x => by simp
  | y :: r, s, hO, hl, x => by
    rw [List.length_cons] at hl
    have ih := fold_keys r (put s y) (hO.put y)
    show x ∈ (r.foldl put (put s y)).keys ↔ _
    by_cases he : addErr s y = 0
    · have h1 := put_many he
      obtain ⟨h2, _⟩ := put_keys hO he
      obtain ⟨h3, _, _⟩ := addErr_zero he
      rw [ih (by omega) x, h2, mem_insS, List.mem_cons]
      constructor
      · rintro ((rfl | h) | ⟨h, h'⟩)
        · exact .inr ⟨.inl rfl, h3⟩
        · exact .inl h
        · exact .inr ⟨.inr h, h'⟩
      · rintro (h | ⟨rfl | h, h'⟩)
        · exact .inl (.inr h)
        · exact .inl (.inl rfl)
        · exact .inr ⟨h, h'⟩
    · have h1 : put s y = s := if_neg he
      rw [h1] at ih ⊢
      rw [ih (by omega) x, List.mem_cons]
      have h2 : (0 ≤ y ∧ y ≤ 1000) → y ∈ s.keys := fun hv => by
        unfold addErr at he
        rw [if_pos hv] at he
        by_cases hh : has s.d s.t y = true
        · rw [hO.has] at hh; simpa using hh
        · rw [if_neg hh, if_neg (by omega)] at he
          exact absurd rfl he
      constructor
      · rintro (h | ⟨h, h'⟩)
        · exact .inl h
        · exact .inr ⟨.inr h, h'⟩
      · rintro (h | ⟨rfl | h, h'⟩)
        · exact .inl h
        · exact .inl (h2 h')
        · exact .inr ⟨h, h'⟩
theorem grow_turned {l : List Int} (h : l.length ≤ 60) : (growAll l.reverse).keys = (growAll l).keys := by
  have h0 : (new.many : Nat) = 0 := rfl
  refine up_ext _ _ (foldl_ok _ _ new_ok).up (foldl_ok _ _ new_ok).up (fun x => ?_)
  unfold growAll
  rw [fold_keys _ _ new_ok (by rw [h0, List.length_reverse]; omega), fold_keys _ _ new_ok (by rw [h0]; omega), List.mem_reverse]
end Bt
end Go.Proofs.Ytokbhiokcoldbaa
