/- The levels of a tree of keys, in plain Lean. -/
import Derived.Test.YtokbhiokcoldbaaBtLevel
namespace Go.Proofs.Ytokbhiokcoldbaa
namespace Bt

/-- Trees of one depth, with so many keys. -/
def OkD (n lo : Nat) (L : List Sub) : Prop := ∀ q ∈ L, q.1 = n ∧ Ok q.1 lo q.2
theorem okD_kids {n lo : Nat} {L : List Sub} (h : OkD (n + 1) lo L) : OkD n 2 (L.flatMap kidsOf) ∧ (L.flatMap kidsOf).length = ((L.map keysOf).map (fun l => l.length + 1)).sum := by
  induction L with
  | nil => exact ⟨fun q hq => by simp at hq, rfl⟩
  | cons s L ih =>
    obtain ⟨h1, h2⟩ := ih (fun q hq => h q (by simp [hq]))
    obtain ⟨e, ho⟩ := h s (by simp)
    obtain ⟨d, t⟩ := s
    obtain rfl : d = n + 1 := e
    refine ⟨fun q hq => ?_, ?_⟩
    · rw [List.flatMap_cons] at hq
      rcases List.mem_append.1 hq with hq | hq
      · obtain ⟨k, hk, rfl⟩ := List.mem_map.1 hq
        exact ⟨rfl, ho.2.2 k hk⟩
      · exact h1 q hq
    · rw [List.flatMap_cons, List.length_append, h2]
      simp only [List.map_cons, List.sum_cons]
      have h3 : (kidsOf ⟨n + 1, t⟩).length = t.2.length := by show (t.2.map _).length = _; rw [List.length_map]
      have h4 : t.2.length = t.1.length + 1 := ho.2.1
      have h5 : (keysOf ⟨n + 1, t⟩).length = t.1.length := rfl
      rw [h3, h4, h5]
theorem okD_leaf {lo : Nat} {L : List Sub} (h : OkD 0 lo L) : L.flatMap kidsOf = [] := by
  induction L with
  | nil => rfl
  | cons s L ih =>
    obtain ⟨e, _⟩ := h s (by simp)
    obtain ⟨d, t⟩ := s
    obtain rfl : d = 0 := e
    rw [List.flatMap_cons, ih (fun q hq => h q (by simp [hq]))]
    rfl
theorem lev_okd {s : Tree} (hO : s.OK) : ∀ k, k ≤ s.d → OkD (s.d - k) (if k = 0 then lowOf s.d else 2) (lev k [⟨s.d, s.t⟩])
  | 0, _ => fun q hq => by
    simp only [lev, List.mem_singleton] at hq
    subst hq
    exact ⟨rfl, hO.ok⟩
  | k + 1, hk => by
    have ih := lev_okd hO k (by omega)
    rw [lev_succ]
    obtain ⟨n, hn⟩ : ∃ n, s.d - k = n + 1 := ⟨s.d - k - 1, by omega⟩
    rw [hn] at ih
    have := (okD_kids ih).1
    rw [show s.d - (k + 1) = n by omega, if_neg (by omega)]
    exact this
theorem level_len0 (s : Tree) : level s 0 = [keysOf ⟨s.d, s.t⟩] := rfl
theorem level_high {s : Tree} (hO : s.OK) : level s (s.d + 1) = [] := by
  unfold level
  rw [lev_succ]
  have := lev_okd hO s.d (Nat.le_refl _)
  rw [Nat.sub_self] at this
  rw [okD_leaf this]
  rfl
theorem keys_four {d lo : Nat} {t : T d} (h : Ok d lo t) : lo ≤ (ks d t).length ∧ (ks d t).length ≤ 4 := by
  cases d with
  | zero => exact h
  | succ d => exact h.1
theorem level_sizes {s : Tree} (hO : s.OK) {k : Nat} (hk : k ≤ s.d) : ∀ l ∈ level s k, l.length ≤ 4 ∧ (k = 0 → lowOf s.d ≤ l.length) ∧ (0 < k → 2 ≤ l.length) := fun l hl => by
  obtain ⟨q, hq, rfl⟩ := List.mem_map.1 hl
  obtain ⟨_, ho⟩ := lev_okd hO k hk q hq
  obtain ⟨h1, h2⟩ := keys_four ho
  refine ⟨h2, fun h0 => ?_, fun h0 => ?_⟩
  · rw [if_pos h0] at h1; exact h1
  · rw [if_neg (by omega)] at h1; exact h1
theorem level_kids {s : Tree} (hO : s.OK) {k : Nat} (hk : k + 1 ≤ s.d) : (level s (k + 1)).length = ((level s k).map (fun l => l.length + 1)).sum := by
  have ih := lev_okd hO k (by omega)
  obtain ⟨n, hn⟩ : ∃ n, s.d - k = n + 1 := ⟨s.d - k - 1, by omega⟩
  rw [hn] at ih
  unfold level
  rw [List.length_map, lev_succ, (okD_kids ih).2]
theorem level_few {s : Tree} (hO : s.OK) (k : Nat) : (level s k).length ≤ 61 := by
  unfold level
  rw [List.length_map]
  have hw : ∀ k, ((lev k [⟨s.d, s.t⟩]).map wt).sum ≤ 61 ∧ OkL (lev k [⟨s.d, s.t⟩]) := fun k => by
    induction k with
    | zero =>
      refine ⟨?_, fun q hq => ?_⟩
      · show (all s.d s.t).length + 1 + 0 ≤ 61
        have h1 : (all s.d s.t).length = s.many := hO.len
        have := hO.many
        omega
      · simp only [lev, List.mem_singleton] at hq
        subst hq
        exact ⟨_, hO.ok⟩
    | succ k ih =>
      rw [lev_succ]
      exact ⟨Nat.le_trans (wt_flat ih.2) ih.1, okL_kids ih.2⟩
  exact Nat.le_trans (wt_len _) (hw k).1
/-- The tree that grows out of keys. -/
def growAll (l : List Int) : Tree := l.foldl put new
theorem foldl_ok : ∀ (l : List Int) (s : Tree), s.OK → (l.foldl put s).OK
  | [], _, h => h
  | x :: r, s, h => foldl_ok r (put s x) (h.put x)
def f5 : Tree := growAll [1, 2, 3, 4, 5]
theorem fact_err : addErr (growAll []) 1 = 0 ∧ addErr (growAll [1]) 2 = 0 ∧ addErr (growAll [1, 2]) 3 = 0 ∧ addErr (growAll [1, 2, 3]) 4 = 0 ∧ addErr (growAll [1, 2, 3, 4]) 5 = 0 := by decide
theorem fact_d : f5.d = 1 := by decide
theorem fact_l0 : level f5 0 = [[3]] := by decide
theorem fact_l1 : level f5 1 = [[1, 2], [4, 5]] := by decide
end Bt
end Go.Proofs.Ytokbhiokcoldbaa
