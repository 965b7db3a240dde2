/- The plain law of a log's prefixes: what the same steps write, so far as n records go. No program in sight. -/
import Derived.Test.YtmhmbgkpojgbbaaDoorWlPlain
namespace Go.Proofs.YtmhmbgkpojgbbaaDoor.Wl

/-- The turns that have ended, in order. -/
def turns (l : List R) : List Int := (l.filter fun r => r.e).map fun r => r.t
theorem turns_has (l : List R) (t : Int) : hasB (turns l) t = ended l t := by
  unfold hasB turns ended
  rw [Bool.eq_iff_iff, List.contains_iff_mem, List.mem_map, List.any_eq_true]
  constructor
  · rintro ⟨r, h1, h2⟩
    obtain ⟨h3, h4⟩ := List.mem_filter.1 h1
    exact ⟨r, h3, by simp [h4, h2]⟩
  · rintro ⟨r, h1, h2⟩
    rw [Bool.and_eq_true] at h2
    exact ⟨r, List.mem_filter.2 ⟨h1, h2.1⟩, by simpa using h2.2⟩
theorem turns_snoc (l : List R) (r : R) : turns (l ++ [r]) = if r.e = true then turns l ++ [r.t] else turns l := by
  unfold turns
  rw [List.filter_append, List.map_append]
  by_cases h : r.e = true
  · rw [if_pos h, List.filter_cons_of_pos (by simpa using h)]; rfl
  · rw [if_neg h, List.filter_cons_of_neg (by simpa using h)]; simp
theorem turns_len (l : List R) : (turns l).length ≤ l.length := by
  unfold turns
  rw [List.length_map]
  exact List.length_filter_le _ _
theorem turns_last (l : List R) : turns (last l) = turns l := by
  unfold turns last
  rw [List.filter_filter]
  congr 1
  apply List.filter_congr
  intro r hr
  cases h : r.e with
  | false => rfl
  | true => rw [ended_mem hr h]; rfl

/-- What a step makes of the log. -/
def stepL (g : List R) (l : List Int) : List R :=
  if l.length = 1 then (if endErr g (nth l 0) = 0 then g ++ [⟨nth l 0, 0, 0, true⟩] else g)
  else if l.length = 3 then (if wrErr g (nth l 0) (nth l 1) (nth l 2) = 0 then g ++ [⟨nth l 0, nth l 1, nth l 2, false⟩] else g) else g
def runL (ls : List (List Int)) : Nat → List R
  | 0 => []
  | k + 1 => stepL (runL ls k) (nthR ls k)
theorem stepL_pre (g : List R) (l : List Int) : ∃ x, stepL g l = g ++ x ∧ x.length ≤ 1 := by
  unfold stepL
  split
  · split
    · exact ⟨_, rfl, Nat.le_refl _⟩
    · exact ⟨[], by simp, Nat.zero_le _⟩
  · split
    · split
      · exact ⟨_, rfl, Nat.le_refl _⟩
      · exact ⟨[], by simp, Nat.zero_le _⟩
    · exact ⟨[], by simp, Nat.zero_le _⟩
theorem runL_pre (ls : List (List Int)) (j : Nat) : ∀ k, j ≤ k → ∃ x, runL ls k = runL ls j ++ x
  | 0, h => ⟨[], by rw [show j = 0 by omega]; simp⟩
  | k + 1, h => by
    by_cases e : j = k + 1
    · exact ⟨[], by rw [e]; simp⟩
    · obtain ⟨x, hx⟩ := runL_pre ls j k (by omega)
      obtain ⟨y, hy, _⟩ := stepL_pre (runL ls k) (nthR ls k)
      exact ⟨x ++ y, by rw [runL, hy, hx, List.append_assoc]⟩
theorem runL_take (ls : List (List Int)) {j k n : Nat} (h : j ≤ k) (hn : (runL ls j).length = n) : (runL ls k).take n = runL ls j := by
  obtain ⟨x, hx⟩ := runL_pre ls j k h
  rw [hx, ← hn, List.take_left]
theorem runL_succ_len (ls : List (List Int)) (k : Nat) : (runL ls (k + 1)).length ≤ (runL ls k).length + 1 := by
  obtain ⟨x, hx, hl⟩ := stepL_pre (runL ls k) (nthR ls k)
  rw [runL, hx, List.length_append]
  omega
theorem write_log (d : D) (t b v : Int) : (write d t b v).1 = ⟨d.home, (if wrErr d.log t b v = 0 then d.log ++ [⟨t, b, v, false⟩] else d.log), d.syn⟩ ∧ (write d t b v).2 = wrErr d.log t b v := by
  unfold write
  split
  · rename_i h; exact ⟨rfl, h.symm⟩
  · exact ⟨rfl, rfl⟩
theorem end_log (d : D) (t : Int) : (end_ d t).1 = ⟨d.home, (if endErr d.log t = 0 then d.log ++ [⟨t, 0, 0, true⟩] else d.log), d.syn⟩ ∧ (end_ d t).2 = endErr d.log t := by
  unfold end_
  split
  · rename_i h; exact ⟨rfl, h.symm⟩
  · exact ⟨rfl, rfl⟩
/-- What the steps of 'logged' do. -/
def step (d : D) (l : List Int) : D := if l.length = 1 then (end_ d (nth l 0)).1 else if l.length = 3 then (write d (nth l 0) (nth l 1) (nth l 2)).1 else if l.length = 4 then sync d else d
theorem step_log (d : D) (l : List Int) : (step d l).log = stepL d.log l ∧ (step d l).home = d.home := by
  unfold step stepL
  split
  · rw [(end_log d (nth l 0)).1]; exact ⟨rfl, rfl⟩
  · split
    · rw [(write_log d _ _ _).1]; exact ⟨rfl, rfl⟩
    · split <;> exact ⟨rfl, rfl⟩
theorem step_ok {d : D} (h : OK d) (l : List Int) : OK (step d l) := by
  unfold step
  split
  · exact end_ok h _
  · split
    · exact write_ok h _ _ _
    · split
      · exact sync_ok h
      · exact h
def runD (ls : List (List Int)) : Nat → D
  | 0 => new
  | k + 1 => step (runD ls k) (nthR ls k)
theorem runD_log (ls : List (List Int)) : ∀ k, (runD ls k).log = runL ls k ∧ (runD ls k).home = List.replicate 8 0
  | 0 => ⟨rfl, rfl⟩
  | k + 1 => by
    obtain ⟨h1, h2⟩ := runD_log ls k
    obtain ⟨h3, h4⟩ := step_log (runD ls k) (nthR ls k)
    exact ⟨by rw [runD, h3, h1]; rfl, by rw [runD, h4, h2]⟩
theorem runD_ok (ls : List (List Int)) : ∀ k, OK (runD ls k)
  | 0 => new_ok
  | k + 1 => step_ok (runD_ok ls k) _
/-- The law: where the steps stop at n records, the values are those of the log's front. -/
theorem atomic (ls : List (List Int)) {k K n : Nat} (hk : k ≤ K) (hn : (runL ls k).length = n) (d : D) (hd : d.log = runL ls K) : vals d.home (d.log.take n) (d.log.take n).length = vals d.home (runL ls k) (runL ls k).length := by
  rw [hd, runL_take ls hk hn]
end Go.Proofs.YtmhmbgkpojgbbaaDoor.Wl
