/- What the law LsmMerge says, in plain Lean: merged to one run, there are as many entries as keys. No program in sight. -/
import Derived.Test.YtokbhiokcoldbaaDoorLsModel2
namespace Go.Proofs.YtokbhiokcoldbaaDoor
namespace Ls

theorem up_snoc {l : List E} {e : E} (h : Up (l ++ [e])) : Up l ∧ ∀ y ∈ l, y.1 < e.1 := by
  unfold Up at h ⊢
  rw [List.map_append, List.pairwise_append] at h
  exact ⟨h.1, fun y hy => h.2.2 y.1 (List.mem_map.2 ⟨y, hy, rfl⟩) e.1 (by simp)⟩
/-- A table of distinct keys with values: each counts. -/
theorem scan_full : ∀ (l : List E), Up l → (∀ e ∈ l, ¬ e.2 < 0) → (scan l).2.length = l.length := by
  intro l
  refine snoc_ind (p := fun l => Up l → (∀ e ∈ l, ¬ e.2 < 0) → (scan l).2.length = l.length) (fun _ _ => rfl) (fun l e ih hu hn => ?_) l
  obtain ⟨h1, h2⟩ := up_snoc hu
  have h3 := ih h1 (fun y hy => hn y (by simp [hy]))
  have hno : e.1 ∉ (scan l).1 := fun hm => by
    have := ((scan_ok l).seen e.1).1 hm
    have hf : find e.1 l = none := by
      have : ∀ (m : List E), (∀ y ∈ m, y.1 < e.1) → find e.1 m = none := fun m => by
        induction m with
        | nil => intro _; rfl
        | cons y t ih =>
          intro hm
          rw [find, if_neg (by have := hm y (by simp); omega)]
          exact ih (fun z hz => hm z (by simp [hz]))
      exact this l h2
    rw [hf] at this
    cases this
  rw [scan_snoc, seenStep, if_neg hno]
  simp only [hn e (by simp), if_false, List.length_append, h3, List.length_cons, List.length_nil]
/-- Of one run alone, merged. -/
theorem keys_full {m : M} (h : OK m) (h0 : m.mem = []) {r : List E} (h1 : m.runs = [r]) (hn : ∀ e ∈ r, ¬ e.2 < 0) : (keys m).length = r.length := by
  unfold keys raw
  rw [(srt_perm _).length_eq, h0, h1]
  simp only [List.nil_append, List.flatten_cons, List.flatten_nil, List.append_nil]
  exact scan_full r (h.up r (by rw [h1]; simp)) hn
theorem keys_le1 {m : M} (h0 : m.mem = []) {r : List E} (h1 : m.runs = [r]) : (keys m).length ≤ r.length := by
  have := keys_len m
  rw [h0, h1] at this
  simpa using this
theorem keys_none {m : M} (h0 : m.mem = []) (h1 : m.runs = []) : (keys m).length = 0 := by
  have := keys_len m
  rw [h0, h1] at this
  simpa using this
theorem flush_mem (m : M) : (flush m).mem = [] := by
  unfold flush
  split
  · assumption
  · rfl
theorem merge_mem (m : M) : (merge m).mem = m.mem := by unfold merge; split <;> rfl
theorem merge_len {m : M} (h : 2 ≤ m.runs.length) : (merge m).runs.length = m.runs.length - 1 := by
  unfold merge
  rw [if_neg (by omega)]
  simp only [List.length_append, List.length_take, List.length_cons, List.length_nil]
  omega
theorem merge_sum (m : M) : (merge m).runs.flatten.length ≤ m.runs.flatten.length := by
  unfold merge
  by_cases h : m.runs.length < 2
  · rw [if_pos h]; exact Nat.le_refl _
  · rw [if_neg h]
    have e := split2 m.runs h
    have hl := merge2_len (m.runs.getD (m.runs.length - 2) []) (m.runs.getD (m.runs.length - 1) [])
    have := congrArg (fun x => x.flatten.length) e
    simp only [List.flatten_append, List.length_append, List.flatten_cons, List.flatten_nil, List.length_nil] at this ⊢
    omega
/-- The last run has values alone. -/
def Fl (m : M) : Prop := ∀ e ∈ m.runs.getLastD [], ¬ e.2 < 0
theorem merge_full {m : M} (h : 2 ≤ m.runs.length) : Fl (merge m) := by
  unfold Fl merge
  rw [if_neg (by omega)]
  simp only [List.getLastD_concat]
  intro e he
  unfold merge2 at he
  have := (List.mem_filter.1 he).2
  simpa using this
end Ls
end Go.Proofs.YtokbhiokcoldbaaDoor
