/- The keys of a store of a table and of runs; what the laws say of it, in plain Lean. No program in sight. -/
import Derived.Test.YtokbhiokcoldbaaDoorLsModel
namespace Go.Proofs.YtokbhiokcoldbaaDoor
namespace Ls

def seenStep (s : List Int × List Int) (e : E) : List Int × List Int := if e.1 ∈ s.1 then s else (e.1 :: s.1, if e.2 < 0 then s.2 else s.2 ++ [e.1])
def scan (l : List E) : List Int × List Int := l.foldl seenStep ([], [])
/-- Keys that have a value, as they are met. -/
def raw (m : M) : List Int := (scan (m.mem ++ m.runs.flatten)).2
theorem scan_snoc (l : List E) (e : E) : scan (l ++ [e]) = seenStep (scan l) e := by simp [scan]
theorem find_append (k : Int) : ∀ (a b : List E), find k (a ++ b) = match find k a with | some x => some x | none => find k b
  | [], _ => rfl
  | x :: r, b => by
    rw [List.cons_append, find, find, find_append k r b]
    by_cases h : x.1 = k
    · simp [h]
    · simp [h]
theorem find_flat (k : Int) : ∀ (ts : List (List E)), find k ts.flatten = look k ts
  | [] => rfl
  | l :: r => by rw [List.flatten_cons, find_append, look, find_flat k r]; rfl
structure ScanOK (l : List E) : Prop where
  seen : ∀ k, k ∈ (scan l).1 ↔ (find k l).isSome = true
  mem : ∀ k, k ∈ (scan l).2 ↔ (val (find k l)).isSome = true
  nodup : (scan l).2.Nodup
  len : (scan l).2.length ≤ l.length
theorem snoc_ind {p : List E → Prop} (h0 : p []) (h1 : ∀ l e, p l → p (l ++ [e])) (l : List E) : p l := by
  have : ∀ n (l : List E), l.length = n → p l := by
    intro n
    induction n with
    | zero => intro l hl; rw [List.eq_nil_of_length_eq_zero hl]; exact h0
    | succ n ih =>
      intro l hl
      have hne : l ≠ [] := fun h => by rw [h] at hl; simp at hl
      rw [← List.dropLast_concat_getLast hne]
      exact h1 _ _ (ih _ (by rw [List.length_dropLast, hl]; rfl))
  exact this _ l rfl
theorem scan_ok (l : List E) : ScanOK l := by
  refine snoc_ind ⟨fun k => by simp [scan, find], fun k => by simp [scan, find, val], by simp [scan], by simp [scan]⟩ (fun l e h => ?_) l
  obtain ⟨h1, h2, h3, h4⟩ := h
  have he := h1 e.1
  unfold seenStep at *
  have hfa : ∀ k, find k (l ++ [e]) = match find k l with | some x => some x | none => if e.1 = k then some e.2 else none := fun k => by rw [find_append]; simp [find]
  by_cases hs : e.1 ∈ (scan l).1
  · have hf := he.1 hs
    have hsc : scan (l ++ [e]) = scan l := by rw [scan_snoc]; unfold seenStep; rw [if_pos hs]
    have hfe : ∀ k, find k (l ++ [e]) = find k l := fun k => by
      rw [hfa]
      cases hk : find k l with
      | some x => rfl
      | none =>
        have : e.1 ≠ k := by rintro rfl; rw [hk] at hf; simp at hf
        simp [this]
    exact ⟨fun k => by rw [hsc, hfe]; exact h1 k, fun k => by rw [hsc, hfe]; exact h2 k, by rw [hsc]; exact h3, by rw [hsc, List.length_append]; omega⟩
  · have hn : find e.1 l = none := by
      cases hx : find e.1 l with
      | none => rfl
      | some x => exact absurd (he.2 (by rw [hx]; rfl)) hs
    have hsc : scan (l ++ [e]) = (e.1 :: (scan l).1, if e.2 < 0 then (scan l).2 else (scan l).2 ++ [e.1]) := by rw [scan_snoc]; unfold seenStep; rw [if_neg hs]
    have hno : e.1 ∉ (scan l).2 := fun hm => by have := (h2 e.1).1 hm; rw [hn] at this; simp [val] at this
    refine ⟨fun k => ?_, fun k => ?_, ?_, ?_⟩
    · rw [hsc, hfa, List.mem_cons, h1 k]
      by_cases hk : e.1 = k
      · subst hk; simp [hn]
      · have hk2 : ¬ k = e.1 := fun h => hk h.symm
        cases find k l <;> simp [hk, hk2]
    · rw [hsc, hfa]
      by_cases hk : e.1 = k
      · subst hk
        simp only [hn, if_true]
        by_cases hv : e.2 < 0
        · simp only [hv, if_true]
          constructor
          · intro hm; exact absurd hm hno
          · intro hm; simp [val, hv] at hm
        · simp [hv, val]
      · have e1 : k ∈ (if e.2 < 0 then (scan l).2 else (scan l).2 ++ [e.1]) ↔ k ∈ (scan l).2 := by
          split
          · exact Iff.rfl
          · simp [Ne.symm hk]
        simp only [e1, h2 k]
        cases find k l <;> simp [hk, val]
    · rw [hsc]
      simp only
      split
      · exact h3
      · rw [List.nodup_append]
        exact ⟨h3, by simp, fun a ha b hb => by simp only [List.mem_singleton] at hb; subst hb; rintro rfl; exact hno ha⟩
    · rw [hsc]
      simp only
      split
      · rw [List.length_append]; omega
      · simp only [List.length_append, List.length_cons, List.length_nil]; omega
theorem raw_mem (m : M) (k : Int) : k ∈ raw m ↔ (get m k).isSome = true := by
  unfold raw get
  rw [(scan_ok _).mem k, show m.mem ++ m.runs.flatten = (m.mem :: m.runs).flatten from rfl, find_flat]
theorem raw_nodup (m : M) : (raw m).Nodup := (scan_ok _).nodup
theorem raw_len (m : M) : (raw m).length ≤ m.mem.length + m.runs.flatten.length := by
  have := (scan_ok (m.mem ++ m.runs.flatten)).len
  rw [List.length_append] at this
  exact this
/-- The same numbers, sorted. -/
def srt (l : List Int) : List Int := l.mergeSort fun x y => decide (x ≤ y)
theorem srt_perm (l : List Int) : (srt l).Perm l := List.mergeSort_perm _ _
theorem srt_up (l : List Int) : (srt l).Pairwise (· ≤ ·) := by
  have := List.pairwise_mergeSort (le := fun (x y : Int) => decide (x ≤ y)) (fun a b c => by simp; omega) (fun a b => by simp; omega) l
  exact this.imp (fun h => by simpa using h)
theorem srt_strict {l : List Int} (h : l.Nodup) : (srt l).Pairwise (· < ·) := by
  have hn : (srt l).Nodup := (srt_perm l).nodup_iff.2 h
  exact ((srt_up l).and hn).imp (fun ⟨a, b⟩ => by omega)
theorem up_unique {a b : List Int} (ha : a.Pairwise (· < ·)) (hb : b.Pairwise (· < ·)) (h : ∀ k, k ∈ a ↔ k ∈ b) : a = b := by
  have na : a.Nodup := ha.imp (fun h => by omega)
  have nb : b.Nodup := hb.imp (fun h => by omega)
  have hp : a.Perm b := (List.perm_ext_iff_of_nodup na nb).2 h
  exact hp.eq_of_pairwise (fun x y _ _ h1 h2 => by omega) ha hb
def keys (m : M) : List Int := srt (raw m)
theorem keys_up (m : M) : (keys m).Pairwise (· < ·) := srt_strict (raw_nodup m)
theorem keys_mem (m : M) (k : Int) : k ∈ keys m ↔ (get m k).isSome = true := by
  unfold keys
  rw [(srt_perm _).mem_iff, raw_mem]
theorem keys_len (m : M) : (keys m).length ≤ m.mem.length + m.runs.flatten.length := by
  unfold keys
  rw [(srt_perm _).length_eq]
  exact raw_len m
theorem keys_same {m n : M} (h : ∀ k, get m k = get n k) : keys m = keys n := up_unique (keys_up m) (keys_up n) (fun k => by rw [keys_mem, keys_mem, h])
theorem keys_flush (m : M) : keys (flush m) = keys m := keys_same (get_flush m)
theorem keys_merge {m : M} (h : OK m) : keys (merge m) = keys m := keys_same (get_merge h)
end Ls
end Go.Proofs.YtokbhiokcoldbaaDoor
