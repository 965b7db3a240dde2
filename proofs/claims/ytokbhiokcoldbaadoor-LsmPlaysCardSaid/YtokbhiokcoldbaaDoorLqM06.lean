/- A store of a table and of runs (package lsm), in plain Lean: what it does, and that nothing is lost. No program in sight. -/

import Derived.Test.YtokbhiokcoldbaaDoorLqM03
namespace Go.Proofs.YtokbhiokcoldbaaDoor
namespace Ls

structure M where
  mem : List E
  runs : List (List E)
  many : Nat
def new : M := ⟨[], [], 0⟩
def flush (m : M) : M := if m.mem = [] then m else ⟨[], m.mem :: m.runs, m.many⟩
def put1 (m : M) (e : E) : M := ⟨set m.mem e, m.runs, m.many + 1⟩
def downErr (m : M) (e : E) : Int := if 0 ≤ e.1 ∧ e.1 ≤ 1000 then (if m.many = 60 then 4 else 0) else 1
def down (m : M) (e : E) : M := if downErr m e = 0 then (if (set m.mem e).length = 4 then flush (put1 m e) else put1 m e) else m
/-- The entry of the first table that has the key. -/
def look (k : Int) : List (List E) → Option Int
  | [] => none
  | l :: r => match find k l with
    | some x => some x
    | none => look k r
/-- A value, if it was not dropped. -/
def val : Option Int → Option Int
  | some v => if v < 0 then none else some v
  | none => none
def get (m : M) (k : Int) : Option Int := val (look k (m.mem :: m.runs))
def merge2 (a b : List E) : List E := (a.foldl set b).filter (fun e => !decide (e.2 < 0))
def merge (m : M) : M := if m.runs.length < 2 then m else ⟨m.mem, m.runs.take (m.runs.length - 2) ++ [merge2 (m.runs.getD (m.runs.length - 2) []) (m.runs.getD (m.runs.length - 1) [])], m.many⟩
def okE (e : E) : Prop := 0 ≤ e.1 ∧ e.1 ≤ 1000 ∧ -1 ≤ e.2 ∧ e.2 ≤ 1000
/-- What stands between the calls. -/
structure OK (m : M) : Prop where
  up : ∀ l ∈ m.mem :: m.runs, Up l
  es : ∀ l ∈ m.mem :: m.runs, ∀ e ∈ l, okE e
  mem : m.mem.length ≤ 3
  tot : m.mem.length + m.runs.flatten.length ≤ m.many
  len : m.mem.length + m.runs.length ≤ m.many
  many : m.many ≤ 60
  runs : ∀ i, i + 1 < m.runs.length → 1 ≤ (m.runs.getD i []).length ∧ (m.runs.getD i []).length ≤ 4
theorem new_ok : OK new := by
  refine ⟨?_, ?_, ?_, ?_, ?_, ?_, ?_⟩ <;> simp [new, Up]
theorem mem_set_of (e y : E) : ∀ (l : List E), y ∈ set l e → y = e ∨ y ∈ l := mem_set e y
theorem set_flat (l : List E) (e : E) : (set l e).length ≤ l.length + 1 := (set_len e l).2.1
theorem flush_ok {m : M} (h1 : ∀ l ∈ m.mem :: m.runs, Up l) (h2 : ∀ l ∈ m.mem :: m.runs, ∀ e ∈ l, okE e) (h3 : m.mem.length ≤ 4) (h4 : m.mem.length + m.runs.flatten.length ≤ m.many) (h5 : m.mem.length + m.runs.length ≤ m.many) (h6 : m.many ≤ 60)
    (h7 : ∀ i, i + 1 < m.runs.length → 1 ≤ (m.runs.getD i []).length ∧ (m.runs.getD i []).length ≤ 4) : OK (flush m) := by
  unfold flush
  by_cases h : m.mem = []
  · rw [if_pos h]
    exact ⟨h1, h2, by rw [h]; simp, h4, h5, h6, h7⟩
  · rw [if_neg h]
    have hp := List.length_pos_iff.2 h
    refine ⟨?_, ?_, by simp, ?_, ?_, h6, ?_⟩
    rotate_left 2
    · simp only [List.length_nil, List.flatten_cons, List.length_append]; omega
    · simp only [List.length_nil, List.length_cons]; omega
    rotate_right 2
    · intro l hl
      rcases List.mem_cons.1 hl with rfl | hl
      · simp [Up]
      · exact h1 l hl
    · intro l hl e he
      rcases List.mem_cons.1 hl with rfl | hl
      · simp at he
      · exact h2 l hl e he
    · intro i hi
      cases i with
      | zero => simp; omega
      | succ i => simpa using h7 i (by simpa using hi)
theorem OK.flush {m : M} (h : OK m) : OK (flush m) := flush_ok h.up h.es (by have := h.mem; omega) h.tot h.len h.many h.runs
theorem OK.put1 {m : M} (h : OK m) {e : E} (he : okE e) (hm : m.many < 60) :
    (∀ l ∈ (Ls.put1 m e).mem :: (Ls.put1 m e).runs, Up l) ∧ (∀ l ∈ (Ls.put1 m e).mem :: (Ls.put1 m e).runs, ∀ e ∈ l, okE e) ∧ (Ls.put1 m e).mem.length ≤ 4 ∧ (Ls.put1 m e).mem.length + (Ls.put1 m e).runs.flatten.length ≤ (Ls.put1 m e).many ∧
    (Ls.put1 m e).mem.length + (Ls.put1 m e).runs.length ≤ (Ls.put1 m e).many ∧ (Ls.put1 m e).many ≤ 60 ∧ ∀ i, i + 1 < (Ls.put1 m e).runs.length → 1 ≤ ((Ls.put1 m e).runs.getD i []).length ∧ ((Ls.put1 m e).runs.getD i []).length ≤ 4 := by
  have hs := set_len e m.mem
  have h1 := h.mem
  have h2 := h.tot
  have h3 := h.len
  unfold Ls.put1
  refine ⟨?_, ?_, by simp only; omega, by simp only; omega, by simp only; omega, by simp only; omega, h.runs⟩
  · intro l hl
    rcases List.mem_cons.1 hl with rfl | hl
    · exact up_set e _ (h.up _ (by simp))
    · exact h.up l (by simp [hl])
  · intro l hl y hy
    rcases List.mem_cons.1 hl with rfl | hl
    · rcases mem_set e y _ hy with rfl | hy
      · exact he
      · exact h.es _ (by simp) y hy
    · exact h.es l (by simp [hl]) y hy
theorem downErr_zero {m : M} {e : E} (h : downErr m e = 0) : (0 ≤ e.1 ∧ e.1 ≤ 1000) ∧ m.many ≠ 60 := by
  unfold downErr at h
  split at h
  · rename_i h1
    split at h
    · omega
    · rename_i h2
      exact ⟨h1, h2⟩
  · omega
theorem OK.down {m : M} (h : OK m) {e : E} (he : -1 ≤ e.2 ∧ e.2 ≤ 1000) : OK (down m e) := by
  unfold Ls.down
  split
  · rename_i h1
    obtain ⟨h2, h3⟩ := downErr_zero h1
    obtain ⟨q1, q2, q3, q4, q5, q6, q7⟩ := h.put1 (e := e) ⟨h2.1, h2.2, he.1, he.2⟩ (by have := h.many; omega)
    split
    · exact flush_ok q1 q2 q3 q4 q5 q6 q7
    · rename_i h4
      have : (set m.mem e).length ≤ 3 := by
        have : (Ls.put1 m e).mem.length = (set m.mem e).length := rfl
        omega
      exact ⟨q1, q2, this, q4, q5, q6, q7⟩
  · exact h
theorem look_flush (m : M) (k : Int) : look k ((flush m).mem :: (flush m).runs) = look k (m.mem :: m.runs) := by
  unfold flush
  split
  · rfl
  · simp [look, find]
theorem get_flush (m : M) (k : Int) : get (flush m) k = get m k := by unfold get; rw [look_flush]
theorem get_put1 (m : M) (e : E) (k : Int) : get (put1 m e) k = if e.1 = k then val (some e.2) else get m k := by
  unfold get put1
  simp only [look, find_set]
  by_cases h : e.1 = k
  · simp [h]
  · simp [h]
theorem get_down (m : M) (e : E) (k : Int) : get (down m e) k = if downErr m e = 0 ∧ e.1 = k then val (some e.2) else get m k := by
  unfold down
  by_cases h : downErr m e = 0
  · rw [if_pos h]
    have : (if e.1 = k then val (some e.2) else get m k) = if downErr m e = 0 ∧ e.1 = k then val (some e.2) else get m k := by simp [h]
    rw [← this, ← get_put1]
    split
    · exact get_flush _ _
    · rfl
  · simp [h]
/-! ### Two runs merged -/
theorem find_none_of (k : Int) : ∀ (l : List E), (∀ y ∈ l, k < y.1) → find k l = none
  | [], _ => rfl
  | y :: t, h => by
    rw [find, if_neg (by have := h y (by simp); omega)]
    exact find_none_of k t (fun z hz => h z (by simp [hz]))
theorem up_cons {x : E} {r : List E} (h : Up (x :: r)) : (∀ y ∈ r, x.1 < y.1) ∧ Up r := by
  rw [Up, List.map_cons, List.pairwise_cons] at h
  exact ⟨fun y hy => h.1 y.1 (List.mem_map.2 ⟨y, hy, rfl⟩), h.2⟩
theorem find_fold (k : Int) : ∀ (a b : List E), Up a → find k (a.foldl set b) = match find k a with | some x => some x | none => find k b
  | [], _, _ => rfl
  | e :: r, b, h => by
    obtain ⟨h1, h2⟩ := up_cons h
    rw [List.foldl_cons, find_fold k r (set b e) h2, find_set]
    by_cases he : e.1 = k
    · have : find k r = none := find_none_of k r (fun y hy => by have := h1 y hy; omega)
      simp [this, he, find]
    · simp [he, find]
theorem up_fold : ∀ (a b : List E), Up b → Up (a.foldl set b)
  | [], _, h => h
  | e :: r, b, h => up_fold r (set b e) (up_set e b h)
theorem mem_fold (y : E) : ∀ (a b : List E), y ∈ a.foldl set b → y ∈ a ∨ y ∈ b
  | [], _, h => .inr h
  | e :: r, b, h => by
    rcases mem_fold y r (set b e) h with h | h
    · exact .inl (by simp [h])
    · rcases mem_set e y b h with rfl | h
      · exact .inl (by simp)
      · exact .inr h
theorem len_fold : ∀ (a b : List E), (a.foldl set b).length ≤ a.length + b.length
  | [], b => by simp
  | e :: r, b => by
    have := len_fold r (set b e)
    have := set_len e b
    rw [List.foldl_cons, List.length_cons]
    omega
theorem up_filter (p : E → Bool) : ∀ (l : List E), Up l → Up (l.filter p)
  | [], h => h
  | x :: r, h => by
    obtain ⟨h1, h2⟩ := up_cons h
    have ih := up_filter p r h2
    rw [List.filter_cons]
    split
    · rw [Up, List.map_cons, List.pairwise_cons]
      refine ⟨fun k hk => ?_, ih⟩
      obtain ⟨y, hy, rfl⟩ := List.mem_map.1 hk
      exact h1 y (List.mem_filter.1 hy).1
    · exact ih
theorem find_filter (k : Int) : ∀ (l : List E), Up l → find k (l.filter (fun e => !decide (e.2 < 0))) = val (find k l)
  | [], _ => rfl
  | x :: r, h => by
    obtain ⟨h1, h2⟩ := up_cons h
    have ih := find_filter k r h2
    rw [List.filter_cons]
    by_cases hv : x.2 < 0
    · rw [if_neg (by simp [hv]), ih]
      by_cases hk : x.1 = k
      · have : find k r = none := find_none_of k r (fun y hy => by have := h1 y hy; omega)
        rw [this, find, if_pos hk]
        simp [val, hv]
      · rw [find, if_neg hk]
    · rw [if_pos (by simp [hv])]
      by_cases hk : x.1 = k
      · rw [find, if_pos hk, find, if_pos hk]
        simp [val, hv]
      · rw [find, if_neg hk, find, if_neg hk, ih]
theorem val_val (o : Option Int) : val (val o) = val o := by
  cases o with
  | none => rfl
  | some v =>
    unfold val
    by_cases h : v < 0
    · simp [h]
    · simp [h]
theorem look_append (k : Int) : ∀ (a b : List (List E)), look k (a ++ b) = match look k a with | some x => some x | none => look k b
  | [], _ => rfl
  | l :: r, b => by
    rw [List.cons_append, look, look, look_append k r b]
    cases find k l <;> rfl
theorem val_look_merge (k : Int) (f : List (List E)) (a b : List E) (ha : Up a) (hb : Up b) : val (look k (f ++ [merge2 a b])) = val (look k (f ++ [a, b])) := by
  rw [look_append, look_append]
  cases look k f with
  | some x => rfl
  | none =>
    have e : find k (merge2 a b) = val (match find k a with | some x => some x | none => find k b) := by
      unfold merge2
      rw [find_filter k _ (up_fold a b hb), find_fold k a b ha]
    simp only [look]
    rw [e]
    cases hx : find k a with
    | some x =>
      simp only
      cases hv : val (some x) with
      | none => simp [val]
      | some y =>
        have := val_val (some x)
        rw [hv] at this
        simpa using this
    | none =>
      simp only
      cases hb : find k b with
      | none => rfl
      | some x =>
        cases hv : val (some x) with
        | none => simp [val]
        | some y =>
          have := val_val (some x)
          rw [hv] at this
          simpa [hv] using this
theorem split2 {α : Type} (l : List (List α)) (h : ¬ l.length < 2) : l = l.take (l.length - 2) ++ [l.getD (l.length - 2) [], l.getD (l.length - 1) []] := by
  apply List.ext_getElem?
  intro i
  by_cases h1 : i < l.length - 2
  · rw [List.getElem?_append_left (by rw [List.length_take]; omega), List.getElem?_take, if_pos h1]
  · have hl : (l.take (l.length - 2)).length = l.length - 2 := by rw [List.length_take]; omega
    rw [List.getElem?_append_right (by omega), hl]
    by_cases h2 : i = l.length - 2
    · subst h2
      rw [Nat.sub_self]
      simp [List.getD, List.getElem?_eq_getElem (show l.length - 2 < l.length by omega)]
    · by_cases h3 : i = l.length - 1
      · subst h3
        rw [show l.length - 1 - (l.length - 2) = 1 by omega]
        simp [List.getD, List.getElem?_eq_getElem (show l.length - 1 < l.length by omega)]
      · rw [List.getElem?_eq_none (by omega), List.getElem?_eq_none (by simp; omega)]
theorem getD_mem {α : Type} (l : List (List α)) (i : Nat) (h : i < l.length) : l.getD i [] ∈ l := by
  simp [List.getD, List.getElem?_eq_getElem h]
theorem get_merge {m : M} (h : OK m) (k : Int) : get (merge m) k = get m k := by
  unfold merge
  by_cases h2 : m.runs.length < 2
  · rw [if_pos h2]
  · rw [if_neg h2]
    unfold get
    have e := split2 m.runs h2
    have ha := h.up _ (List.mem_cons_of_mem _ (getD_mem m.runs (m.runs.length - 2) (by omega)))
    have hb := h.up _ (List.mem_cons_of_mem _ (getD_mem m.runs (m.runs.length - 1) (by omega)))
    generalize m.runs.getD (m.runs.length - 2) [] = a at *
    generalize m.runs.getD (m.runs.length - 1) [] = b at *
    generalize m.runs.take (m.runs.length - 2) = f at *
    rw [e]
    exact val_look_merge k (m.mem :: f) a b ha hb
theorem merge2_len (a b : List E) : (merge2 a b).length ≤ a.length + b.length := Nat.le_trans (List.length_filter_le _ _) (len_fold a b)
theorem OK.merge {m : M} (h : OK m) : OK (merge m) := by
  unfold Ls.merge
  by_cases h2 : m.runs.length < 2
  · rw [if_pos h2]; exact h
  · rw [if_neg h2]
    have e := split2 m.runs h2
    have ha := getD_mem m.runs (m.runs.length - 2) (by omega)
    have hb := getD_mem m.runs (m.runs.length - 1) (by omega)
    have hr := h.runs
    have ht := h.tot
    have hn := h.len
    have hl : (m.runs.take (m.runs.length - 2)).length = m.runs.length - 2 := by rw [List.length_take]; omega
    have hfm : ∀ l ∈ m.runs.take (m.runs.length - 2), l ∈ m.runs := fun l hl => List.mem_of_mem_take hl
    have hg : ∀ i, i < m.runs.length - 2 → (m.runs.take (m.runs.length - 2)).getD i [] = m.runs.getD i [] := fun i hi => by
      simp only [List.getD, List.getElem?_take, hi, if_true]
    have hfl : m.runs.flatten.length = (m.runs.take (m.runs.length - 2)).flatten.length + (m.runs.getD (m.runs.length - 2) []).length + (m.runs.getD (m.runs.length - 1) []).length := by
      have := congrArg (fun x => x.flatten.length) e
      simp only [List.flatten_append, List.length_append, List.flatten_cons, List.flatten_nil, List.length_nil] at this
      omega
    generalize m.runs.getD (m.runs.length - 2) [] = a at *
    generalize m.runs.getD (m.runs.length - 1) [] = b at *
    generalize m.runs.take (m.runs.length - 2) = f at *
    have hml := merge2_len a b
    refine ⟨?_, ?_, h.mem, ?_, ?_, h.many, ?_⟩
    · intro l hl'
      simp only [List.mem_cons, List.mem_append, List.not_mem_nil, or_false] at hl'
      rcases hl' with rfl | hl' | rfl
      · exact h.up _ (by simp)
      · exact h.up _ (by simp [hfm l hl'])
      · exact up_filter _ _ (up_fold a b (h.up _ (by simp [hb])))
    · intro l hl' y hy
      simp only [List.mem_cons, List.mem_append, List.not_mem_nil, or_false] at hl'
      rcases hl' with rfl | hl' | rfl
      · exact h.es _ (by simp) y hy
      · exact h.es _ (by simp [hfm l hl']) y hy
      · rcases mem_fold y a b (List.mem_filter.1 hy).1 with hy | hy
        · exact h.es _ (by simp [ha]) y hy
        · exact h.es _ (by simp [hb]) y hy
    · simp only [List.flatten_append, List.length_append, List.flatten_cons, List.flatten_nil, List.length_nil]
      omega
    · simp only [List.length_append, List.length_cons, List.length_nil]
      omega
    · intro i hi
      simp only [List.length_append, List.length_cons, List.length_nil] at hi
      have hif : i < f.length := by omega
      have : (f ++ [merge2 a b]).getD i [] = f.getD i [] := by simp [List.getD, List.getElem?_append_left hif]
      simp only [this]
      rw [hg i (by omega)]
      exact hr i (by omega)
end Ls
end Go.Proofs.YtokbhiokcoldbaaDoor
/- The keys of a store of a table and of runs; what the laws say of it, in plain Lean. No program in sight. -/
namespace Go.Proofs.YtokbhiokcoldbaaDoor
namespace Ls

def seenStep (s : List Int × List Int) (e : E) : List Int × List Int := if e.1 ∈ s.1 then s else (e.1 :: s.1, if e.2 < 0 then s.2 else s.2 ++ [e.1])
def scan (l : List E) : List Int × List Int := l.foldl seenStep ([], [])
/-- Keys that have a value, as they are met. -/
def raw (m : M) : List Int := (scan (m.mem ++ m.runs.flatten)).2
theorem scan_snoc (l : List E) (e : E) : scan (l ++ [e]) = seenStep (scan l) e := by simp [scan]
theorem find_append (k : Int) : ∀ (a b : List E), find k (a ++ b) = match find k a with | some x => some x | none => find k b
  | [], _ => rfl
  | x :: r, b => by
    rw [List.cons_append, find, find, find_append k r b]
    by_cases h : x.1 = k
    · simp [h]
    · simp [h]
theorem find_flat (k : Int) : ∀ (ts : List (List E)), find k ts.flatten = look k ts
  | [] => rfl
  | l :: r => by rw [List.flatten_cons, find_append, look, find_flat k r] <;> rfl
structure ScanOK (l : List E) : Prop where
  seen : ∀ k, k ∈ (scan l).1 ↔ (find k l).isSome = true
  mem : ∀ k, k ∈ (scan l).2 ↔ (val (find k l)).isSome = true
  nodup : (scan l).2.Nodup
  len : (scan l).2.length ≤ l.length
theorem snoc_ind {p : List E → Prop} (h0 : p []) (h1 : ∀ l e, p l → p (l ++ [e])) (l : List E) : p l := by
  have : ∀ n (l : List E), l.length = n → p l := by
    intro n
    induction n with
    | zero => intro l hl; rw [List.eq_nil_of_length_eq_zero hl]; exact h0
    | succ n ih =>
      intro l hl
      have hne : l ≠ [] := fun h => by rw [h] at hl; simp at hl
      rw [← List.dropLast_concat_getLast hne]
      exact h1 _ _ (ih _ (by rw [List.length_dropLast, hl]; rfl))
  exact this _ l rfl
theorem scan_ok (l : List E) : ScanOK l := by
  refine snoc_ind ⟨fun k => by simp [scan, find], fun k => by simp [scan, find, val], by simp [scan], by simp [scan]⟩ (fun l e h => ?_) l
  obtain ⟨h1, h2, h3, h4⟩ := h
  have he := h1 e.1
  unfold seenStep at *
  have hfa : ∀ k, find k (l ++ [e]) = match find k l with | some x => some x | none => if e.1 = k then some e.2 else none := fun k => by rw [find_append]; simp [find]
  by_cases hs : e.1 ∈ (scan l).1
  · have hf := he.1 hs
    have hsc : scan (l ++ [e]) = scan l := by rw [scan_snoc]; unfold seenStep; rw [if_pos hs]
    have hfe : ∀ k, find k (l ++ [e]) = find k l := fun k => by
      rw [hfa]
      cases hk : find k l with
      | some x => rfl
      | none =>
        have : e.1 ≠ k := by rintro rfl; rw [hk] at hf; simp at hf
        simp [this]
    exact ⟨fun k => by rw [hsc, hfe]; exact h1 k, fun k => by rw [hsc, hfe]; exact h2 k, by rw [hsc]; exact h3, by rw [hsc, List.length_append]; omega⟩
  · have hn : find e.1 l = none := by
      cases hx : find e.1 l with
      | none => rfl
      | some x => exact absurd (he.2 (by rw [hx]; rfl)) hs
    have hsc : scan (l ++ [e]) = (e.1 :: (scan l).1, if e.2 < 0 then (scan l).2 else (scan l).2 ++ [e.1]) := by rw [scan_snoc]; unfold seenStep; rw [if_neg hs]
    have hno : e.1 ∉ (scan l).2 := fun hm => by have := (h2 e.1).1 hm; rw [hn] at this; simp [val] at this
    refine ⟨fun k => ?_, fun k => ?_, ?_, ?_⟩
    · rw [hsc, hfa, List.mem_cons, h1 k]
      by_cases hk : e.1 = k
      · subst hk; simp [hn]
      · have hk2 : ¬ k = e.1 := fun h => hk h.symm
        cases find k l <;> simp [hk, hk2]
    · rw [hsc, hfa]
      by_cases hk : e.1 = k
      · subst hk
        simp only [hn, if_true]
        by_cases hv : e.2 < 0
        · simp only [hv, if_true]
          constructor
          · intro hm; exact absurd hm hno
          · intro hm; simp [val, hv] at hm
        · simp [hv, val]
      · have e1 : k ∈ (if e.2 < 0 then (scan l).2 else (scan l).2 ++ [e.1]) ↔ k ∈ (scan l).2 := by
          split
          · exact Iff.rfl
          · simp [Ne.symm hk]
        simp only [e1, h2 k]
        cases find k l <;> simp [hk, val]
    · rw [hsc]
      simp only
      split
      · exact h3
      · rw [List.nodup_append]
        exact ⟨h3, by simp, fun a ha b hb => by simp only [List.mem_singleton] at hb; subst hb; rintro rfl; exact hno ha⟩
    · rw [hsc]
      simp only
      split
      · rw [List.length_append]; omega
      · simp only [List.length_append, List.length_cons, List.length_nil]; omega
theorem raw_mem (m : M) (k : Int) : k ∈ raw m ↔ (get m k).isSome = true := by
  unfold raw get
  rw [(scan_ok _).mem k, show m.mem ++ m.runs.flatten = (m.mem :: m.runs).flatten from rfl, find_flat]
theorem raw_nodup (m : M) : (raw m).Nodup := (scan_ok _).nodup
theorem raw_len (m : M) : (raw m).length ≤ m.mem.length + m.runs.flatten.length := by
  have := (scan_ok (m.mem ++ m.runs.flatten)).len
  rw [List.length_append] at this
  exact this
/-- The same numbers, sorted. -/
def srt (l : List Int) : List Int := l.mergeSort fun x y => decide (x ≤ y)
theorem srt_perm (l : List Int) : (srt l).Perm l := List.mergeSort_perm _ _
theorem srt_up (l : List Int) : (srt l).Pairwise (· ≤ ·) := by
  have := List.pairwise_mergeSort (le := fun (x y : Int) => decide (x ≤ y)) (fun a b c => by simp; omega) (fun a b => by simp; omega) l
  exact this.imp (fun h => by simpa using h)
theorem srt_strict {l : List Int} (h : l.Nodup) : (srt l).Pairwise (· < ·) := by
  have hn : (srt l).Nodup := (srt_perm l).nodup_iff.2 h
  exact ((srt_up l).and hn).imp (fun ⟨a, b⟩ => by omega)
theorem up_unique {a b : List Int} (ha : a.Pairwise (· < ·)) (hb : b.Pairwise (· < ·)) (h : ∀ k, k ∈ a ↔ k ∈ b) : a = b := by
  have na : a.Nodup := ha.imp (fun h => by omega)
  have nb : b.Nodup := hb.imp (fun h => by omega)
  have hp : a.Perm b := (List.perm_ext_iff_of_nodup na nb).2 h
  exact hp.eq_of_pairwise (fun x y _ _ h1 h2 => by omega) ha hb
def keys (m : M) : List Int := srt (raw m)
theorem keys_up (m : M) : (keys m).Pairwise (· < ·) := srt_strict (raw_nodup m)
theorem keys_mem (m : M) (k : Int) : k ∈ keys m ↔ (get m k).isSome = true := by
  unfold keys
  rw [(srt_perm _).mem_iff, raw_mem]
theorem keys_len (m : M) : (keys m).length ≤ m.mem.length + m.runs.flatten.length := by
  unfold keys
  rw [(srt_perm _).length_eq]
  exact raw_len m
theorem keys_same {m n : M} (h : ∀ k, get m k = get n k) : keys m = keys n := up_unique (keys_up m) (keys_up n) (fun k => by rw [keys_mem, keys_mem, h])
theorem keys_flush (m : M) : keys (flush m) = keys m := keys_same (get_flush m)
theorem keys_merge {m : M} (h : OK m) : keys (merge m) = keys m := keys_same (get_merge h)
end Ls
end Go.Proofs.YtokbhiokcoldbaaDoor
