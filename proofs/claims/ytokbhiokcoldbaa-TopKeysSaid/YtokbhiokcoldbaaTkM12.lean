/- A store of a table and of runs (package lsm), in plain Lean: what it does, and that nothing is lost. No program in sight. -/
import Derived.Laws.CopyRow
import Derived.Test.YtokbhiokcoldbaaTkM02
import Derived.Test.YtokbhiokcoldbaaTkM10
import Derived.Test.YtokbhiokcoldbaaTkM11
namespace Go.Proofs.Ytokbhiokcoldbaa
namespace Ls

structure M where
  mem : List E
  runs : List (List E)
  many : Nat
def new : M := ⟨[], [], 0⟩
def flush (m : M) : M := if m.mem = [] then m else ⟨[], m.mem :: m.runs, m.many⟩
def put1 (m : M) (e : E) : M := ⟨set m.mem e, m.runs, m.many + 1⟩
def downErr (m : M) (e : E) : Int := if 0 ≤ e.1 ∧ e.1 ≤ 1000 then (if m.many = 60 then 4 else 0) else 1
def down (m : M) (e : E) : M := if downErr m e = 0 then (if (set m.mem e).length = 4 then flush (put1 m e) else put1 m e) else m
/-- The entry of the first table that has the key. -/
def look (k : Int) : List (List E) → Option Int
  | [] => none
  | l :: r => match find k l with
    | some x => some x
    | none => look k r
/-- A value, if it was not dropped. -/
def val : Option Int → Option Int
  | some v => if v < 0 then none else some v
  | none => none
def get (m : M) (k : Int) : Option Int := val (look k (m.mem :: m.runs))
def merge2 (a b : List E) : List E := (a.foldl set b).filter (fun e => !decide (e.2 < 0))
def merge (m : M) : M := if m.runs.length < 2 then m else ⟨m.mem, m.runs.take (m.runs.length - 2) ++ [merge2 (m.runs.getD (m.runs.length - 2) []) (m.runs.getD (m.runs.length - 1) [])], m.many⟩
def okE (e : E) : Prop := 0 ≤ e.1 ∧ e.1 ≤ 1000 ∧ -1 ≤ e.2 ∧ e.2 ≤ 1000
/-- What stands between the calls. -/
structure OK (m : M) : Prop where
  up : ∀ l ∈ m.mem :: m.runs, Up l
  es : ∀ l ∈ m.mem :: m.runs, ∀ e ∈ l, okE e
  mem : m.mem.length ≤ 3
  tot : m.mem.length + m.runs.flatten.length ≤ m.many
  len : m.mem.length + m.runs.length ≤ m.many
  many : m.many ≤ 60
  runs : ∀ i, i + 1 < m.runs.length → 1 ≤ (m.runs.getD i []).length ∧ (m.runs.getD i []).length ≤ 4
theorem new_ok : OK new := by
  refine ⟨?_, ?_, ?_, ?_, ?_, ?_, ?_⟩ <;> simp [new, Up]
theorem mem_set_of (e y : E) : ∀ (l : List E), y ∈ set l e → y = e ∨ y ∈ l := mem_set e y
theorem set_flat (l : List E) (e : E) : (set l e).length ≤ l.length + 1 := (set_len e l).2.1
theorem flush_ok {m : M} (h1 : ∀ l ∈ m.mem :: m.runs, Up l) (h2 : ∀ l ∈ m.mem :: m.runs, ∀ e ∈ l, okE e) (h3 : m.mem.length ≤ 4) (h4 : m.mem.length + m.runs.flatten.length ≤ m.many) (h5 : m.mem.length + m.runs.length ≤ m.many) (h6 : m.many ≤ 60)
    (h7 : ∀ i, i + 1 < m.runs.length → 1 ≤ (m.runs.getD i []).length ∧ (m.runs.getD i []).length ≤ 4) : OK (flush m) := by
  unfold flush
  by_cases h : m.mem = []
  · rw [if_pos h]
    exact ⟨h1, h2, by rw [h]; simp, h4, h5, h6, h7⟩
  · rw [if_neg h]
    have hp := List.length_pos_iff.2 h
    refine ⟨?_, ?_, by simp, ?_, ?_, h6, ?_⟩
    rotate_left 2
    · simp only [List.length_nil, List.flatten_cons, List.length_append]; omega
    · simp only [List.length_nil, List.length_cons]; omega
    rotate_right 2
    · intro l hl
      rcases List.mem_cons.1 hl with rfl | hl
      · simp [Up]
      · exact h1 l hl
    · intro l hl e he
      rcases List.mem_cons.1 hl with rfl | hl
      · simp at he
      · exact h2 l hl e he
    · intro i hi
      cases i with
      | zero => simp; omega
      | succ i => simpa using h7 i (by simpa using hi)
theorem OK.flush {m : M} (h : OK m) : OK (flush m) := flush_ok h.up h.es (by have := h.mem; omega) h.tot h.len h.many h.runs
theorem OK.put1 {m : M} (h : OK m) {e : E} (he : okE e) (hm : m.many < 60) :
    (∀ l ∈ (Ls.put1 m e).mem :: (Ls.put1 m e).runs, Up l) ∧ (∀ l ∈ (Ls.put1 m e).mem :: (Ls.put1 m e).runs, ∀ e ∈ l, okE e) ∧ (Ls.put1 m e).mem.length ≤ 4 ∧ (Ls.put1 m e).mem.length + (Ls.put1 m e).runs.flatten.length ≤ (Ls.put1 m e).many ∧
    (Ls.put1 m e).mem.length + (Ls.put1 m e).runs.length ≤ (Ls.put1 m e).many ∧ (Ls.put1 m e).many ≤ 60 ∧ ∀ i, i + 1 < (Ls.put1 m e).runs.length → 1 ≤ ((Ls.put1 m e).runs.getD i []).length ∧ ((Ls.put1 m e).runs.getD i []).length ≤ 4 := by
  have hs := set_len e m.mem
  have h1 := h.mem
  have h2 := h.tot
  have h3 := h.len
  unfold Ls.put1
  refine ⟨?_, ?_, by simp only; omega, by simp only; omega, by simp only; omega, by simp only; omega, h.runs⟩
  · intro l hl
    rcases List.mem_cons.1 hl with rfl | hl
    · exact up_set e _ (h.up _ (by simp))
    · exact h.up l (by simp [hl])
  · intro l hl y hy
    rcases List.mem_cons.1 hl with rfl | hl
    · rcases mem_set e y _ hy with rfl | hy
      · exact he
      · exact h.es _ (by simp) y hy
    · exact h.es l (by simp [hl]) y hy
theorem downErr_zero {m : M} {e : E} (h : downErr m e = 0) : (0 ≤ e.1 ∧ e.1 ≤ 1000) ∧ m.many ≠ 60 := by
  unfold downErr at h
  split at h
  · rename_i h1
    split at h
    · omega
    · rename_i h2
      exact ⟨h1, h2⟩
  · omega
theorem OK.down {m : M} (h : OK m) {e : E} (he : -1 ≤ e.2 ∧ e.2 ≤ 1000) : OK (down m e) := by
  unfold Ls.down
  split
  · rename_i h1
    obtain ⟨h2, h3⟩ := downErr_zero h1
    obtain ⟨q1, q2, q3, q4, q5, q6, q7⟩ := h.put1 (e := e) ⟨h2.1, h2.2, he.1, he.2⟩ (by have := h.many; omega)
    split
    · exact flush_ok q1 q2 q3 q4 q5 q6 q7
    · rename_i h4
      have : (set m.mem e).length ≤ 3 := by
        have : (Ls.put1 m e).mem.length = (set m.mem e).length := rfl
        omega
      exact ⟨q1, q2, this, q4, q5, q6, q7⟩
  · exact h
theorem look_flush (m : M) (k : Int) : look k ((flush m).mem :: (flush m).runs) = look k (m.mem :: m.runs) := by
  unfold flush
  split
  · rfl
  · simp [look, find]
theorem get_flush (m : M) (k : Int) : get (flush m) k = get m k := by unfold get; rw [look_flush]
theorem get_put1 (m : M) (e : E) (k : Int) : get (put1 m e) k = if e.1 = k then val (some e.2) else get m k := by
  unfold get put1
  simp only [look, find_set]
  by_cases h : e.1 = k
  · simp [h]
  · simp [h]
theorem get_down (m : M) (e : E) (k : Int) : get (down m e) k = if downErr m e = 0 ∧ e.1 = k then val (some e.2) else get m k := by
  unfold down
  by_cases h : downErr m e = 0
  · rw [if_pos h]
    have : (if e.1 = k then val (some e.2) else get m k) = if downErr m e = 0 ∧ e.1 = k then val (some e.2) else get m k := by simp [h]
    rw [← this, ← get_put1]
    split
    · exact get_flush _ _
    · rfl
  · simp [h]
/-! ### Two runs merged -/
theorem find_none_of (k : Int) : ∀ (l : List E), (∀ y ∈ l, k < y.1) → find k l = none
  | [], _ => rfl
  | y :: t, h => by
    rw [find, if_neg (by have := h y (by simp); omega)]
    exact find_none_of k t (fun z hz => h z (by simp [hz]))
theorem up_cons {x : E} {r : List E} (h : Up (x :: r)) : (∀ y ∈ r, x.1 < y.1) ∧ Up r := by
  rw [Up, List.map_cons, List.pairwise_cons] at h
  exact ⟨fun y hy => h.1 y.1 (List.mem_map.2 ⟨y, hy, rfl⟩), h.2⟩
theorem find_fold (k : Int) : ∀ (a b : List E), Up a → find k (a.foldl set b) = match find k a with | some x => some x | none => find k b
  | [], _, _ => rfl
  | e :: r, b, h => by
    obtain ⟨h1, h2⟩ := up_cons h
    rw [List.foldl_cons, find_fold k r (set b e) h2, find_set]
    by_cases he : e.1 = k
    · have : find k r = none := find_none_of k r (fun y hy => by have := h1 y hy; omega)
      simp [this, he, find]
    · simp [he, find]
theorem up_fold : ∀ (a b : List E), Up b → Up (a.foldl set b)
  | [], _, h => h
  | e :: r, b, h => up_fold r (set b e) (up_set e b h)
theorem mem_fold (y : E) : ∀ (a b : List E), y ∈ a.foldl set b → y ∈ a ∨ y ∈ b
  | [], _, h => .inr h
  | e :: r, b, h => by
    rcases mem_fold y r (set b e) h with h | h
    · exact .inl (by simp [h])
    · rcases mem_set e y b h with rfl | h
      · exact .inl (by simp)
      · exact .inr h
theorem len_fold : ∀ (a b : List E), (a.foldl set b).length ≤ a.length + b.length
  | [], b => by simp
  | e :: r, b => by
    have := len_fold r (set b e)
    have := set_len e b
    rw [List.foldl_cons, List.length_cons]
    omega
theorem up_filter (p : E → Bool) : ∀ (l : List E), Up l → Up (l.filter p)
  | [], h => h
  | x :: r, h => by
    obtain ⟨h1, h2⟩ := up_cons h
    have ih := up_filter p r h2
    rw [List.filter_cons]
    split
    · rw [Up, List.map_cons, List.pairwise_cons]
      refine ⟨fun k hk => ?_, ih⟩
      obtain ⟨y, hy, rfl⟩ := List.mem_map.1 hk
      exact h1 y (List.mem_filter.1 hy).1
    · exact ih
theorem find_filter (k : Int) : ∀ (l : List E), Up l → find k (l.filter (fun e => !decide (e.2 < 0))) = val (find k l)
  | [], _ => rfl
  | x :: r, h => by
    obtain ⟨h1, h2⟩ := up_cons h
    have ih := find_filter k r h2
    rw [List.filter_cons]
    by_cases hv : x.2 < 0
    · rw [if_neg (by simp [hv]), ih]
      by_cases hk : x.1 = k
      · have : find k r = none := find_none_of k r (fun y hy => by have := h1 y hy; omega)
        rw [this, find, if_pos hk]
        simp [val, hv]
      · rw [find, if_neg hk]
    · rw [if_pos (by simp [hv])]
      by_cases hk : x.1 = k
      · rw [find, if_pos hk, find, if_pos hk]
        simp [val, hv]
      · rw [find, if_neg hk, find, if_neg hk, ih]
theorem val_val (o : Option Int) : val (val o) = val o := by
  cases o with
  | none => rfl
  | some v =>
    unfold val
    by_cases h : v < 0
    · simp [h]
    · simp [h]
theorem look_append (k : Int) : ∀ (a b : List (List E)), look k (a ++ b) = match look k a with | some x => some x | none => look k b
  | [], _ => rfl
  | l :: r, b => by
    rw [List.cons_append, look, look, look_append k r b]
    cases find k l <;> rfl
theorem val_look_merge (k : Int) (f : List (List E)) (a b : List E) (ha : Up a) (hb : Up b) : val (look k (f ++ [merge2 a b])) = val (look k (f ++ [a, b])) := by
  rw [look_append, look_append]
  cases look k f with
  | some x => rfl
  | none =>
    have e : find k (merge2 a b) = val (match find k a with | some x => some x | none => find k b) := by
      unfold merge2
      rw [find_filter k _ (up_fold a b hb), find_fold k a b ha]
    simp only [look]
    rw [e]
    cases hx : find k a with
    | some x =>
      simp only
      cases hv : val (some x) with
      | none => simp [val]
      | some y =>
        have := val_val (some x)
        rw [hv] at this
        simpa using this
    | none =>
      simp only
      cases hb : find k b with
      | none => rfl
      | some x =>
        cases hv : val (some x) with
        | none => simp [val]
        | some y =>
          have := val_val (some x)
          rw [hv] at this
          simpa [hv] using this
theorem split2 {α : Type} (l : List (List α)) (h : ¬ l.length < 2) : l = l.take (l.length - 2) ++ [l.getD (l.length - 2) [], l.getD (l.length - 1) []] := by
  apply List.ext_getElem?
  intro i
  by_cases h1 : i < l.length - 2
  · rw [List.getElem?_append_left (by rw [List.length_take]; omega), List.getElem?_take, if_pos h1]
  · have hl : (l.take (l.length - 2)).length = l.length - 2 := by rw [List.length_take]; omega
    rw [List.getElem?_append_right (by omega), hl]
    by_cases h2 : i = l.length - 2
    · subst h2
      rw [Nat.sub_self]
      simp [List.getD, List.getElem?_eq_getElem (show l.length - 2 < l.length by omega)]
    · by_cases h3 : i = l.length - 1
      · subst h3
        rw [show l.length - 1 - (l.length - 2) = 1 by omega]
        simp [List.getD, List.getElem?_eq_getElem (show l.length - 1 < l.length by omega)]
      · rw [List.getElem?_eq_none (by omega), List.getElem?_eq_none (by simp; omega)]
theorem getD_mem {α : Type} (l : List (List α)) (i : Nat) (h : i < l.length) : l.getD i [] ∈ l := by
  simp [List.getD, List.getElem?_eq_getElem h]
theorem get_merge {m : M} (h : OK m) (k : Int) : get (merge m) k = get m k := by
  unfold merge
  by_cases h2 : m.runs.length < 2
  · rw [if_pos h2]
  · rw [if_neg h2]
    unfold get
    have e := split2 m.runs h2
    have ha := h.up _ (List.mem_cons_of_mem _ (getD_mem m.runs (m.runs.length - 2) (by omega)))
    have hb := h.up _ (List.mem_cons_of_mem _ (getD_mem m.runs (m.runs.length - 1) (by omega)))
    generalize m.runs.getD (m.runs.length - 2) [] = a at *
    generalize m.runs.getD (m.runs.length - 1) [] = b at *
    generalize m.runs.take (m.runs.length - 2) = f at *
    rw [e]
    exact val_look_merge k (m.mem :: f) a b ha hb
theorem merge2_len (a b : List E) : (merge2 a b).length ≤ a.length + b.length := Nat.le_trans (List.length_filter_le _ _) (len_fold a b)
theorem OK.merge {m : M} (h : OK m) : OK (merge m) := by
  unfold Ls.merge
  by_cases h2 : m.runs.length < 2
  · rw [if_pos h2]; exact h
  · rw [if_neg h2]
    have e := split2 m.runs h2
    have ha := getD_mem m.runs (m.runs.length - 2) (by omega)
    have hb := getD_mem m.runs (m.runs.length - 1) (by omega)
    have hr := h.runs
    have ht := h.tot
    have hn := h.len
    have hl : (m.runs.take (m.runs.length - 2)).length = m.runs.length - 2 := by rw [List.length_take]; omega
    have hfm : ∀ l ∈ m.runs.take (m.runs.length - 2), l ∈ m.runs := fun l hl => List.mem_of_mem_take hl
    have hg : ∀ i, i < m.runs.length - 2 → (m.runs.take (m.runs.length - 2)).getD i [] = m.runs.getD i [] := fun i hi => by
      simp only [List.getD, List.getElem?_take, hi, if_true]
    have hfl : m.runs.flatten.length = (m.runs.take (m.runs.length - 2)).flatten.length + (m.runs.getD (m.runs.length - 2) []).length + (m.runs.getD (m.runs.length - 1) []).length := by
      have := congrArg (fun x => x.flatten.length) e
      simp only [List.flatten_append, List.length_append, List.flatten_cons, List.flatten_nil, List.length_nil] at this
      omega
    generalize m.runs.getD (m.runs.length - 2) [] = a at *
    generalize m.runs.getD (m.runs.length - 1) [] = b at *
    generalize m.runs.take (m.runs.length - 2) = f at *
    have hml := merge2_len a b
    refine ⟨?_, ?_, h.mem, ?_, ?_, h.many, ?_⟩
    · intro l hl'
      simp only [List.mem_cons, List.mem_append, List.not_mem_nil, or_false] at hl'
      rcases hl' with rfl | hl' | rfl
      · exact h.up _ (by simp)
      · exact h.up _ (by simp [hfm l hl'])
      · exact up_filter _ _ (up_fold a b (h.up _ (by simp [hb])))
    · intro l hl' y hy
      simp only [List.mem_cons, List.mem_append, List.not_mem_nil, or_false] at hl'
      rcases hl' with rfl | hl' | rfl
      · exact h.es _ (by simp) y hy
      · exact h.es _ (by simp [hfm l hl']) y hy
      · rcases mem_fold y a b (List.mem_filter.1 hy).1 with hy | hy
        · exact h.es _ (by simp [ha]) y hy
        · exact h.es _ (by simp [hb]) y hy
    · simp only [List.flatten_append, List.length_append, List.flatten_cons, List.flatten_nil, List.length_nil]
      omega
    · simp only [List.length_append, List.length_cons, List.length_nil]
      omega
    · intro i hi
      simp only [List.length_append, List.length_cons, List.length_nil] at hi
      have hif : i < f.length := by omega
      have : (f ++ [merge2 a b]).getD i [] = f.getD i [] := by simp [List.getD, List.getElem?_append_left hif]
      simp only [this]
      rw [hg i (by omega)]
      exact hr i (by omega)
end Ls
end Go.Proofs.Ytokbhiokcoldbaa
/- The keys of a store of a table and of runs; what the laws say of it, in plain Lean. No program in sight. -/
namespace Go.Proofs.Ytokbhiokcoldbaa
namespace Ls

def seenStep (s : List Int × List Int) (e : E) : List Int × List Int := if e.1 ∈ s.1 then s else (e.1 :: s.1, if e.2 < 0 then s.2 else s.2 ++ [e.1])
def scan (l : List E) : List Int × List Int := l.foldl seenStep ([], [])
/-- Keys that have a value, as they are met. -/
def raw (m : M) : List Int := (scan (m.mem ++ m.runs.flatten)).2
theorem scan_snoc (l : List E) (e : E) : scan (l ++ [e]) = seenStep (scan l) e := by simp [scan]
theorem find_append (k : Int) : ∀ (a b : List E), find k (a ++ b) = match find k a with | some x => some x | none => find k b
  | [], _ => rfl
  | x :: r, b => by
    rw [List.cons_append, find, find, find_append k r b]
    by_cases h : x.1 = k
    · simp [h]
    · simp [h]
theorem find_flat (k : Int) : ∀ (ts : List (List E)), find k ts.flatten = look k ts
  | [] => rfl
  | l :: r => by rw [List.flatten_cons, find_append, look, find_flat k r] <;> rfl
structure ScanOK (l : List E) : Prop where
  seen : ∀ k, k ∈ (scan l).1 ↔ (find k l).isSome = true
  mem : ∀ k, k ∈ (scan l).2 ↔ (val (find k l)).isSome = true
  nodup : (scan l).2.Nodup
  len : (scan l).2.length ≤ l.length
theorem snoc_ind {p : List E → Prop} (h0 : p []) (h1 : ∀ l e, p l → p (l ++ [e])) (l : List E) : p l := by
  have : ∀ n (l : List E), l.length = n → p l := by
    intro n
    induction n with
    | zero => intro l hl; rw [List.eq_nil_of_length_eq_zero hl]; exact h0
    | succ n ih =>
      intro l hl
      have hne : l ≠ [] := fun h => by rw [h] at hl; simp at hl
      rw [← List.dropLast_concat_getLast hne]
      exact h1 _ _ (ih _ (by rw [List.length_dropLast, hl]; rfl))
  exact this _ l rfl
theorem scan_ok (l : List E) : ScanOK l := by
  refine snoc_ind ⟨fun k => by simp [scan, find], fun k => by simp [scan, find, val], by simp [scan], by simp [scan]⟩ (fun l e h => ?_) l
  obtain ⟨h1, h2, h3, h4⟩ := h
  have he := h1 e.1
  unfold seenStep at *
  have hfa : ∀ k, find k (l ++ [e]) = match find k l with | some x => some x | none => if e.1 = k then some e.2 else none := fun k => by rw [find_append]; simp [find]
  by_cases hs : e.1 ∈ (scan l).1
  · have hf := he.1 hs
    have hsc : scan (l ++ [e]) = scan l := by rw [scan_snoc]; unfold seenStep; rw [if_pos hs]
    have hfe : ∀ k, find k (l ++ [e]) = find k l := fun k => by
      rw [hfa]
      cases hk : find k l with
      | some x => rfl
      | none =>
        have : e.1 ≠ k := by rintro rfl; rw [hk] at hf; simp at hf
        simp [this]
    exact ⟨fun k => by rw [hsc, hfe]; exact h1 k, fun k => by rw [hsc, hfe]; exact h2 k, by rw [hsc]; exact h3, by rw [hsc, List.length_append]; omega⟩
  · have hn : find e.1 l = none := by
      cases hx : find e.1 l with
      | none => rfl
      | some x => exact absurd (he.2 (by rw [hx]; rfl)) hs
    have hsc : scan (l ++ [e]) = (e.1 :: (scan l).1, if e.2 < 0 then (scan l).2 else (scan l).2 ++ [e.1]) := by rw [scan_snoc]; unfold seenStep; rw [if_neg hs]
    have hno : e.1 ∉ (scan l).2 := fun hm => by have := (h2 e.1).1 hm; rw [hn] at this; simp [val] at this
    refine ⟨fun k => ?_, fun k => ?_, ?_, ?_⟩
    · rw [hsc, hfa, List.mem_cons, h1 k]
      by_cases hk : e.1 = k
      · subst hk; simp [hn]
      · have hk2 : ¬ k = e.1 := fun h => hk h.symm
        cases find k l <;> simp [hk, hk2]
    · rw [hsc, hfa]
      by_cases hk : e.1 = k
      · subst hk
        simp only [hn, if_true]
        by_cases hv : e.2 < 0
        · simp only [hv, if_true]
          constructor
          · intro hm; exact absurd hm hno
          · intro hm; simp [val, hv] at hm
        · simp [hv, val]
      · have e1 : k ∈ (if e.2 < 0 then (scan l).2 else (scan l).2 ++ [e.1]) ↔ k ∈ (scan l).2 := by
          split
          · exact Iff.rfl
          · simp [Ne.symm hk]
        simp only [e1, h2 k]
        cases find k l <;> simp [hk, val]
    · rw [hsc]
      simp only
      split
      · exact h3
      · rw [List.nodup_append]
        exact ⟨h3, by simp, fun a ha b hb => by simp only [List.mem_singleton] at hb; subst hb; rintro rfl; exact hno ha⟩
    · rw [hsc]
      simp only
      split
      · rw [List.length_append]; omega
      · simp only [List.length_append, List.length_cons, List.length_nil]; omega
theorem raw_mem (m : M) (k : Int) : k ∈ raw m ↔ (get m k).isSome = true := by
  unfold raw get
  rw [(scan_ok _).mem k, show m.mem ++ m.runs.flatten = (m.mem :: m.runs).flatten from rfl, find_flat]
theorem raw_nodup (m : M) : (raw m).Nodup := (scan_ok _).nodup
theorem raw_len (m : M) : (raw m).length ≤ m.mem.length + m.runs.flatten.length := by
  have := (scan_ok (m.mem ++ m.runs.flatten)).len
  rw [List.length_append] at this
  exact this
/-- The same numbers, sorted. -/
def srt (l : List Int) : List Int := l.mergeSort fun x y => decide (x ≤ y)
theorem srt_perm (l : List Int) : (srt l).Perm l := List.mergeSort_perm _ _
theorem srt_up (l : List Int) : (srt l).Pairwise (· ≤ ·) := by
  have := List.pairwise_mergeSort (le := fun (x y : Int) => decide (x ≤ y)) (fun a b c => by simp; omega) (fun a b => by simp; omega) l
  exact this.imp (fun h => by simpa using h)
theorem srt_strict {l : List Int} (h : l.Nodup) : (srt l).Pairwise (· < ·) := by
  have hn : (srt l).Nodup := (srt_perm l).nodup_iff.2 h
  exact ((srt_up l).and hn).imp (fun ⟨a, b⟩ => by omega)
theorem up_unique {a b : List Int} (ha : a.Pairwise (· < ·)) (hb : b.Pairwise (· < ·)) (h : ∀ k, k ∈ a ↔ k ∈ b) : a = b := by
  have na : a.Nodup := ha.imp (fun h => by omega)
  have nb : b.Nodup := hb.imp (fun h => by omega)
  have hp : a.Perm b := (List.perm_ext_iff_of_nodup na nb).2 h
  exact hp.eq_of_pairwise (fun x y _ _ h1 h2 => by omega) ha hb
def keys (m : M) : List Int := srt (raw m)
theorem keys_up (m : M) : (keys m).Pairwise (· < ·) := srt_strict (raw_nodup m)
theorem keys_mem (m : M) (k : Int) : k ∈ keys m ↔ (get m k).isSome = true := by
  unfold keys
  rw [(srt_perm _).mem_iff, raw_mem]
theorem keys_len (m : M) : (keys m).length ≤ m.mem.length + m.runs.flatten.length := by
  unfold keys
  rw [(srt_perm _).length_eq]
  exact raw_len m
theorem keys_same {m n : M} (h : ∀ k, get m k = get n k) : keys m = keys n := up_unique (keys_up m) (keys_up n) (fun k => by rw [keys_mem, keys_mem, h])
theorem keys_flush (m : M) : keys (flush m) = keys m := keys_same (get_flush m)
theorem keys_merge {m : M} (h : OK m) : keys (merge m) = keys m := keys_same (get_merge h)
end Ls
end Go.Proofs.Ytokbhiokcoldbaa

/- Rows of structs whose block is rewritten: an element loaded whole, stored whole; the row cut; its tail cleared. No program in sight. -/
namespace Go.Proofs.Ytokbhiokcoldbaa
open Go.RowKit
section
variable {α : Type} (E : Enc α)
theorem Enc.cells_part : ∀ (l : List α) (i : Nat) (h : i < l.length), ((E.cells l).drop (i * E.k)).take E.k = E.enc l[i]
  | [], i, h => by simp at h
  | a :: l, 0, h => by
    have e : E.cells (a :: l) = E.enc a ++ E.cells l := rfl
    rw [e, Nat.zero_mul, List.drop_zero, List.take_left' (E.len a)]
    rfl
  | a :: l, i + 1, h => by
    have e : E.cells (a :: l) = E.enc a ++ E.cells l := rfl
    rw [e, Nat.add_mul, Nat.one_mul, Nat.add_comm, ← List.drop_drop, List.drop_left' (E.len a)]
    exact Enc.cells_part l i (by simpa using h)
theorem Enc.cells_take (l : List α) (i : Nat) (h : i ≤ l.length) : (E.cells l).take (i * E.k) = E.cells (l.take i) := by
  have e : E.cells l = E.cells (l.take i) ++ E.cells (l.drop i) := by rw [← E.cells_append, List.take_append_drop]
  rw [e, List.take_left' (by rw [E.cells_len, List.length_take, Nat.min_eq_left h])]
/-- A block whose first cells are the row xs; there is room for cap elements. -/
def DfR (w : World) (e : TypeId) (g cap : Nat) (xs : List α) : Prop := ∃ cur, w.heap[g]? = some (.cells cur e (0, 0)) ∧ cur.size = cap * E.k ∧ xs.length ≤ cap ∧ cur.toList.take (xs.length * E.k) = E.cells xs
variable {E} {w w' : World} {e : TypeId} {g cap : Nat} {xs : List α}
theorem DfR.fr {S : List Nat} (h : DfR E w e g cap xs) (hf : Fr S w w') (hg : g ∉ S) : DfR E w' e g cap xs := by
  obtain ⟨cur, h1, h2⟩ := h
  exact ⟨cur, hf.get h1 hg, h2⟩
theorem DfR.cut (h : DfR E w e g cap xs) {n : Nat} (hn : n ≤ xs.length) : DfR E w e g cap (xs.take n) := by
  obtain ⟨cur, h1, h2, h3, h4⟩ := h
  refine ⟨cur, h1, h2, by rw [List.length_take]; omega, ?_⟩
  rw [List.length_take, Nat.min_eq_left hn, ← E.cells_take xs n hn, ← h4, List.take_take, Nat.min_eq_left (Nat.mul_le_mul_right _ hn)]
theorem DfR.own (h : DfR E w e g cap xs) (hm : cap ≤ maxLen) : OwnR E w 0 e (.slice (some ⟨g, 0, none⟩) xs.length cap) xs := by
  obtain ⟨cur, h1, h2, h3, h4⟩ := h
  exact ⟨E.cells_len xs, .inr ⟨g, cap, cur, rfl, Nat.zero_le _, h1, h3, hm, h2, h4⟩⟩
theorem DfR.room (h : DfR E w e g cap xs) {i : Nat} (hi : i < xs.length) : ∃ cur, w.heap[g]? = some (.cells cur e (0, 0)) ∧ i * E.k + E.k ≤ cur.size ∧ ((cur.toList.drop (i * E.k)).take E.k).toArray = (E.enc xs[i]).toArray := by
  obtain ⟨cur, h1, h2, h3, h4⟩ := h
  have hm := Nat.mul_le_mul_right E.k (Nat.succ_le_of_lt hi)
  have hm2 := Nat.mul_le_mul_right E.k h3
  rw [Nat.succ_mul] at hm
  refine ⟨cur, h1, by omega, ?_⟩
  have e1 := E.cells_part xs i hi
  rw [← h4, List.drop_take, List.take_take, Nat.min_eq_left (by omega)] at e1
  rw [e1]
/-- An element stored. -/
theorem DfR.put (h : DfR E w e g cap xs) {i : Nat} (hi : i < xs.length) (x : α) : ∃ cur new, w.heap[g]? = some (.cells cur e (0, 0)) ∧ i * E.k + E.k ≤ cur.size ∧ (cur.toList.take (i * E.k) ++ E.enc x ++ cur.toList.drop (i * E.k + E.k)).toArray = new ∧ DfR E (w.setRow g new) e g cap (xs.set i x) := by
  obtain ⟨cur, h1, h2, h3, h4⟩ := h
  have hm := Nat.mul_le_mul_right E.k (Nat.succ_le_of_lt hi)
  have hm2 := Nat.mul_le_mul_right E.k h3
  rw [Nat.succ_mul] at hm
  refine ⟨cur, _, h1, by omega, rfl, _, setRow_heap _ _ _ _ _ _ h1, ?_, by rw [List.length_set]; exact h3, ?_⟩
  · rw [List.size_toArray, List.length_append, List.length_append, List.length_take, List.length_drop, E.len, Array.length_toList, h2, Nat.min_eq_left (by omega)]
    omega
  · rw [List.length_set, ← E.cells_set xs i hi x, ← h4]
    have hl : (cur.toList.take (i * E.k)).length = i * E.k := by rw [List.length_take, Array.length_toList]; omega
    rw [List.take_take, Nat.min_eq_left (by omega), List.drop_take]
    rw [List.take_append, List.length_append, hl, E.len, List.take_of_length_le (l := cur.toList.take (i * E.k) ++ E.enc x) (by rw [List.length_append, hl, E.len]; omega)]
/-- What a row's end is cleared to: its front stays. -/
theorem DfR.clear (h : DfR E w e g cap xs) {i : Nat} (hi : i ≤ xs.length) (zs : List Value) (hz : zs.length = (xs.length - i) * E.k) : ∃ cur new, w.heap[g]? = some (.cells cur e (0, 0)) ∧ i * E.k + zs.length ≤ cur.size ∧ (cur.toList.take (i * E.k) ++ zs ++ cur.toList.drop (i * E.k + zs.length)).toArray = new ∧ DfR E (w.setRow g new) e g cap (xs.take i) := by
  obtain ⟨cur, h1, h2, h3, h4⟩ := h
  have hm := Nat.mul_le_mul_right E.k hi
  have hm2 := Nat.mul_le_mul_right E.k h3
  have hm3 : i * E.k + (xs.length - i) * E.k = xs.length * E.k := by rw [← Nat.add_mul]; congr 1; omega
  have hl : (cur.toList.take (i * E.k)).length = i * E.k := by rw [List.length_take, Array.length_toList]; omega
  refine ⟨cur, _, h1, by omega, rfl, _, setRow_heap _ _ _ _ _ _ h1, ?_, by rw [List.length_take]; omega, ?_⟩
  · simp only [List.size_toArray, List.length_append, hl, List.length_drop, Array.length_toList, h2]
    omega
  · rw [List.length_take, Nat.min_eq_left hi, List.append_assoc, List.take_left' hl, ← E.cells_take xs i hi, ← h4, List.take_take, Nat.min_eq_left hm]
end
/-- 'clear(s)' for a slice of structs. -/
theorem run_clear_part {P : Program} (w : World) (t e ty : TypeId) (z : Value) (k : Nat) (ht : P.underlying t = some (.slice e)) (hv : ∀ w, (zeroValue e).run P w = .ok z w) (hz : z.cells.size = k) (h1 : ∀ v ∈ z.cells.toList, v.oneCell' = true) (g o n c : Nat) (hn : 0 < n)
    (cur : Array Value) (hg : w.heap[g]? = some (.cells cur e (0, 0))) (hk : o + n * k ≤ cur.size) :
    ∃ zs : List Value, zs.length = n * k ∧ (Builtin.clear_ #[t] ty #[.slice (some ⟨g, o, none⟩) n c]).run P w = .ok (.tuple #[]) (w.setRow g (cur.toList.take o ++ zs ++ cur.toList.drop (o + zs.length)).toArray) := by
  have hlen : (Builtin.zeroCells z.cells n).toList.length = n * k := by simp [Builtin.zeroCells, hz]
  refine ⟨(Builtin.zeroCells z.cells n).toList, hlen, ?_⟩
  have hst := run_storeCells_at (P := P) g o e (Builtin.zeroCells z.cells n).toList 0 cur w hg (by rw [hlen]; simpa using hk) (fun v hv' => by
    simp only [Builtin.zeroCells, Array.toList_map, List.mem_map, Array.toList_range, List.mem_range] at hv'
    obtain ⟨i, hi, rfl⟩ := hv'
    have hpos : 0 < z.cells.size := Nat.pos_of_ne_zero (fun h0 => by rw [h0, Nat.mul_zero] at hi; omega)
    have hm := Nat.mod_lt i hpos
    rw [getElem!_pos z.cells _ hm]
    exact h1 _ (by simp))
  simp only [Nat.add_zero] at hst
  obtain ⟨m, rfl⟩ : ∃ m, n = m + 1 := ⟨n - 1, by omega⟩
  simp [Builtin.clear_, run_underlying ht, hv, hst]
end Go.Proofs.Ytokbhiokcoldbaa

/- set of package lsm: an entry laid into a table that rises. -/
namespace Go.Proofs.Ytokbhiokcoldbaa
open Go.RowKit

theorem ent_info : (Try.prog.info? 79).map (·.size) = some 2 := by kernel_rfl
set_option maxRecDepth 100000 in
set_option maxHeartbeats 4000000 in
theorem ls_set (w : World) (B : Nat) (v : Value) (l : List (Int × Int)) (k x : Int) (h : OwnR entE w B 79 v l) (hu : Ls.Up l) (hl : l.length ≤ 1000) (hB : B ≤ w.heap.size) :
    Calls Try.prog 57 #[v, .agg #[.int .i64 k, .int .i64 x]] w (InsAE w B v (Ls.set l (k, x))) := by
  obtain ⟨g0, -, hs⟩ := h.sl
  obtain ⟨w1, hw1⟩ : ∃ w1, w.alloc (.cells #[.int .i64 k, .int .i64 x] 79) = w1 := ⟨_, rfl⟩
  have hbx : w1.heap[w.heap.size]? = some (.cells #[.int .i64 k, .int .i64 x] 79 (0, 0)) := by rw [← hw1]; exact heap_alloc_new w _
  have hf1 : Fr [] w w1 := by rw [← hw1]; exact (Fr.refl _ _).alloc _
  have HBS := Lib.hid (ls_bs w1 v g0 l (k, x) (hs.fr hf1 (by simp)) hu (by omega))
  have HT := Lib.hid (Ls.set_there (k, x) l)
  have HN := Lib.hid (Ls.set_new (k, x) l)
  have hle := Ls.lb_le k l
  have HO := Lib.hid h
  have HBX := Lib.hid hbx
  have HF1 := Lib.hid hf1
  dsimp only at HBS HT HN
  obtain ⟨A, c, hv⟩ : ∃ A c, v = .slice A l.length c := by
    rcases h.2 with ⟨rfl, hn⟩ | ⟨g, cap, cur, rfl, _⟩
    · exact ⟨none, 0, by rw [hn]⟩
    · exact ⟨_, cap, rfl⟩
  subst hv
  have b0 : w1.cell? ⟨w.heap.size, 0, none⟩ = some (.int .i64 k) := by rw [cell_of_row _ _ _ _ _ _ hbx]; rfl
  have b1 : w1.cell? ⟨w.heap.size, 1, none⟩ = some (.int .i64 x) := by rw [cell_of_row _ _ _ _ _ _ hbx]; rfl
  clear h hs hbx hf1 hu
  go_enter Try.func57, Try.ntmps57
  go_wp2_with (rw [hw1])
  clear hw1
  have hl0 : (0 : Int) ≤ (Ls.lb k l : Nat) := by omega
  generalize hp : Ls.lb k l = p at *
  go_wp2_with fail
  refine useC HBS.out ?_
  rintro e' w2 ⟨⟨b, rfl, hb⟩, hf⟩
  have hbx2 := hf.get HBX.out (by simp)
  have c0 : w2.cell? ⟨w.heap.size, 0, none⟩ = some (.int .i64 k) := by rw [cell_of_row _ _ _ _ _ _ hbx2]; rfl
  have c1 : w2.cell? ⟨w.heap.size, 1, none⟩ = some (.int .i64 x) := by rw [cell_of_row _ _ _ _ _ _ hbx2]; rfl
  have hF2 := HF1.out.trans hf
  have hO2 := HO.out.kept hF2 (by simp)
  have HF2 := Lib.hid hF2
  have HO2 := Lib.hid hO2
  have hb2 := hF2.size
  clear hf hbx2 HBS b0 b1 hF2 hO2 HO HF1 HBX
  cases b with
  | true =>
    obtain ⟨hlt, he⟩ := hb.1 rfl
    have HE := Lib.hid (HT.out hlt he)
    have i1 : (p : Int) < l.length := by omega
    have hpl : p ≤ 100000 := by omega
    have ⟨ho1, ho2⟩ := HO2.out
    rcases ho2 with ⟨_, hn⟩ | ⟨g, cap, cur, e0, hbg, hg, hc, hm, hs, ht⟩
    · omega
    · injection e0 with e1 e2 e3
      subst e1 e3
      obtain ⟨cur', new, hg', hfit, hnew, hD⟩ := DfR.put (E := entE) (w := w2) (e := 79) (g := g) (cap := c) (xs := l) ⟨cur, hg, hs, hc, ht⟩ hlt (k, x)
      have HG := Lib.hid hg'
      have HNEW := Lib.hid hnew
      have HFI : Hid (InsAE w B (.slice (some ⟨g, 0, none⟩) l.length c) (Ls.set l (k, x)) (.returned (.slice (some ⟨g, 0, none⟩) l.length c)) (w2.setRow g new)) := by
        obtain ⟨cur2, d1, d2, d3, d4⟩ := hD
        refine ⟨⟨_, rfl, own_at d1 hbg (by rw [HE.out, List.length_set]) hc hm d2 ?_, .inl rfl⟩, ?_⟩
        · rw [HE.out, ← d4, List.length_set]
        · have hq := HF2.out
          exact ⟨hq.os, hq.tape, hq.output, by rw [setRow_size]; exact hq.size, fun q hq1 hq2 => (setRow_other w2 g q new (fun e => hq2 (by rw [e]; rfl))).trans (hq.block q hq1 (by simp))⟩
      have HFT : Hid (p * 2 + 2 ≤ cur'.size) := hfit
      clear hfit hnew hD hg' hg hs ht hm hc ho1 he hb HO2 HT HN HE HF2
      go_wp2_with (refine wpList_store_part rfl 79 _ _ rfl g (p * 2) #[.int .i64 k, .int .i64 x] rfl rfl _ cur' HG.out ent_info HFT.out (by simp [Value.oneCell']) new HNEW.out ?_)
      go_ret
      exact HFI.out
  | false =>
    have HE := Lib.hid (HN.out (fun hlt he => by have := hb.2 ⟨hlt, he⟩; cases this))
    have HI := Lib.hid (insE (w2.alloc (.cells #[.int .i64 k, .int .i64 x] 79)) B (.slice A l.length c) p l (k, x) w2.heap.size (HO2.out.alloc _) hle (heap_alloc_new w2 _) (fun e => by have := (HO2.out.ge _ e).2; omega) (by omega) (by simp; omega))
    have HF3 : Hid (Fr [] w (w2.alloc (.cells #[.int .i64 k, .int .i64 x] 79))) := HF2.out.alloc _
    clear hb HT HN HO2 HF2
    go_wp2_with (go_at_call 71; (with_reducible refine useC HI.out ?_); intro e3 w3 h3; have HA := Lib.hid (h3.of HF3.out); obtain ⟨⟨v', rfl, _, _⟩, _⟩ := h3)
    refine bodyPost_ret (v := v') (results_tmp (t := 4) rfl _ _ _) (by rfl) ?_
    rw [HE.out]
    exact HA.out
end Go.Proofs.Ytokbhiokcoldbaa
