/- Paths in plain Lean: a text cut at its slashes, names, what is left of a path. No program in sight. -/
import Derived.Lib.Strings
import Derived.Lib.Bytealg
import Derived.Lib.Join
import Derived.WalkKit
namespace Go.Proofs.YtnglhfeialomgaaDoor
namespace Pa

def mk (l : List UInt8) : ByteArray := ⟨l.toArray⟩
theorem mk_list (l : List UInt8) : (mk l).data.toList = l := by simp [mk]
theorem mk_of (s : ByteArray) : mk s.data.toList = s := Lib.mk_data s
theorem mk_size (l : List UInt8) : (mk l).size = l.length := by rw [Lib.size_eq, mk_list]
theorem mk_inj {a b : List UInt8} (h : mk a = mk b) : a = b := by
  have := congrArg (fun s => s.data.toList) h
  simpa [mk] using this
/-- A text cut at its slashes. -/
def cut : List UInt8 → List (List UInt8)
  | [] => [[]]
  | b :: l => if b = 47 then [] :: cut l else (b :: (cut l).headD []) :: (cut l).tail
theorem cut_cons (b : UInt8) (l : List UInt8) : cut (b :: l) = if b = 47 then [] :: cut l else (b :: (cut l).headD []) :: (cut l).tail := by rw [cut]
theorem cut_ne (l : List UInt8) : cut l ≠ [] := by
  cases l with
  | nil => simp [cut]
  | cons b l => unfold cut; split <;> simp
theorem cut_none : ∀ (l : List UInt8), 47 ∉ l → cut l = [l]
  | [], _ => rfl
  | b :: l, h => by
    have h1 : b ≠ 47 := fun e => h (by simp [e])
    have h2 := cut_none l (fun e => h (by simp [e]))
    rw [cut_cons, if_neg h1, h2]
    rfl
theorem cut_some (q : List UInt8) : ∀ (p : List UInt8), 47 ∉ p → cut (p ++ 47 :: q) = p :: cut q
  | [], _ => by simp [cut]
  | b :: p, h => by
    have h1 : b ≠ 47 := fun e => h (by simp [e])
    have h2 := cut_some q p (fun e => h (by simp [e]))
    rw [List.cons_append]
    rw [cut_cons, if_neg h1, h2]
    rfl
theorem cut_join : ∀ (p q : List UInt8), cut (p ++ 47 :: q) = cut p ++ cut q
  | [], q => by simp [cut]
  | b :: p, q => by
    rw [List.cons_append, cut_cons, cut_cons]
    by_cases hb : b = 47
    · rw [if_pos hb, if_pos hb, cut_join p q]; rfl
    · rw [if_neg hb, if_neg hb, cut_join p q]
      obtain ⟨x, t, hx⟩ : ∃ x t, cut p = x :: t := by
        cases h : cut p with
        | nil => exact absurd h (cut_ne p)
        | cons x t => exact ⟨x, t, rfl⟩
      rw [hx]; rfl
/-- How long a list of names is, with a slash ahead of each. -/
def long (ps : List (List UInt8)) : Nat := (ps.map fun p => p.length + 1).sum
theorem long_nil : long [] = 0 := rfl
theorem long_cons (p : List UInt8) (ps : List (List UInt8)) : long (p :: ps) = p.length + 1 + long ps := by simp [long]
theorem long_append (a b : List (List UInt8)) : long (a ++ b) = long a + long b := by simp [long]
theorem long_cut : ∀ (l : List UInt8), long (cut l) = l.length + 1
  | [] => rfl
  | b :: l => by
    have ih := long_cut l
    rw [cut_cons]
    split
    · rw [long_cons, ih]; simp; omega
    · obtain ⟨x, t, hx⟩ : ∃ x t, cut l = x :: t := by
        cases h : cut l with
        | nil => exact absurd h (cut_ne l)
        | cons x t => exact ⟨x, t, rfl⟩
      rw [hx] at ih ⊢
      rw [long_cons] at ih ⊢
      simp only [List.headD_cons, List.tail_cons, List.length_cons] at *
      omega
theorem len_long : ∀ (ps : List (List UInt8)), ps.length ≤ long ps
  | [] => Nat.zero_le _
  | p :: ps => by
    have := len_long ps
    rw [long_cons, List.length_cons]
    omega
theorem cut_len (l : List UInt8) : (cut l).length ≤ l.length + 1 := by rw [← long_cut]; exact len_long _
def IsName (l : List UInt8) : Prop := 1 ≤ l.length ∧ l.length ≤ 4 ∧ ∀ b ∈ l, 97 ≤ b.toNat ∧ b.toNat ≤ 122
instance (l : List UInt8) : Decidable (IsName l) := inferInstanceAs (Decidable (_ ∧ _ ∧ _))
theorem IsName.no47 {l : List UInt8} (h : IsName l) : 47 ∉ l := fun hm => by have := (h.2.2 47 hm).1; simp at this
theorem IsName.ne {l : List UInt8} (h : IsName l) : ¬ (l = [] ∨ l = [46]) ∧ l ≠ [46, 46] := by
  refine ⟨fun h' => ?_, fun h' => ?_⟩
  · rcases h' with rfl | rfl
    · have := h.1; simp at this
    · have := (h.2.2 46 (by simp)).1; simp at this
  · subst h'; have := (h.2.2 46 (by simp)).1; simp at this
/-- A further piece of the path. -/
def step (o : Option (List (List UInt8))) (p : List UInt8) : Option (List (List UInt8)) :=
  match o with
  | none => none
  | some l => if p = [] ∨ p = [46] then some l else if p = [46, 46] then some l.dropLast else if IsName p then some (l ++ [p]) else none
def run (l : List (List UInt8)) (ps : List (List UInt8)) : Option (List (List UInt8)) := ps.foldl step (some l)
theorem step_none : ∀ (ps : List (List UInt8)), ps.foldl step none = none
  | [] => rfl
  | _ :: ps => step_none ps
theorem run_append (l a b : List (List UInt8)) : run l (a ++ b) = (run l a).elim none (fun m => run m b) := by
  unfold run
  rw [List.foldl_append]
  cases a.foldl step (some l) with
  | none => exact step_none b
  | some m => rfl
theorem run_cons (l : List (List UInt8)) (p : List UInt8) (ps : List (List UInt8)) : run l (p :: ps) = (step (some l) p).elim none (fun m => run m ps) := by
  unfold run
  rw [List.foldl_cons]
  cases step (some l) p with
  | none => exact step_none ps
  | some m => rfl
theorem step_skip {p : List UInt8} (h : p = [] ∨ p = [46]) (l : List (List UInt8)) : step (some l) p = some l := if_pos h
theorem step_up (l : List (List UInt8)) : step (some l) [46, 46] = some l.dropLast := by unfold step; dsimp only; rw [if_neg (by decide), if_pos rfl]
theorem step_name {p : List UInt8} (h : IsName p) (l : List (List UInt8)) : step (some l) p = some (l ++ [p]) := by unfold step; dsimp only; rw [if_neg h.ne.1, if_neg h.ne.2, if_pos h]
theorem step_bad {p : List UInt8} (h1 : ¬ (p = [] ∨ p = [46])) (h2 : p ≠ [46, 46]) (h3 : ¬ IsName p) (l : List (List UInt8)) : step (some l) p = none := by unfold step; dsimp only; rw [if_neg h1, if_neg h2, if_neg h3]
/-- What a run keeps: all are names, and no more letters than came. -/
theorem run_ok : ∀ (ps l m : List (List UInt8)), (∀ p ∈ l, IsName p) → run l ps = some m → (∀ p ∈ m, IsName p) ∧ long m ≤ long l + long ps
  | [], l, m, hl, h => by
    injection h with h
    subst h
    exact ⟨hl, by simp [long]⟩
  | p :: ps, l, m, hl, h => by
    rw [run_cons] at h
    rw [long_cons]
    by_cases h1 : p = [] ∨ p = [46]
    · rw [step_skip h1] at h
      obtain ⟨a, b⟩ := run_ok ps l m hl h
      exact ⟨a, by omega⟩
    · by_cases h2 : p = [46, 46]
      · subst h2
        rw [step_up] at h
        obtain ⟨a, b⟩ := run_ok ps l.dropLast m (fun q hq => hl q (List.dropLast_subset l hq)) h
        refine ⟨a, ?_⟩
        have : long l.dropLast ≤ long l := by
          cases hl' : l.reverse with
          | nil => have : l = [] := by simpa using hl'
                   subst this; simp
          | cons x t =>
            have : l = t.reverse ++ [x] := by rw [← List.reverse_reverse l, hl']; simp
            subst this
            rw [List.dropLast_concat, long_append]; omega
        omega
      · by_cases h3 : IsName p
        · rw [step_name h3] at h
          obtain ⟨a, b⟩ := run_ok ps (l ++ [p]) m (fun q hq => by
            rcases List.mem_append.1 hq with hq | hq
            · exact hl q hq
            · simp at hq; subst hq; exact h3) h
          refine ⟨a, ?_⟩
          rw [long_append, long_cons, long_nil] at b
          omega
        · rw [step_bad h1 h2 h3] at h
          cases h
theorem run_names : ∀ (ps l : List (List UInt8)), (∀ p ∈ ps, IsName p) → run l ps = some (l ++ ps)
  | [], l, _ => by simp [run]
  | p :: ps, l, h => by
    rw [run_cons, step_name (h p (by simp))]
    show run (l ++ [p]) ps = _
    rw [run_names ps _ (fun q hq => h q (by simp [hq]))]
    simp
/-- The names of a path, what is wrong. -/
def parts (s : List UInt8) : List (List UInt8) × Int :=
  if 60 < s.length then ([], 4) else if s.head? = some 47 then (match run [] (cut s.tail) with | none => ([], 2) | some l => if 8 < l.length then ([], 4) else (l, 0)) else ([], 2)
/-- The path of names. -/
def shown (l : List (List UInt8)) : List UInt8 := if l = [] then [47] else l.flatMap (fun p => 47 :: p)
theorem flat_len (l : List (List UInt8)) : (l.flatMap (fun p => (47 : UInt8) :: p)).length = long l := by
  induction l with
  | nil => rfl
  | cons a l ih => rw [List.flatMap_cons, List.length_append, ih, long_cons]; rfl
theorem cut_flat : ∀ (l : List (List UInt8)), (∀ p ∈ l, IsName p) → ∀ p, IsName p → cut (p ++ l.flatMap (fun p => (47 : UInt8) :: p)) = p :: l
  | [], _, p, hp => by rw [List.flatMap_nil, List.append_nil, cut_none _ hp.no47]
  | q :: l, h, p, hp => by
    rw [List.flatMap_cons, List.cons_append, cut_some _ _ hp.no47, cut_flat l (fun r hr => h r (by simp [hr])) q (h q (by simp))]
theorem shown_cut {l : List (List UInt8)} (h : ∀ p ∈ l, IsName p) : run [] (cut (shown l).tail) = some l := by
  unfold shown
  cases l with
  | nil => rfl
  | cons p l =>
    rw [if_neg (by simp), List.flatMap_cons, List.cons_append, List.tail_cons, cut_flat l (fun r hr => h r (by simp [hr])) p (h p (by simp)), run_names _ _ h]
    rfl
theorem shown_head (l : List (List UInt8)) : (shown l).head? = some 47 := by
  unfold shown
  split
  · rfl
  · cases l with
    | nil => contradiction
    | cons p l => rfl
theorem head_tail {s : List UInt8} (h : s.head? = some 47) : s = 47 :: s.tail := by
  cases s with
  | nil => cases h
  | cons b l => injection h with h; subst h; rfl
theorem parts_ok {s : List UInt8} {l : List (List UInt8)} (h : parts s = (l, 0)) : s.length ≤ 60 ∧ s.head? = some 47 ∧ run [] (cut s.tail) = some l ∧ l.length ≤ 8 := by
  unfold parts at h
  split at h
  · injection h with _ h; cases h
  · rename_i h0
    split at h
    · rename_i h1
      split at h
      · injection h with _ h; cases h
      · rename_i m hm
        split at h
        · injection h with _ h; cases h
        · rename_i h8
          injection h with h _
          subst h
          exact ⟨by omega, h1, hm, by omega⟩
    · injection h with _ h; cases h
theorem parts_of {s : List UInt8} {l : List (List UInt8)} (h0 : s.length ≤ 60) (h1 : s.head? = some 47) (h2 : run [] (cut s.tail) = some l) (h3 : l.length ≤ 8) : parts s = (l, 0) := by
  unfold parts
  rw [if_neg (by omega), if_pos h1, h2]
  exact if_neg (by omega)
theorem parts_err {s : List UInt8} (h : (parts s).2 ≠ 0) : (parts s).1 = [] := by
  have : (parts s).2 = 0 ∨ (parts s).1 = [] := by
    unfold parts
    split
    · exact .inr rfl
    · split
      · split
        · exact .inr rfl
        · split
          · exact .inr rfl
          · exact .inl rfl
      · exact .inr rfl
  exact this.resolve_left h
theorem parts_names {s : List UInt8} {l : List (List UInt8)} (h : parts s = (l, 0)) : ∀ p ∈ l, IsName p := (run_ok (cut s.tail) [] l (by simp) (parts_ok h).2.2.1).1
theorem shown_le {s : List UInt8} {l : List (List UInt8)} (h : parts s = (l, 0)) : (shown l).length ≤ s.length := by
  obtain ⟨h0, h1, h2, h3⟩ := parts_ok h
  have h4 := (run_ok (cut s.tail) [] l (by simp) h2).2
  have hl : s.length = s.tail.length + 1 := by
    obtain ⟨t, ht⟩ : ∃ t, s = 47 :: t := ⟨_, head_tail h1⟩
    subst ht; simp
  rw [long_cut, long_nil] at h4
  unfold shown
  split
  · simp; omega
  · rw [flat_len]; omega
/-- What Clean hands back reads as it did. -/
theorem parts_shown {s : List UInt8} {l : List (List UInt8)} (h : parts s = (l, 0)) : parts (shown l) = (l, 0) :=
  parts_of (Nat.le_trans (shown_le h) (parts_ok h).1) (shown_head l) (shown_cut (parts_names h)) (parts_ok h).2.2.2
/-- One up. -/
theorem parts_up {s : List UInt8} {l : List (List UInt8)} (h : parts s = (l, 0)) (hs : s.length ≤ 57) : parts (s ++ [47, 46, 46]) = (l.dropLast, 0) := by
  obtain ⟨h0, h1, h2, h3⟩ := parts_ok h
  obtain ⟨t, ht⟩ : ∃ t, s = 47 :: t := ⟨_, head_tail h1⟩
  subst ht
  refine parts_of (by simp at hs ⊢; omega) rfl ?_ (by simp; omega)
  rw [List.tail_cons] at h2
  have e2 : ((47 : UInt8) :: t ++ [47, 46, 46]).tail = t ++ 47 :: [46, 46] := rfl
  rw [e2, cut_join, run_append, h2]
  show run l (cut [46, 46]) = _
  rw [cut_none _ (by decide), run_cons, step_up]
  rfl
/-- A name, and up again. -/
theorem parts_down_up {s n : List UInt8} {l : List (List UInt8)} (h : parts s = (l, 0)) (hn : IsName n) (hs : s.length ≤ 50) : parts (s ++ 47 :: (n ++ [47, 46, 46])) = (l, 0) := by
  obtain ⟨h0, h1, h2, h3⟩ := parts_ok h
  have := hn.2.1
  obtain ⟨t, ht⟩ : ∃ t, s = 47 :: t := ⟨_, head_tail h1⟩
  subst ht
  refine parts_of (by simp at hs ⊢; omega) rfl ?_ h3
  rw [List.tail_cons] at h2
  have e2 : ((47 : UInt8) :: t ++ 47 :: (n ++ [47, 46, 46])).tail = t ++ 47 :: (n ++ 47 :: [46, 46]) := rfl
  rw [e2, cut_join, run_append, h2]
  show run l (cut (n ++ 47 :: [46, 46])) = _
  rw [cut_some _ _ hn.no47, cut_none _ (by decide), run_cons, step_name hn]
  show run (l ++ [n]) [[46, 46]] = _
  rw [run_cons, step_up, List.dropLast_concat]
  rfl
/-! ### The place of the first slash -/
theorem idx_none : ∀ (l : List UInt8), Lib.indexByte l 47 = -1 → 47 ∉ l
  | [], _ => by simp
  | b :: l, h => by
    unfold Lib.indexByte at h
    split at h
    · cases h
    · rename_i hb
      split at h
      · rename_i h2
        have := idx_none l (by simpa using h2)
        simp only [List.mem_cons, not_or]
        exact ⟨fun e => hb (by simp [← e]), this⟩
      · rename_i h2
        have := Lib.indexByte_ge l 47
        have h2' : Lib.indexByte l 47 ≠ -1 := by simpa using h2
        omega
theorem idx_some : ∀ (l : List UInt8), Lib.indexByte l 47 ≠ -1 → ∃ i : Nat, Lib.indexByte l 47 = i ∧ i < l.length ∧ 47 ∉ l.take i ∧ l = l.take i ++ 47 :: l.drop (i + 1)
  | [], h => absurd rfl h
  | b :: l, h => by
    by_cases hb : b = 47
    · subst hb
      exact ⟨0, by simp [Lib.indexByte], by simp, by simp, by simp⟩
    · have e : Lib.indexByte (b :: l) 47 = if Lib.indexByte l 47 == -1 then -1 else Lib.indexByte l 47 + 1 := by
        rw [Lib.indexByte, if_neg (by simpa using hb)]
      rw [e] at h ⊢
      by_cases h2 : Lib.indexByte l 47 = -1
      · rw [h2] at h; simp at h
      · obtain ⟨i, h3, h4, h5, h6⟩ := idx_some l h2
        refine ⟨i + 1, ?_, by simp; omega, ?_, ?_⟩
        · rw [if_neg (by simpa using h2), h3]; simp
        · rw [List.take_succ_cons, List.mem_cons, not_or]
          exact ⟨fun e => hb e.symm, h5⟩
        · rw [List.take_succ_cons, List.drop_succ_cons, List.cons_append, ← h6]
/-- Clean's own text is what Shown says. -/
theorem join_shown : ∀ (l : List (List UInt8)), 47 :: Lib.join l [47] = shown l
  | [] => rfl
  | [p] => by simp [shown, Lib.join_one]
  | p :: q :: r => by
    have ih := join_shown (q :: r)
    unfold shown at ih ⊢
    rw [if_neg (by simp)] at ih ⊢
    rw [List.flatMap_cons, ← ih]
    simp [Lib.join]
end Pa
end Go.Proofs.YtnglhfeialomgaaDoor
