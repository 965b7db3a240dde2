/- Paths in plain Lean: a text cut at its slashes, names, what is left of a path. No program in sight. -/
import Derived.Lib.Strings
import Derived.Lib.Bytealg
import Derived.Lib.Join
import Derived.WalkKit
import Derived.Sort.KeysCollected
import Derived.Test.YtnglhfeialomgaaGreatDoorTz01
namespace Go.Proofs.YtnglhfeialomgaaGreatDoor
namespace Pa

def mk (l : List UInt8) : ByteArray := ⟨l.toArray⟩
theorem mk_list (l : List UInt8) : (mk l).data.toList = l := by simp [mk]
theorem mk_of (s : ByteArray) : mk s.data.toList = s := Lib.mk_data s
theorem mk_size (l : List UInt8) : (mk l).size = l.length := by rw [Lib.size_eq, mk_list]
theorem mk_inj {a b : List UInt8} (h : mk a = mk b) : a = b := by
  have := congrArg (fun s => s.data.toList) h
  simpa [mk] using this
/-- A text cut at its slashes. -/
def cut : List UInt8 → List (List UInt8)
  | [] => [[]]
  | b :: l => if b = 47 then [] :: cut l else (b :: (cut l).headD []) :: (cut l).tail
theorem cut_cons (b : UInt8) (l : List UInt8) : cut (b :: l) = if b = 47 then [] :: cut l else (b :: (cut l).headD []) :: (cut l).tail := by rw [cut]
theorem cut_ne (l : List UInt8) : cut l ≠ [] := by
  cases l with
  | nil => simp [cut]
  | cons b l => unfold cut; split <;> simp
theorem cut_none : ∀ (l : List UInt8), 47 ∉ l → cut l = [l]
  | [], _ => rfl
  | b :: l, h => by
    have h1 : b ≠ 47 := fun e => h (by simp [e])
    have h2 := cut_none l (fun e => h (by simp [e]))
    rw [cut_cons, if_neg h1, h2]
    rfl
theorem cut_some (q : List UInt8) : ∀ (p : List UInt8), 47 ∉ p → cut (p ++ 47 :: q) = p :: cut q
  | [], _ => by simp [cut]
  | b :: p, h => by
    have h1 : b ≠ 47 := fun e => h (by simp [e])
    have h2 := cut_some q p (fun e => h (by simp [e]))
    rw [List.cons_append]
    rw [cut_cons, if_neg h1, h2]
    rfl
theorem cut_join : ∀ (p q : List UInt8), cut (p ++ 47 :: q) = cut p ++ cut q
  | [], q => by simp [cut]
  | b :: p, q => by
    rw [List.cons_append, cut_cons, cut_cons]
    by_cases hb : b = 47
    · rw [if_pos hb, if_pos hb, cut_join p q]; rfl
    · rw [if_neg hb, if_neg hb, cut_join p q]
      obtain ⟨x, t, hx⟩ : ∃ x t, cut p = x :: t := by
        cases h : cut p with
        | nil => exact absurd h (cut_ne p)
        | cons x t => exact ⟨x, t, rfl⟩
      rw [hx]; rfl
/-- How long a list of names is, with a slash ahead of each. -/
def long (ps : List (List UInt8)) : Nat := (ps.map fun p => p.length + 1).sum
theorem long_nil : long [] = 0 := rfl
theorem long_cons (p : List UInt8) (ps : List (List UInt8)) : long (p :: ps) = p.length + 1 + long ps := by simp [long]
theorem long_append (a b : List (List UInt8)) : long (a ++ b) = long a + long b := by simp [long]
theorem long_cut : ∀ (l : List UInt8), long (cut l) = l.length + 1
  | [] => rfl
  | b :: l => by
    have ih := long_cut l
    rw [cut_cons]
    split
    · rw [long_cons, ih]; simp; omega
    · obtain ⟨x, t, hx⟩ : ∃ x t, cut l = x :: t := by
        cases h : cut l with
        | nil => exact absurd h (cut_ne l)
        | cons x t => exact ⟨x, t, rfl⟩
      rw [hx] at ih ⊢
      rw [long_cons] at ih ⊢
      simp only [List.headD_cons, List.tail_cons, List.length_cons] at *
      omega
theorem len_long : ∀ (ps : List (List UInt8)), ps.length ≤ long ps
  | [] => Nat.zero_le _
  | p :: ps => by
    have := len_long ps
    rw [long_cons, List.length_cons]
    omega
theorem cut_len (l : List UInt8) : (cut l).length ≤ l.length + 1 := by rw [← long_cut]; exact len_long _
def IsName (l : List UInt8) : Prop := 1 ≤ l.length ∧ l.length ≤ 4 ∧ ∀ b ∈ l, 97 ≤ b.toNat ∧ b.toNat ≤ 122
instance (l : List UInt8) : Decidable (IsName l) := inferInstanceAs (Decidable (_ ∧ _ ∧ _))
theorem IsName.no47 {l : List UInt8} (h : IsName l) : 47 ∉ l := fun hm => by have := (h.2.2 47 hm).1; simp at this
theorem IsName.ne {l : List UInt8} (h : IsName l) : ¬ (l = [] ∨ l = [46]) ∧ l ≠ [46, 46] := by
  refine ⟨fun h' => ?_, fun h' => ?_⟩
  · rcases h' with rfl | rfl
    · have := h.1; simp at this
    · have := (h.2.2 46 (by simp)).1; simp at this
  · subst h'; have := (h.2.2 46 (by simp)).1; simp at this
/-- A further piece of the path. -/
def step (o : Option (List (List UInt8))) (p : List UInt8) : Option (List (List UInt8)) :=
  match o with
  | none => none
  | some l => if p = [] ∨ p = [46] then some l else if p = [46, 46] then some l.dropLast else if IsName p then some (l ++ [p]) else none
def run (l : List (List UInt8)) (ps : List (List UInt8)) : Option (List (List UInt8)) := ps.foldl step (some l)
theorem step_none : ∀ (ps : List (List UInt8)), ps.foldl step none = none
  | [] => rfl
  | _ :: ps => step_none ps
theorem run_append (l a b : List (List UInt8)) : run l (a ++ b) = (run l a).elim none (fun m => run m b) := by
  unfold run
  rw [List.foldl_append]
  cases a.foldl step (some l) with
  | none => exact step_none b
  | some m => rfl
theorem run_cons (l : List (List UInt8)) (p : List UInt8) (ps : List (List UInt8)) : run l (p :: ps) = (step (some l) p).elim none (fun m => run m ps) := by
  unfold run
  rw [List.foldl_cons]
  cases step (some l) p with
  | none => exact step_none ps
  | some m => rfl
theorem step_skip {p : List UInt8} (h : p = [] ∨ p = [46]) (l : List (List UInt8)) : step (some l) p = some l := if_pos h
theorem step_up (l : List (List UInt8)) : step (some l) [46, 46] = some l.dropLast := by unfold step; dsimp only; rw [if_neg (by decide), if_pos rfl]
theorem step_name {p : List UInt8} (h : IsName p) (l : List (List UInt8)) : step (some l) p = some (l ++ [p]) := by unfold step; dsimp only; rw [if_neg h.ne.1, if_neg h.ne.2, if_pos h]
theorem step_bad {p : List UInt8} (h1 : ¬ (p = [] ∨ p = [46])) (h2 : p ≠ [46, 46]) (h3 : ¬ IsName p) (l : List (List UInt8)) : step (some l) p = none := by unfold step; dsimp only; rw [if_neg h1, if_neg h2, if_neg h3]
/-- What a run keeps: all are names, and no more letters than came. -/
theorem run_ok : ∀ (ps l m : List (List UInt8)), (∀ p ∈ l, IsName p) → run l ps = some m → (∀ p ∈ m, IsName p) ∧ long m ≤ long l + long ps
  | [], l, m, hl, h => by
    injection h with h
    subst h
    exact ⟨hl, by simp [long]⟩
  | p :: ps, l, m, hl, h => by
    rw [run_cons] at h
    rw [long_cons]
    by_cases h1 : p = [] ∨ p = [46]
    · rw [step_skip h1] at h
      obtain ⟨a, b⟩ := run_ok ps l m hl h
      exact ⟨a, by omega⟩
    · by_cases h2 : p = [46, 46]
      · subst h2
        rw [step_up] at h
        obtain ⟨a, b⟩ := run_ok ps l.dropLast m (fun q hq => hl q (List.dropLast_subset l hq)) h
        refine ⟨a, ?_⟩
        have : long l.dropLast ≤ long l := by
          cases hl' : l.reverse with
          | nil => have : l = [] := by simpa using hl'
                   subst this; simp
          | cons x t =>
            have : l = t.reverse ++ [x] := by rw [← List.reverse_reverse l, hl']; simp
            subst this
            rw [List.dropLast_concat, long_append]; omega
        omega
      · by_cases h3 : IsName p
        · rw [step_name h3] at h
          obtain ⟨a, b⟩ := run_ok ps (l ++ [p]) m (fun q hq => by
            rcases List.mem_append.1 hq with hq | hq
            · exact hl q hq
            · simp at hq; subst hq; exact h3) h
          refine ⟨a, ?_⟩
          rw [long_append, long_cons, long_nil] at b
          omega
        · rw [step_bad h1 h2 h3] at h
          cases h
theorem run_names : ∀ (ps l : List (List UInt8)), (∀ p ∈ ps, IsName p) → run l ps = some (l ++ ps)
  | [], l, _ => by simp [run]
  | p :: ps, l, h => by
    rw [run_cons, step_name (h p (by simp))]
    show run (l ++ [p]) ps = _
    rw [run_names ps _ (fun q hq => h q (by simp [hq]))]
    simp
/-- The names of a path, what is wrong. -/
def parts (s : List UInt8) : List (List UInt8) × Int :=
  if 60 < s.length then ([], 4) else if s.head? = some 47 then (match run [] (cut s.tail) with | none => ([], 2) | some l => if 8 < l.length then ([], 4) else (l, 0)) else ([], 2)
/-- The path of names. -/
def shown (l : List (List UInt8)) : List UInt8 := if l = [] then [47] else l.flatMap (fun p => 47 :: p)
theorem flat_len (l : List (List UInt8)) : (l.flatMap (fun p => (47 : UInt8) :: p)).length = long l := by
  induction l with
  | nil => rfl
  | cons a l ih => rw [List.flatMap_cons, List.length_append, ih, long_cons]; rfl
theorem cut_flat : ∀ (l : List (List UInt8)), (∀ p ∈ l, IsName p) → ∀ p, IsName p → cut (p ++ l.flatMap (fun p => (47 : UInt8) :: p)) = p :: l
  | [], _, p, hp => by rw [List.flatMap_nil, List.append_nil, cut_none _ hp.no47]
  | q :: l, h, p, hp => by
    rw [List.flatMap_cons, List.cons_append, cut_some _ _ hp.no47, cut_flat l (fun r hr => h r (by simp [hr])) q (h q (by simp))]
theorem shown_cut {l : List (List UInt8)} (h : ∀ p ∈ l, IsName p) : run [] (cut (shown l).tail) = some l := by
  unfold shown
  cases l with
  | nil => rfl
  | cons p l =>
    rw [if_neg (by simp), List.flatMap_cons, List.cons_append, List.tail_cons, cut_flat l (fun r hr => h r (by simp [hr])) p (h p (by simp)), run_names _ _ h]
    rfl
theorem shown_head (l : List (List UInt8)) : (shown l).head? = some 47 := by
  unfold shown
  split
  · rfl
  · cases l with
    | nil => contradiction
    | cons p l => rfl
theorem head_tail {s : List UInt8} (h : s.head? = some 47) : s = 47 :: s.tail := by
  cases s with
  | nil => cases h
  | cons b l => injection h with h; subst h; rfl
theorem parts_ok {s : List UInt8} {l : List (List UInt8)} (h : parts s = (l, 0)) : s.length ≤ 60 ∧ s.head? = some 47 ∧ run [] (cut s.tail) = some l ∧ l.length ≤ 8 := by
  unfold parts at h
  split at h
  · injection h with _ h; cases h
  · rename_i h0
    split at h
    · rename_i h1
      split at h
      · injection h with _ h; cases h
      · rename_i m hm
        split at h
        · injection h with _ h; cases h
        · rename_i h8
          injection h with h _
          subst h
          exact ⟨by omega, h1, hm, by omega⟩
    · injection h with _ h; cases h
theorem parts_of {s : List UInt8} {l : List (List UInt8)} (h0 : s.length ≤ 60) (h1 : s.head? = some 47) (h2 : run [] (cut s.tail) = some l) (h3 : l.length ≤ 8) : parts s = (l, 0) := by
  unfold parts
  rw [if_neg (by omega), if_pos h1, h2]
  exact if_neg (by omega)
theorem parts_err {s : List UInt8} (h : (parts s).2 ≠ 0) : (parts s).1 = [] := by
  have : (parts s).2 = 0 ∨ (parts s).1 = [] := by
    unfold parts
    split
    · exact .inr rfl
    · split
      · split
        · exact .inr rfl
        · split
          · exact .inr rfl
          · exact .inl rfl
      · exact .inr rfl
  exact this.resolve_left h
theorem parts_names {s : List UInt8} {l : List (List UInt8)} (h : parts s = (l, 0)) : ∀ p ∈ l, IsName p := (run_ok (cut s.tail) [] l (by simp) (parts_ok h).2.2.1).1
theorem shown_le {s : List UInt8} {l : List (List UInt8)} (h : parts s = (l, 0)) : (shown l).length ≤ s.length := by
  obtain ⟨h0, h1, h2, h3⟩ := parts_ok h
  have h4 := (run_ok (cut s.tail) [] l (by simp) h2).2
  have hl : s.length = s.tail.length + 1 := by
    obtain ⟨t, ht⟩ : ∃ t, s = 47 :: t := ⟨_, head_tail h1⟩
    subst ht; simp
  rw [long_cut, long_nil] at h4
  unfold shown
  split
  · simp; omega
  · rw [flat_len]; omega
/-- What Clean hands back reads as it did. -/
theorem parts_shown {s : List UInt8} {l : List (List UInt8)} (h : parts s = (l, 0)) : parts (shown l) = (l, 0) :=
  parts_of (Nat.le_trans (shown_le h) (parts_ok h).1) (shown_head l) (shown_cut (parts_names h)) (parts_ok h).2.2.2
/-- One up. -/
theorem parts_up {s : List UInt8} {l : List (List UInt8)} (h : parts s = (l, 0)) (hs : s.length ≤ 57) : parts (s ++ [47, 46, 46]) = (l.dropLast, 0) := by
  obtain ⟨h0, h1, h2, h3⟩ := parts_ok h
  obtain ⟨t, ht⟩ : ∃ t, s = 47 :: t := ⟨_, head_tail h1⟩
  subst ht
  refine parts_of (by simp at hs ⊢; omega) rfl ?_ (by simp; omega)
  rw [List.tail_cons] at h2
  have e2 : ((47 : UInt8) :: t ++ [47, 46, 46]).tail = t ++ 47 :: [46, 46] := rfl
  rw [e2, cut_join, run_append, h2]
  show run l (cut [46, 46]) = _
  rw [cut_none _ (by decide), run_cons, step_up]
  rfl
/-- A name, and up again. -/
theorem parts_down_up {s n : List UInt8} {l : List (List UInt8)} (h : parts s = (l, 0)) (hn : IsName n) (hs : s.length ≤ 50) : parts (s ++ 47 :: (n ++ [47, 46, 46])) = (l, 0) := by
  obtain ⟨h0, h1, h2, h3⟩ := parts_ok h
  have := hn.2.1
  obtain ⟨t, ht⟩ : ∃ t, s = 47 :: t := ⟨_, head_tail h1⟩
  subst ht
  refine parts_of (by simp at hs ⊢; omega) rfl ?_ h3
  rw [List.tail_cons] at h2
  have e2 : ((47 : UInt8) :: t ++ 47 :: (n ++ [47, 46, 46])).tail = t ++ 47 :: (n ++ 47 :: [46, 46]) := rfl
  rw [e2, cut_join, run_append, h2]
  show run l (cut (n ++ 47 :: [46, 46])) = _
  rw [cut_some _ _ hn.no47, cut_none _ (by decide), run_cons, step_name hn]
  show run (l ++ [n]) [[46, 46]] = _
  rw [run_cons, step_up, List.dropLast_concat]
  rfl
/-! ### The place of the first slash -/
theorem idx_none : ∀ (l : List UInt8), Lib.indexByte l 47 = -1 → 47 ∉ l
  | [], _ => by simp
  | b :: l, h => by
    unfold Lib.indexByte at h
    split at h
    · cases h
    · rename_i hb
      split at h
      · rename_i h2
        have := idx_none l (by simpa using h2)
        simp only [List.mem_cons, not_or]
        exact ⟨fun e => hb (by simp [← e]), this⟩
      · rename_i h2
        have := Lib.indexByte_ge l 47
        have h2' : Lib.indexByte l 47 ≠ -1 := by simpa using h2
        omega
theorem idx_some : ∀ (l : List UInt8), Lib.indexByte l 47 ≠ -1 → ∃ i : Nat, Lib.indexByte l 47 = i ∧ i < l.length ∧ 47 ∉ l.take i ∧ l = l.take i ++ 47 :: l.drop (i + 1)
  | [], h => absurd rfl h
  | b :: l, h => by
    by_cases hb : b = 47
    · subst hb
      exact ⟨0, by simp [Lib.indexByte], by simp, by simp, by simp⟩
    · have e : Lib.indexByte (b :: l) 47 = if Lib.indexByte l 47 == -1 then -1 else Lib.indexByte l 47 + 1 := by
        rw [Lib.indexByte, if_neg (by simpa using hb)]
      rw [e] at h ⊢
      by_cases h2 : Lib.indexByte l 47 = -1
      · rw [h2] at h; simp at h
      · obtain ⟨i, h3, h4, h5, h6⟩ := idx_some l h2
        refine ⟨i + 1, ?_, by simp; omega, ?_, ?_⟩
        · rw [if_neg (by simpa using h2), h3]; simp
        · rw [List.take_succ_cons, List.mem_cons, not_or]
          exact ⟨fun e => hb e.symm, h5⟩
        · rw [List.take_succ_cons, List.drop_succ_cons, List.cons_append, ← h6]
/-- Clean's own text is what Shown says. -/
theorem join_shown : ∀ (l : List (List UInt8)), 47 :: Lib.join l [47] = shown l
  | [] => rfl
  | [p] => by simp [shown, Lib.join_one]
  | p :: q :: r => by
    have ih := join_shown (q :: r)
    unfold shown at ih ⊢
    rw [if_neg (by simp)] at ih ⊢
    rw [List.flatMap_cons, ← ih]
    simp [Lib.join]
end Pa
end Go.Proofs.YtnglhfeialomgaaGreatDoor
/- Maps from texts to pointers: what a call reads, stores and strikes in one, and a range over it. No program in sight. -/
namespace Go.Proofs.YtnglhfeialomgaaGreatDoor
open Go.RowKit Go.Maps

abbrev Nm := List UInt8
theorem same_str (x y : Nm) : (Lit.string x).sameKey (.string y) = (x == y) := by
  by_cases e : x = y
  · subst e; simp [Lit.sameKey]
  · simp [Lit.sameKey, e]
theorem encStr_mk (x : Nm) : encStr x = Value.string (Pa.mk x) := rfl
theorem key_str {P : Program} {k : TypeId} (hk : P.underlying k = some .string) {x : Nm} (h : x.length ≤ maxLen) : keyOf P k (.string (Pa.mk x)) = some (.string x) := by
  have := WideMaps.keyOf_string_mk (P := P) hk (s := Pa.mk x) (by rw [Pa.mk_size]; exact h)
  rw [this, Pa.mk_list]
/-- A map's datum says just what m says. -/
def SMapIs (D : DataW Unit) (m : Nm → Option Nat) : Prop := ∀ x z, D.atKey (.string x) z = match m x with
  | none => z
  | some o => .lit (.int .i64 o)
theorem SMapIs.at {D : DataW Unit} {m : Nm → Option Nat} (h : SMapIs D m) (x : Nm) : D.atKey (.string x) (.lit (.int .i64 (-1))) = .lit (.int .i64 (numO (m x))) := by
  rw [h x]
  cases m x <;> rfl
/-- Block b is a map that says what m says, of at most n entries. -/
def SMap (P : Program) (k : TypeId) (w : World) (b n : Nat) (m : Nm → Option Nat) : Prop := ∃ D, w.ownsMap P k ptrR b n D ∧ SMapIs D m
section
variable {P : Program} {k e t : TypeId} {w : World} {b n : Nat} {m : Nm → Option Nat}
theorem SMap.obj (h : SMap P k w b n m) : ∃ es clock, w.heap[b]? = some (.map es clock) := by
  obtain ⟨D, ⟨es, clock, h0, _⟩, _⟩ := h
  exact ⟨es, clock, h0⟩
theorem SMap.keep {w' : World} (h : SMap P k w b n m) (hb : w'.heap[b]? = w.heap[b]?) : SMap P k w' b n m := by
  obtain ⟨D, ⟨es, clock, h0, r⟩, hm⟩ := h
  exact ⟨D, ⟨es, clock, hb.trans h0, r⟩, hm⟩
theorem SMap.lt (h : SMap P k w b n m) : b < w.heap.size := by obtain ⟨D, h, _⟩ := h; exact World.ownsMap.lt h
theorem SMap.mono (h : SMap P k w b n m) {n' : Nat} (hn : n ≤ n') : SMap P k w b n' m := by
  obtain ⟨D, h, hm⟩ := h
  exact ⟨D, h.mono hn, hm⟩
theorem SMap.made (w : World) (P : Program) (k : TypeId) : SMap P k (w.alloc (.map #[] 0)) w.heap.size 0 (fun _ => none) := ⟨_, World.ownsMap_made w P k _, fun _ _ => rfl⟩
theorem SMapIs.put {D : DataW Unit} (hD : IsMap D) (h : SMapIs D m) (y : Nm) (o : Nat) : SMapIs (D.put (.string y) (.lit (.int .i64 (numO (some o))))) (fun x => if x = y then some o else m x) := by
  intro x z
  show _ = match (if x = y then some o else m x) with
    | none => z
    | some o => .lit (.int .i64 o)
  by_cases e : x = y
  · subst e
    rw [atKey_put_same hD (show WideAt.IsKeyLit (.string x) from trivial), if_pos rfl]; rfl
  · rw [atKey_put_other (by simpa using e), h x z, if_neg e]
theorem SMapIs.del {D : DataW Unit} (h : SMapIs D m) (y : Nm) : SMapIs (D.del (.string y)) (fun x => if x = y then none else m x) := by
  intro x z
  show _ = match (if x = y then none else m x) with
    | none => z
    | some o => .lit (.int .i64 o)
  by_cases e : x = y
  · subst e
    rw [atKey_del_same, if_pos rfl]
  · rw [atKey_del_other (by simpa using e), h x z, if_neg e]
theorem SMapIs.has {D : DataW Unit} (h : SMapIs D m) (x : Nm) : Maps.has D (.string x) = (m x).isSome := by
  cases hb : Maps.has D (.string x) with
  | false =>
    have := Maps.atKey_of_not_has hb .nil
    rw [h x] at this
    cases e : m x with
    | none => rfl
    | some o => rw [e] at this; cases this
  | true =>
    cases e : m x with
    | some o => rfl
    | none =>
      exfalso
      have h1 := Maps.has_false_of_atKey (D := D) (k := .string x) (fun z => by rw [h x z, e])
      rw [h1] at hb
      cases hb
theorem run_slook (h : SMap P k w b n m) (hk : P.underlying k = some .string) (ht : P.underlying t = some (.map k e)) (hz : (zeroValue e).run P w = .ok (.pointer none) w) {x : Nm} (hx : x.length ≤ maxLen) :
    (Instr.lookup t (.map (some b)) (.string (Pa.mk x)) false).run P w = .ok (ptrO (m x)) w := by
  obtain ⟨D, h, hm⟩ := h
  obtain ⟨v, ps, hrun, hv⟩ := World.ownsMap.lookup (H := Unit) h (string_keyed hk) ht hz (ptrR_mk none) (key_str hk hx)
  rw [show numO none = -1 from rfl, hm.at x] at hv
  obtain ⟨y, rfl, e1⟩ := ptrR_inv hv
  simp only [Prod.mk.injEq, DataW.lit.injEq, Lit.int.injEq, true_and] at e1
  rw [hrun, numO_inj e1.1]
/-- 'm[x]'. -/
theorem wpList_slook {ops : Array Oper} {rest : List Oper} {o : Oper} {a : Act} {Q : Exit → Act → World → Prop} (hg : o.guard = none) (mm x : Operand) (hop : o.op = Op.lookup t mm x false) (h : SMap P k w b n m)
    (hk : P.underlying k = some .string) (ht : P.underlying t = some (.map k e)) (hz : (zeroValue e).run P w = .ok (.pointer none) w) (hm : a.eval mm = .map (some b)) (y : Nm) (hx : a.eval x = .string (Pa.mk y)) (hy : y.length ≤ maxLen) (v : Value) (hv : ptrO (m y) = v)
    (hK : wpList P ops Q rest (a.put o.dst v) w) : wpList P ops Q (o :: rest) a w := by
  subst hv
  refine wpList_plain hg fun K' hK' => ?_
  unfold Oper.wp
  simp [execOp, hop, hm, hx, run_slook h hk ht hz hy, Result.andThen]
  exact hK' _ _ hK
/-- 'v, ok := m[x]'. -/
theorem wpList_slook_ok {ops : Array Oper} {rest : List Oper} {o : Oper} {a : Act} {Q : Exit → Act → World → Prop} (hg : o.guard = none) (mm x : Operand) (hop : o.op = Op.lookup t mm x true) (h : SMap P k w b n m)
    (hk : P.underlying k = some .string) (ht : P.underlying t = some (.map k e)) (hz : (zeroValue e).run P w = .ok (.pointer none) w) (hm : a.eval mm = .map (some b)) (y : Nm) (hx : a.eval x = .string (Pa.mk y)) (hy : y.length ≤ maxLen)
    (hK : wpList P ops Q rest (a.put o.dst (.tuple #[ptrO (m y), .bool (m y).isSome])) w) : wpList P ops Q (o :: rest) a w := by
  obtain ⟨D, h, hmm⟩ := h
  refine wpList_lookup_own_ok (H := Unit) w hg mm x t hop k e (string_keyed hk) ht ptrR hz _ _ (ptrR_mk none) b n D hm h _ _ hx (key_str hk hy) ?_
  intro v ps hv
  rw [show numO none = -1 from rfl, hmm.at y] at hv
  obtain ⟨z, rfl, e1⟩ := ptrR_inv hv
  simp only [Prod.mk.injEq, DataW.lit.injEq, Lit.int.injEq, true_and] at e1
  rw [← numO_inj e1.1, hmm.has y]
  exact hK
/-- 'm[x] = p'. -/
theorem wpList_supdate {ops : Array Oper} {rest : List Oper} {o : Oper} {a : Act} {Q : Exit → Act → World → Prop} (hg : o.guard = none) (mm x v : Operand) (hop : o.op = Op.mapUpdate t mm x v) (h : SMap P k w b n m)
    (hk : P.underlying k = some .string) (ht : P.underlying t = some (.map k e)) (hn : n < maxLen) (hm : a.eval mm = .map (some b)) (y : Nm) (hx : a.eval x = .string (Pa.mk y)) (p : Nat) (hv : a.eval v = .pointer (some ⟨p, 0, none⟩)) (hy : y.length ≤ maxLen)
    (hK : ∀ w', SMap P k w' b (n + 1) (fun x => if x = y then some p else m x) → Fr [b] w w' → wpList P ops Q rest (a.put o.dst undef) w') : wpList P ops Q (o :: rest) a w := by
  obtain ⟨D, h, hmm⟩ := h
  have hD := World.ownsMap.isMap h
  refine wpList_mapUpdate_in (H := Unit) w hg mm x v t hop k e (string_keyed hk) ht _ b n _ hm h hn _ _ _ hx hv (key_str hk hy) _ [] (ptrR_mk (some p)) ?_
  intro w' h1 h2
  exact hK w' ⟨_, h1, hmm.put hD y p⟩ (Fr.turnedM h2)
/-- 'delete(m, x)'. -/
theorem wpList_sdelete {ops : Array Oper} {rest : List Oper} {o : Oper} {a : Act} {Q : Exit → Act → World → Prop} (hg : o.guard = none) (mm x : Operand) (hop : o.op = Op.call { callee := Callee.builtin Builtin.delete, args := #[mm, x], argTypes := #[t, k] }) (h : SMap P k w b n m)
    (hk : P.underlying k = some .string) (ht : P.underlying t = some (.map k e)) (hm : a.eval mm = .map (some b)) (y : Nm) (hx : a.eval x = .string (Pa.mk y)) (hy : y.length ≤ maxLen)
    (hK : ∀ w', SMap P k w' b n (fun x => if x = y then none else m x) → Fr [b] w w' → wpList P ops Q rest (a.put o.dst (.tuple #[])) w') : wpList P ops Q (o :: rest) a w := by
  obtain ⟨D, h, hmm⟩ := h
  refine wpList_delete_own (H := Unit) w hg mm x t k hop e (string_keyed hk) ht ptrR b n D hm h _ _ hx (key_str hk hy) ?_
  intro w' h1 h2
  exact hK w' ⟨_, h1, hmm.del y⟩ (Fr.turnedM h2)
/-! ### A range over it -/
/-- The range at block r: what the map says; which keys are still to come; how many. -/
def SRange (P : Program) (k : TypeId) (w : World) (b r n : Nat) (m : Nm → Option Nat) (left : Nm → Bool) (cnt : Nat) : Prop :=
  ∃ D L, w.ranges P k ptrR b r n D L cnt ∧ SMapIs D m ∧ ∀ x, L (.string x) = left x
variable {r cnt : Nat} {left : Nm → Bool}
theorem SRange.map (h : SRange P k w b r n m left cnt) : SMap P k w b n m := by
  obtain ⟨D, L, h, hm, _⟩ := h
  exact ⟨D, h.owns, hm⟩
theorem SRange.lt (h : SRange P k w b r n m left cnt) : r < w.heap.size ∧ r ≠ b := by
  obtain ⟨D, L, h, _, _⟩ := h
  exact ⟨h.lt, h.ne⟩
theorem SRange.keep {w' : World} (h : SRange P k w b r n m left cnt) (hb : w'.heap[b]? = w.heap[b]?) (hr : w'.heap[r]? = w.heap[r]?) : SRange P k w' b r n m left cnt := by
  obtain ⟨D, L, ⟨es, clock, since, seen, c0, h0, q1, q2, q3, h4, q⟩, hm, hl⟩ := h
  exact ⟨D, L, ⟨es, clock, since, seen, c0, hb.trans h0, q1, q2, q3, hr.trans h4, q⟩, hm, hl⟩
/-- 'range m'. -/
theorem wpList_srange {ops : Array Oper} {rest : List Oper} {o : Oper} {a : Act} {Q : Exit → Act → World → Prop} (hg : o.guard = none) (mm : Operand) (hop : o.op = Op.range t mm) (h : SMap P k w b n m)
    (hk : P.underlying k = some .string) (ht : P.underlying t = some (.map k e)) (hm : a.eval mm = .map (some b))
    (hK : ∀ w' cnt, SRange P k w' b w.heap.size n m (fun x => (m x).isSome) cnt → Fr [] w w' → w'.heap.size = w.heap.size + 1 → wpList P ops Q rest (a.put o.dst (.pointer (some ⟨w.heap.size, 0, none⟩))) w') : wpList P ops Q (o :: rest) a w := by
  obtain ⟨D, h, hmm⟩ := h
  refine wpList_range_own (H := Unit) w hg mm t hop k e (string_keyed hk) ht _ b n D hm h ?_
  intro w' h1 h2 h3
  exact hK w' _ ⟨D, _, h1, hmm, fun x => hmm.has x⟩ ⟨h2.os, h2.tape, h2.output, h2.size, fun i hi _ => h2.block i hi (by simp)⟩ h3
/-- The step. -/
theorem wpList_snext {ops : Array Oper} {rest : List Oper} {o : Oper} {a : Act} {Q : Exit → Act → World → Prop} (hg : o.guard = none) (it : Operand) (hop : o.op = Op.next it false) (hk : P.underlying k = some .string)
    (hit : a.eval it = .pointer (some ⟨r, 0, none⟩)) (h : SRange P k w b r n m left cnt)
    (hDone : (∀ x, x.length ≤ maxLen → left x = false) → wpList P ops Q rest (a.put o.dst (.tuple #[.bool false])) w)
    (hMore : ∀ (x : Nm) (q : Nat) (w' : World) (cnt' : Nat), x.length ≤ maxLen → left x = true → m x = some q → SRange P k w' b r n m (fun z => left z && !(z == x)) cnt' → cnt' < cnt → Fr [r] w w' → w'.heap.size = w.heap.size →
      (Instr.entry (.pointer (some ⟨r, 0, none⟩))).run P w' = .ok (.tuple #[.string (Pa.mk x), .pointer (some ⟨q, 0, none⟩)]) w' → wpList P ops Q rest (a.put o.dst (.tuple #[.bool true, .string (Pa.mk x), .pointer (some ⟨q, 0, none⟩)])) w') :
    wpList P ops Q (o :: rest) a w := by
  obtain ⟨D, L, h, hmm, hl⟩ := h
  refine wpList_next_ranges (H := Unit) w hg it hop k (string_keyed hk) ptrR encStr ptrO (fun key kl hkey => by obtain ⟨x, hx, _⟩ := Maps.keyOf_str hk hkey; exact ⟨x, hx⟩) (fun v y hv => by obtain ⟨c, rfl, _⟩ := ptrR_inv hv; exact ⟨c, rfl⟩) b r n D L cnt hit h ?_ ?_
  · intro _ h0
    exact hDone (fun x _ => by rw [← hl x]; exact h0 _)
  · intro x c kl y w' cnt' hkey hlk hv hat hrg hlt hgr hsz hen
    obtain ⟨x', ex, rfl, hwx⟩ := Maps.keyOf_str hk hkey
    obtain rfl := encStr_inj ex
    obtain ⟨c', ec, rfl⟩ := ptrR_inv hv
    have ec' : c = c' := by
      cases c <;> cases c' <;> simp [ptrO] at ec ⊢
      exact ec
    subst ec'
    have e1 := hat .nil
    rw [hmm x] at e1
    cases hmx : m x with
    | none => rw [hmx] at e1; cases e1
    | some q =>
      rw [hmx] at e1
      simp only [DataW.lit.injEq, Lit.int.injEq, true_and] at e1
      have e2 : c = some q := by
        cases c with
        | none => simp [numO] at e1
        | some y => simp only [numO] at e1; congr 1; omega
      subst e2
      refine hMore x q w' cnt' hwx (by rw [← hl x]; exact hlk) hmx ⟨D, _, hrg, hmm, fun z => ?_⟩ hlt ⟨hgr.os, hgr.tape, hgr.output, hgr.size, fun i hi hn => hgr.block i hi (by simp at hn; simpa using hn)⟩ hsz hen
      show (L (.string z) && !Lit.sameKey (.string z) (.string x)) = _
      rw [hl z, same_str]
end
end Go.Proofs.YtnglhfeialomgaaGreatDoor
