/- Trees of directories: what the operations do to the graph, in plain Lean. -/

import Derived.Test.YtnglhfeialomgaaGreatDoorTz03
namespace Go.Proofs.YtnglhfeialomgaaGreatDoor
namespace Tr

def kid (g : G) (d : Nat) (x : Nme) : Option Nat := (g.ent d).bind (fun m => m x)
theorem kid_of {g : G} {d : Nat} {m : Nme → Option Nat} (h : g.ent d = some m) (x : Nme) : kid g d x = m x := by unfold kid; rw [h]; rfl
/-- The directory that a path's last name stands in, and that name. -/
inductive Sp where
  | at_ (d : Nat) (x : Nme)
  | err (c : Int)
def spotL (g : G) (l : List Nme) : Sp := if l = [] then .err 7 else match fnd g g.root l.dropLast with
  | .err e => .err e
  | .ok d => if (g.ent d).isSome = true then .at_ d (l.getLastD []) else .err 3
def spot (g : G) (s : List UInt8) : Sp := if (Pa.parts s).2 = 0 then spotL g (Pa.parts s).1 else .err (Pa.parts s).2
theorem spot_at {g : G} {s : List UInt8} {d : Nat} {x : Nme} (h : spot g s = .at_ d x) : ∃ P, Pa.parts s = (P ++ [x], 0) ∧ fnd g g.root P = .ok d ∧ (g.ent d).isSome = true := by
  unfold spot at h
  split at h
  · rename_i h0
    unfold spotL at h
    split at h
    · cases h
    · rename_i hl
      split at h
      · cases h
      · rename_i d' hd
        split at h
        · rename_i hs
          injection h with e1 e2
          subst e1
          refine ⟨(Pa.parts s).1.dropLast, ?_, hd, hs⟩
          have h1 : (Pa.parts s).1.dropLast ++ [x] = (Pa.parts s).1 := by
            rw [← e2, List.getLastD_eq_getLast?, List.getLast?_eq_some_getLast hl]
            exact List.dropLast_concat_getLast hl
          rw [h1, ← h0]
        · cases h
  · cases h
theorem fnd_congr {g g' : G} (h : ∀ b, g'.ent b = g.ent b) : ∀ (p : List Nme) (n : Nat), fnd g' n p = fnd g n p
  | [], _ => rfl
  | x :: p, n => by
    rw [fnd_cons, fnd_cons, h n]
    cases g.ent n with
    | none => rfl
    | some m =>
      show (match m x with | none => Rs.err 5 | some c => fnd g' c p) = match m x with | none => Rs.err 5 | some c => fnd g c p
      cases m x with
      | none => rfl
      | some c => exact fnd_congr h p c
theorem OK.congr {g g' : G} (h : OK g) (hr : g'.root = g.root) (he : ∀ b, g'.ent b = g.ent b) : OK g' := by
  have hf := fnd_congr he
  refine ⟨by rw [hr, he]; exact h.root, fun p c hp => ?_, fun p q c hp hq hc => ?_, fun d m x c hd hx => ?_⟩
  · rw [hr, hf] at hp; exact h.short p c hp
  · rw [hr, hf] at hp hq; rw [he] at hc; exact h.one p q c hp hq hc
  · rw [he] at hd; exact h.name d m x c hd hx
/-- A file, or a directory without entries. -/
def Leaf (g : G) (c : Nat) : Prop := ∀ x, kid g c x = none
theorem fnd_leaf {g : G} {c b : Nat} (h : Leaf g c) {q : List Nme} (hq : fnd g c q = .ok b) : q = [] ∧ b = c := by
  cases q with
  | nil => injection hq with hq; exact ⟨rfl, hq.symm⟩
  | cons x q =>
    exfalso
    rw [fnd_cons] at hq
    have hx := h x
    cases hm : g.ent c with
    | none => rw [hm] at hq; cases hq
    | some m =>
      rw [hm] at hq
      rw [kid_of hm] at hx
      have hq : (match m x with | none => Rs.err 5 | some c => fnd g c q) = .ok b := hq
      rw [hx] at hq
      cases hq
theorem kid_set_ne {g : G} {d b : Nat} (h : b ≠ d) (x : Nme) (o : Option Nat) (y : Nme) : kid (setE g d x o) b y = kid g b y := by unfold kid; rw [setE_ne h]
theorem kid_set {g : G} {d : Nat} (hd : (g.ent d).isSome = true) (x : Nme) (o : Option Nat) (y : Nme) : kid (setE g d x o) d y = if y = x then o else kid g d y := by
  obtain ⟨m, hm⟩ := Option.isSome_iff_exists.1 hd
  rw [kid_of (setE_d hm x o), kid_of hm]
/-- A leaf is added. -/
theorem OK.add {g : G} (h : OK g) {d : Nat} {P : List Nme} {x : Nme} {c : Nat} (hp : fnd g g.root P = .ok d) (hd : (g.ent d).isSome = true) (hx : Pa.IsName x) (hl : P.length + 1 ≤ 8) (hc : c ≠ d) (hleaf : Leaf g c) (hnew : (g.ent c).isSome = true → ∀ p, fnd g g.root p ≠ .ok c) : OK (setE g d x (some c)) := by
  have h1 := h.way hp hd
  obtain ⟨m, hm⟩ := Option.isSome_iff_exists.1 hd
  have hlf : Leaf (setE g d x (some c)) c := fun y => by rw [kid_set_ne hc]; exact hleaf y
  have hat : ∀ r b, fnd (setE g d x (some c)) g.root (P ++ x :: r) = .ok b → r = [] ∧ b = c := fun r b hb => by
    rw [fnd_set_at h1 hm x (some c) r] at hb
    exact fnd_leaf hlf hb
  refine ⟨by rw [show (setE g d x (some c)).root = g.root from rfl, setE_some]; exact h.root, fun p b hb => ?_, fun p q b hb hq hs => ?_, fun b m' y e hb hy => ?_⟩
  · by_cases hh : ∃ r, p = P ++ x :: r
    · obtain ⟨r, rfl⟩ := hh
      obtain ⟨rfl, -⟩ := hat r b hb
      rw [List.length_append]
      exact hl
    · rw [show (setE g d x (some c)).root = g.root from rfl, fnd_set_far h1 x (some c) hh] at hb
      exact h.short p b hb
  · rw [setE_some] at hs
    by_cases hh : ∃ r, p = P ++ x :: r
    · obtain ⟨r, rfl⟩ := hh
      obtain ⟨rfl, rfl⟩ := hat r b hb
      by_cases hh2 : ∃ r, q = P ++ x :: r
      · obtain ⟨r2, rfl⟩ := hh2
        obtain ⟨rfl, -⟩ := hat r2 b hq
        rfl
      · rw [show (setE g d x (some b)).root = g.root from rfl, fnd_set_far h1 x (some b) hh2] at hq
        exact absurd hq (hnew hs q)
    · rw [show (setE g d x (some c)).root = g.root from rfl, fnd_set_far h1 x (some c) hh] at hb
      by_cases hh2 : ∃ r, q = P ++ x :: r
      · obtain ⟨r2, rfl⟩ := hh2
        obtain ⟨rfl, rfl⟩ := hat r2 b hq
        exact absurd hb (hnew hs p)
      · rw [show (setE g d x (some c)).root = g.root from rfl, fnd_set_far h1 x (some c) hh2] at hq
        exact h.one p q b hb hq hs
  · by_cases e1 : b = d
    · subst e1
      rw [setE_d hm] at hb
      have hb := Option.some.inj hb
      subst hb
      have hy : (if y = x then some c else m y) = some e := hy
      by_cases e2 : y = x
      · rw [e2]; exact hx
      · rw [if_neg e2] at hy
        exact h.name b m y e hm hy
    · rw [setE_ne e1] at hb
      exact h.name b m' y e hb hy
/-- An entry is struck. -/
theorem OK.drop {g : G} (h : OK g) {d : Nat} {P : List Nme} {x : Nme} (hp : fnd g g.root P = .ok d) (hd : (g.ent d).isSome = true) : OK (setE g d x none) := by
  have h1 := h.way hp hd
  obtain ⟨m, hm⟩ := Option.isSome_iff_exists.1 hd
  have hold : ∀ p b, fnd (setE g d x none) g.root p = .ok b → fnd g g.root p = .ok b := fun p b hb => by
    by_cases hh : ∃ r, p = P ++ x :: r
    · obtain ⟨r, rfl⟩ := hh
      rw [fnd_set_at h1 hm x none r] at hb
      cases hb
    · rw [fnd_set_far h1 x none hh] at hb
      exact hb
  refine ⟨by rw [show (setE g d x none).root = g.root from rfl, setE_some]; exact h.root, fun p b hb => h.short p b (hold p b hb), fun p q b hb hq hs => h.one p q b (hold p b hb) (hold q b hq) (by rw [setE_some] at hs; exact hs), fun b m' y e hb hy => ?_⟩
  by_cases e1 : b = d
  · subst e1
    rw [setE_d hm] at hb
    have hb := Option.some.inj hb
    subst hb
    have hy : (if y = x then none else m y) = some e := hy
    by_cases e2 : y = x
    · rw [if_pos e2] at hy; cases hy
    · rw [if_neg e2] at hy
      exact h.name b m y e hm hy
  · rw [setE_ne e1] at hb
    exact h.name b m' y e hb hy
/-! ### A move -/
def movE (g : G) (d : Nat) (x : Nme) (d' : Nat) (x' : Nme) (n : Nat) : G := setE (setE g d x none) d' x' (some n)
structure Mv (g : G) (P : List Nme) (d : Nat) (x : Nme) (n : Nat) (P' : List Nme) (d' : Nat) (x' : Nme) : Prop where
  p : fnd g g.root P = .ok d
  hd : (g.ent d).isSome = true
  k : kid g d x = some n
  p' : fnd g g.root P' = .ok d'
  hd' : (g.ent d').isSome = true
  k' : kid g d' x' = none
  off : Off g n d'
section
variable {g : G} {P P' : List Nme} {d d' n : Nat} {x x' : Nme}
theorem fnd_step {g : G} {d n : Nat} {x : Nme} (h : kid g d x = some n) (r : List Nme) : fnd g d (x :: r) = fnd g n r := by
  unfold kid at h
  rw [fnd_cons]
  cases hm : g.ent d with
  | none => rw [hm] at h; cases h
  | some m =>
    rw [hm] at h
    have h : m x = some n := h
    show (match m x with | none => Rs.err 5 | some c => fnd g c r) = _
    rw [h]
theorem Mv.old (h : Mv g P d x n P' d' x') (r : List Nme) : fnd g g.root (P ++ x :: r) = fnd g n r := by rw [fnd_app_ok h.p, fnd_step h.k]
theorem Mv.offd (h : Mv g P d x n P' d' x') (hO : OK g) : Off g n d := fun q hq => by
  have h1 : fnd g g.root (P ++ x :: q) = .ok d := by rw [h.old, hq]
  have := congrArg List.length (hO.one _ _ d h1 h.p h.hd)
  simp at this
theorem Mv.way1 (h : Mv g P d x n P' d' x') (hO : OK g) : One (setE g d x none) d' P' := by
  have h1 := hO.way h.p h.hd
  obtain ⟨m, hm⟩ := Option.isSome_iff_exists.1 h.hd
  have hno : ¬ ∃ r, P' = P ++ x :: r := fun ⟨r, e⟩ => by
    have := h.p'
    rw [e, h.old] at this
    exact h.off r this
  refine (hO.drop (x := x) h.p h.hd).way ?_ (by rw [setE_some]; exact h.hd')
  rw [show (setE g d x none).root = g.root from rfl, fnd_set_far h1 x none hno]
  exact h.p'
theorem Mv.sub (h : Mv g P d x n P' d' x') (hO : OK g) (r : List Nme) : fnd (movE g d x d' x' n) n r = fnd g n r := by
  unfold movE
  have h1 := h.offd hO
  have h2 : Off (setE g d x none) n d' := fun q => by rw [fnd_off h1]; exact h.off q
  rw [fnd_off h2, fnd_off h1]
/-- What is found behind a move. -/
theorem Mv.new (h : Mv g P d x n P' d' x') (hO : OK g) (r : List Nme) : fnd (movE g d x d' x' n) g.root (P' ++ x' :: r) = fnd g n r := by
  obtain ⟨m, hm⟩ : ∃ m, (setE g d x none).ent d' = some m := Option.isSome_iff_exists.1 (by rw [setE_some]; exact h.hd')
  have := fnd_set_at (h.way1 hO) hm x' (some n) r
  rw [show (setE g d x none).root = g.root from rfl] at this
  exact this.trans (h.sub hO r)
theorem Mv.gone (h : Mv g P d x n P' d' x') (hO : OK g) {p : List Nme} (h1 : ¬ ∃ r, p = P' ++ x' :: r) (h2 : ∃ r, p = P ++ x :: r) : fnd (movE g d x d' x' n) g.root p = .err 5 := by
  have := fnd_set_far (h.way1 hO) x' (some n) h1
  rw [show (setE g d x none).root = g.root from rfl] at this
  unfold movE
  rw [this]
  obtain ⟨r, rfl⟩ := h2
  obtain ⟨m, hm⟩ := Option.isSome_iff_exists.1 h.hd
  rw [fnd_set_at (hO.way h.p h.hd) hm x none r]
theorem Mv.far (h : Mv g P d x n P' d' x') (hO : OK g) {p : List Nme} (h1 : ¬ ∃ r, p = P' ++ x' :: r) (h2 : ¬ ∃ r, p = P ++ x :: r) : fnd (movE g d x d' x' n) g.root p = fnd g g.root p := by
  have := fnd_set_far (h.way1 hO) x' (some n) h1
  rw [show (setE g d x none).root = g.root from rfl] at this
  unfold movE
  rw [this, fnd_set_far (hO.way h.p h.hd) x none h2]
theorem Mv.isD (b : Nat) : ((movE g d x d' x' n).ent b).isSome = (g.ent b).isSome := by unfold movE; rw [setE_some, setE_some]
theorem Mv.ok (h : Mv g P d x n P' d' x') (hO : OK g) (hx : Pa.IsName x') (hdeep : ∀ r c, fnd g n r = .ok c → P'.length + 1 + r.length ≤ 8) : OK (movE g d x d' x' n) := by
  have hr : (movE g d x d' x' n).root = g.root := rfl
  -- each way behind the move is one ahead of it
  have hback : ∀ p b, fnd (movE g d x d' x' n) g.root p = .ok b → (∃ r, p = P' ++ x' :: r ∧ fnd g g.root (P ++ x :: r) = .ok b ∧ fnd g n r = .ok b) ∨ ((¬ ∃ r, p = P' ++ x' :: r) ∧ (¬ ∃ r, p = P ++ x :: r) ∧ fnd g g.root p = .ok b) := fun p b hb => by
    by_cases h1 : ∃ r, p = P' ++ x' :: r
    · obtain ⟨r, rfl⟩ := h1
      rw [h.new hO] at hb
      exact .inl ⟨r, rfl, by rw [h.old]; exact hb, hb⟩
    · by_cases h2 : ∃ r, p = P ++ x :: r
      · rw [h.gone hO h1 h2] at hb; cases hb
      · rw [h.far hO h1 h2] at hb
        exact .inr ⟨h1, h2, hb⟩
  refine ⟨by rw [hr, Mv.isD]; exact hO.root, fun p b hb => ?_, fun p q b hb hq hs => ?_, fun b m y e hb hy => ?_⟩
  · rcases hback p b hb with ⟨r, rfl, -, h1⟩ | ⟨-, -, h1⟩
    · have := hdeep r b h1
      rw [List.length_append, List.length_cons]
      omega
    · exact hO.short p b h1
  · rw [Mv.isD] at hs
    rcases hback p b hb with ⟨r, rfl, h1, -⟩ | ⟨a1, a2, h1⟩
    · rcases hback q b hq with ⟨r2, rfl, h2, -⟩ | ⟨c1, c2, h2⟩
      · have := hO.one _ _ b h1 h2 hs
        have := List.append_cancel_left this
        injection this with _ e
        rw [e]
      · have := hO.one _ _ b h1 h2 hs
        exact absurd ⟨r, this.symm⟩ c2
    · rcases hback q b hq with ⟨r2, rfl, h2, -⟩ | ⟨c1, c2, h2⟩
      · have := hO.one _ _ b h1 h2 hs
        exact absurd ⟨r2, this⟩ a2
      · exact hO.one _ _ b h1 h2 hs
  · unfold movE at hb
    by_cases e1 : b = d'
    · subst e1
      obtain ⟨m1, hm1⟩ : ∃ m, (setE g d x none).ent b = some m := Option.isSome_iff_exists.1 (by rw [setE_some]; exact h.hd')
      rw [setE_d hm1] at hb
      have hb := Option.some.inj hb
      subst hb
      have hy : (if y = x' then some n else m1 y) = some e := hy
      by_cases e2 : y = x'
      · rw [e2]; exact hx
      · rw [if_neg e2] at hy
        exact (hO.drop (x := x) h.p h.hd).name b m1 y e hm1 hy
    · rw [setE_ne e1] at hb
      exact (hO.drop (x := x) h.p h.hd).name b m y e hb hy
end
/-- There and back. -/
theorem Mv.back {g : G} {P P' : List Nme} {d d' n : Nat} {x x' : Nme} (h : Mv g P d x n P' d' x') (hO : OK g) : Mv (movE g d x d' x' n) P' d' x' n P d x := by
  have hno' : ¬ ∃ r, P' = P' ++ x' :: r := fun ⟨r, e⟩ => by have := congrArg List.length e; simp at this
  have hno : ¬ ∃ r, P = P ++ x :: r := fun ⟨r, e⟩ => by have := congrArg List.length e; simp at this
  have hnp : ¬ ∃ r, P' = P ++ x :: r := fun ⟨r, e⟩ => by
    have := h.p'
    rw [e, h.old] at this
    exact h.off r this
  have hnp' : ¬ ∃ r, P = P' ++ x' :: r := fun ⟨r, e⟩ => by
    have h1 := h.p
    rw [e, fnd_app_ok h.p', fnd_cons] at h1
    obtain ⟨m, hm⟩ := Option.isSome_iff_exists.1 h.hd'
    rw [hm] at h1
    have hk := h.k'
    rw [kid_of hm] at hk
    have h1 : (match m x' with | none => Rs.err 5 | some c => fnd g c r) = .ok d := h1
    rw [hk] at h1
    cases h1
  have hne : d = d' → x ≠ x' := fun e1 e2 => by
    have := h.k
    rw [e1, e2, h.k'] at this
    cases this
  refine ⟨?_, by rw [Mv.isD]; exact h.hd', ?_, ?_, by rw [Mv.isD]; exact h.hd, ?_, fun q hq => ?_⟩
  · exact (h.far hO hno' hnp).trans h.p'
  · unfold movE
    rw [kid_set (by rw [setE_some]; exact h.hd'), if_pos rfl]
  · exact (h.far hO hnp' hno).trans h.p
  · unfold movE
    by_cases e : d = d'
    · subst e
      rw [kid_set (by rw [setE_some]; exact h.hd), if_neg (hne rfl), kid_set h.hd, if_pos rfl]
    · rw [kid_set_ne e, kid_set h.hd, if_pos rfl]
  · rw [h.sub hO] at hq
    exact h.offd hO q hq
/-- All is found as it was. -/
theorem Mv.again {g : G} {P P' : List Nme} {d d' n : Nat} {x x' : Nme} (h : Mv g P d x n P' d' x') (hO : OK g) (hO1 : OK (movE g d x d' x' n)) (p : List Nme) : fnd (movE (movE g d x d' x' n) d' x' d x n) g.root p = fnd g g.root p ∨ (fnd (movE (movE g d x d' x' n) d' x' d x n) g.root p = .err 5 ∧ ∃ e, fnd g g.root p = .err e) := by
  have hb := h.back hO
  have hr : (movE g d x d' x' n).root = g.root := rfl
  by_cases h1 : ∃ r, p = P ++ x :: r
  · obtain ⟨r, rfl⟩ := h1
    have := hb.new hO1 r
    rw [hr] at this
    exact .inl (by rw [this, h.sub hO, h.old])
  · by_cases h2 : ∃ r, p = P' ++ x' :: r
    · have := hb.gone hO1 h1 h2
      rw [hr] at this
      refine .inr ⟨this, ?_⟩
      obtain ⟨r, rfl⟩ := h2
      obtain ⟨m, hm⟩ := Option.isSome_iff_exists.1 h.hd'
      have hk := h.k'
      rw [kid_of hm] at hk
      refine ⟨5, ?_⟩
      rw [fnd_app_ok h.p', fnd_cons, hm]
      show (match m x' with | none => Rs.err 5 | some c => fnd g c r) = _
      rw [hk]
    · have := hb.far hO1 h1 h2
      rw [hr] at this
      exact .inl (this.trans (h.far hO h2 h1))
end Tr
end Go.Proofs.YtnglhfeialomgaaGreatDoor
/- What Walk tells of a tree of directories, in plain Lean. -/
namespace Go.Proofs.YtnglhfeialomgaaGreatDoor
namespace Tr

theorem long_names : ∀ {l : List Nme}, (∀ p ∈ l, Pa.IsName p) → Pa.long l ≤ 5 * l.length
  | [], _ => by rw [Pa.long_nil]; exact Nat.zero_le _
  | p :: l, h => by
    have ih := long_names (l := l) (fun q hq => h q (by simp [hq]))
    have := (h p (by simp)).2.1
    rw [Pa.long_cons, List.length_cons]
    omega
theorem shown_len {l : List Nme} (h : ∀ p ∈ l, Pa.IsName p) (hl : l.length ≤ 8) : (Pa.shown l).length ≤ 41 := by
  have := long_names h
  unfold Pa.shown
  split
  · decide
  · rw [Pa.flat_len]; omega
/-- The text of a way: a directory's has a slash behind. -/
def txtB (p : List Nme) (b : Bool) : List UInt8 := Pa.shown p ++ (if b = true then [47] else [])
def txt (g : G) (p : List Nme) (c : Nat) : List UInt8 := txtB p (g.ent c).isSome
theorem parts_txt {l : List Nme} (h : ∀ p ∈ l, Pa.IsName p) (hl : l.length ≤ 8) (b : Bool) : Pa.parts (txtB l b) = (l, 0) := by
  have h1 := shown_len h hl
  have h2 := Pa.shown_head l
  have h3 := Pa.shown_cut h
  cases b with
  | false =>
    have e : txtB l false = Pa.shown l := by unfold txtB; simp
    rw [e]
    exact Pa.parts_of (by omega) h2 h3 hl
  | true =>
    have e : txtB l true = Pa.shown l ++ [47] := by unfold txtB; simp
    rw [e]
    have h4 := Pa.head_tail h2
    refine Pa.parts_of (by rw [List.length_append]; simp; omega) (by rw [h4]; rfl) ?_ hl
    have e2 : (Pa.shown l ++ [47]).tail = (Pa.shown l).tail ++ 47 :: [] := by rw [h4]; rfl
    rw [e2, Pa.cut_join, Pa.run_append, h3]
    show Pa.run l (Pa.cut []) = some l
    rw [show Pa.cut [] = [[]] from rfl, Pa.run_cons, Pa.step_skip (.inl rfl)]
    rfl
/-- Names along a way. -/
theorem fnd_names {g : G} (h : OK g) : ∀ (p : List Nme) (n c : Nat), fnd g n p = .ok c → ∀ x ∈ p, Pa.IsName x
  | [], _, _, _, x, hx => by cases hx
  | y :: r, n, c, hf, x, hx => by
    obtain ⟨d, m, e, hd, hm, hy, hr⟩ := fnd_front (p := []) hf
    injection hd with hd
    subst hd
    rcases List.mem_cons.1 hx with rfl | hx
    · exact h.name _ m _ e hm hy
    · exact fnd_names h r e c hr x hx
/-- Is a text one of a way? -/
def InW (g : G) (s : List UInt8) : Prop := ∃ p c, p ≠ [] ∧ fnd g g.root p = .ok c ∧ s = txt g p c
/-- The texts of all ways, rising. -/
def WalkIs (g : G) (l : List (List UInt8)) : Prop := l.Pairwise (· < ·) ∧ ∀ s, s ∈ l ↔ InW g s
theorem lt_nodup {l : List (List UInt8)} (h : l.Pairwise (· < ·)) : l.Nodup := h.imp (fun {a b} h e => by rw [e] at h; exact List.lt_irrefl _ h)
theorem lt_eq {l l' : List (List UInt8)} (h : l.Pairwise (· < ·)) (h' : l'.Pairwise (· < ·)) (hm : ∀ s, s ∈ l ↔ s ∈ l') : l = l' := by
  have hp : l.Perm l' := (List.perm_ext_iff_of_nodup (lt_nodup h) (lt_nodup h')).2 hm
  refine hp.eq_of_pairwise (le := fun a b => a < b) (fun a b _ _ h1 h2 => absurd h2 (List.lt_asymm h1)) h h'
theorem walk_eq {g g' : G} {l l' : List (List UInt8)} (h : WalkIs g l) (h' : WalkIs g' l') (hs : ∀ s, InW g s ↔ InW g' s) : l = l' :=
  lt_eq h.1 h'.1 (fun s => by rw [h.2, h'.2, hs])
/-- One way more. -/
theorem walk_more {g g' : G} {l l' : List (List UInt8)} (h : WalkIs g l) (h' : WalkIs g' l') {t : List UInt8} (ht : ¬ InW g t) (hs : ∀ s, InW g' s ↔ InW g s ∨ s = t) : l'.length = l.length + 1 := by
  have hn : (t :: l).Nodup := List.nodup_cons.2 ⟨fun hm => ht ((h.2 t).1 hm), lt_nodup h.1⟩
  have hp : l'.Perm (t :: l) := (List.perm_ext_iff_of_nodup (lt_nodup h'.1) hn).2 fun s => by
    rw [h'.2, hs, List.mem_cons, h.2]
    exact ⟨fun h => h.symm, fun h => h.symm⟩
  rw [hp.length_eq, List.length_cons]
/-- Two graphs along whose ways the same is found tell the same. -/
def SameF (g g' : G) : Prop := ∀ p, (∃ c c', fnd g g.root p = .ok c ∧ fnd g' g'.root p = .ok c' ∧ (g.ent c).isSome = (g'.ent c').isSome) ∨ ((∃ e, fnd g g.root p = .err e) ∧ ∃ e, fnd g' g'.root p = .err e)
theorem SameF.inW {g g' : G} (h : SameF g g') (s : List UInt8) : InW g s ↔ InW g' s := by
  constructor
  · rintro ⟨p, c, hp, hf, rfl⟩
    rcases h p with ⟨c1, c2, h1, h2, h3⟩ | ⟨⟨e, h1⟩, -⟩
    · rw [hf] at h1
      injection h1 with h1
      subst h1
      exact ⟨p, c2, hp, h2, by unfold txt; rw [h3]⟩
    · rw [hf] at h1; cases h1
  · rintro ⟨p, c, hp, hf, rfl⟩
    rcases h p with ⟨c1, c2, h1, h2, h3⟩ | ⟨-, ⟨e, h1⟩⟩
    · rw [hf] at h2
      injection h2 with h2
      subst h2
      exact ⟨p, c1, hp, h1, by unfold txt; rw [h3]⟩
    · rw [hf] at h1; cases h1
/-- The ways of what Walk tells. -/
theorem walk_ways {g : G} (h : OK g) {l : List (List UInt8)} (hw : WalkIs g l) : (l.map (fun s => (Pa.parts s).1)).Nodup ∧ ∀ p, p ∈ l.map (fun s => (Pa.parts s).1) ↔ p ≠ [] ∧ ∃ c, fnd g g.root p = .ok c := by
  have hpt : ∀ p c, fnd g g.root p = .ok c → Pa.parts (txt g p c) = (p, 0) := fun p c hf => parts_txt (fnd_names h p _ c hf) (h.short p c hf) _
  constructor
  · refine List.pairwise_map.2 ((lt_nodup hw.1).imp_of_mem fun {s t} hs ht hne e => hne ?_)
    obtain ⟨p, c, _, hf, rfl⟩ := (hw.2 s).1 hs
    obtain ⟨q, c', _, hf', rfl⟩ := (hw.2 t).1 ht
    rw [hpt p c hf, hpt q c' hf'] at e
    have e : p = q := e
    subst e
    rw [hf] at hf'
    injection hf' with e
    rw [e]
  · intro p
    rw [List.mem_map]
    constructor
    · rintro ⟨s, hs, rfl⟩
      obtain ⟨q, c, hq, hf, rfl⟩ := (hw.2 s).1 hs
      rw [hpt q c hf]
      exact ⟨hq, c, hf⟩
    · rintro ⟨hp, c, hf⟩
      exact ⟨txt g p c, (hw.2 _).2 ⟨p, c, hp, hf, rfl⟩, by rw [hpt p c hf]⟩
/-- As many ways. -/
theorem walk_many {g g' : G} (h : OK g) (h' : OK g') {l l' : List (List UInt8)} (hw : WalkIs g l) (hw' : WalkIs g' l') (f : List Nme → List Nme) (hinj : ∀ p q, (∃ c, fnd g g.root p = .ok c) → (∃ c, fnd g g.root q = .ok c) → f p = f q → p = q) (hf : ∀ p, (p ≠ [] ∧ ∃ c, fnd g' g'.root p = .ok c) ↔ ∃ q, (q ≠ [] ∧ ∃ c, fnd g g.root q = .ok c) ∧ p = f q) : l'.length = l.length := by
  obtain ⟨n1, m1⟩ := walk_ways h hw
  obtain ⟨n2, m2⟩ := walk_ways h' hw'
  have n3 : ((l.map (fun s => (Pa.parts s).1)).map f).Nodup := by
    refine List.pairwise_map.2 (n1.imp_of_mem fun {p q} hp hq hne e => hne (hinj p q ((m1 p).1 hp).2 ((m1 q).1 hq).2 e))
  have hp : (l'.map (fun s => (Pa.parts s).1)).Perm ((l.map (fun s => (Pa.parts s).1)).map f) := (List.perm_ext_iff_of_nodup n2 n3).2 fun p => by
    rw [m2, hf, List.mem_map]
    constructor
    · rintro ⟨q, hq, rfl⟩
      exact ⟨q, (m1 q).2 hq, rfl⟩
    · rintro ⟨q, hq, rfl⟩
      exact ⟨q, (m1 q).1 hq, rfl⟩
  have := hp.length_eq
  rw [List.length_map, List.length_map, List.length_map] at this
  exact this
/-- A move leaves as many ways. -/
theorem Mv.many {g : G} {P P' : List Nme} {d d' n : Nat} {x x' : Nme} (h : Mv g P d x n P' d' x') (hO : OK g) (hO' : OK (movE g d x d' x' n)) {l l' : List (List UInt8)} (hw : WalkIs g l) (hw' : WalkIs (movE g d x d' x' n) l') : l'.length = l.length := by
  classical
  have hnone : ∀ r c, fnd g g.root (P' ++ x' :: r) ≠ .ok c := fun r c hc => by
    obtain ⟨m, hm⟩ := Option.isSome_iff_exists.1 h.hd'
    have hk := h.k'
    rw [kid_of hm] at hk
    rw [fnd_app_ok h.p', fnd_cons, hm] at hc
    have hc : (match m x' with | none => Rs.err 5 | some c => fnd g c r) = .ok c := hc
    rw [hk] at hc
    cases hc
  have hr : (movE g d x d' x' n).root = g.root := rfl
  refine walk_many hO hO' hw hw' (fun p => if ∃ r, p = P ++ x :: r then P' ++ x' :: p.drop (P.length + 1) else p) (fun p q ⟨c1, h1⟩ ⟨c2, h2⟩ e => ?_) (fun p => ?_)
  · have e : (if ∃ r, p = P ++ x :: r then P' ++ x' :: p.drop (P.length + 1) else p) = (if ∃ r, q = P ++ x :: r then P' ++ x' :: q.drop (P.length + 1) else q) := e
    by_cases a : ∃ r, p = P ++ x :: r
    · rw [if_pos a] at e
      obtain ⟨r, rfl⟩ := a
      by_cases b : ∃ r, q = P ++ x :: r
      · rw [if_pos b] at e
        obtain ⟨r2, rfl⟩ := b
        have := List.append_cancel_left e
        injection this with _ this
        simp [List.drop_append] at this
        rw [this]
      · rw [if_neg b] at e
        rw [← e] at h2
        exact absurd h2 (hnone _ _)
    · rw [if_neg a] at e
      by_cases b : ∃ r, q = P ++ x :: r
      · rw [if_pos b] at e
        rw [e] at h1
        exact absurd h1 (hnone _ _)
      · rw [if_neg b] at e
        exact e
  · rw [hr]
    constructor
    · rintro ⟨hp, c, hc⟩
      by_cases a : ∃ r, p = P' ++ x' :: r
      · obtain ⟨r, rfl⟩ := a
        rw [h.new hO] at hc
        refine ⟨P ++ x :: r, ⟨by simp, c, by rw [h.old]; exact hc⟩, ?_⟩
        rw [if_pos ⟨r, rfl⟩]
        simp [List.drop_append]
      · by_cases b : ∃ r, p = P ++ x :: r
        · rw [h.gone hO a b] at hc; cases hc
        · rw [h.far hO a b] at hc
          refine ⟨p, ⟨hp, c, hc⟩, ?_⟩
          rw [if_neg b]
    · rintro ⟨q, ⟨hq, c, hc⟩, rfl⟩
      by_cases b : ∃ r, q = P ++ x :: r
      · rw [if_pos b]
        obtain ⟨r, rfl⟩ := b
        refine ⟨by simp, c, ?_⟩
        have hd : (P ++ x :: r).drop (P.length + 1) = r := by rw [show P ++ x :: r = (P ++ [x]) ++ r by simp, List.drop_left' (by simp)]
        rw [h.new hO, ← hc, h.old, hd]
      · rw [if_neg b]
        have a : ¬ ∃ r, q = P' ++ x' :: r := fun ⟨r, e⟩ => by rw [e] at hc; exact hnone r c hc
        exact ⟨hq, c, by rw [h.far hO a b]; exact hc⟩
end Tr
end Go.Proofs.YtnglhfeialomgaaGreatDoor

/- What Walk tells behind an addition, a drop, a move there and back; in plain Lean. -/
namespace Go.Proofs.YtnglhfeialomgaaGreatDoor
namespace Tr

/-- A text of a way that is not there is not told. -/
theorem not_inW {g : G} (h : OK g) {p : List Nme} (hn : ∀ x ∈ p, Pa.IsName x) (hl : p.length ≤ 8) (hno : ∀ c, fnd g g.root p ≠ .ok c) (b : Bool) : ¬ InW g (txtB p b) := by
  rintro ⟨q, c, -, hf, e⟩
  have h1 := parts_txt hn hl b
  have h2 := parts_txt (fnd_names h q _ c hf) (h.short q c hf) (g.ent c).isSome
  rw [e, show txt g q c = txtB q (g.ent c).isSome from rfl, h2] at h1
  have h1 : q = p := (Prod.mk.inj h1).1
  rw [h1] at hf
  exact hno c hf
/-- Only entries count. -/
theorem inW_congr {g g' : G} (hr : g'.root = g.root) (he : ∀ b, g'.ent b = g.ent b) (s : List UInt8) : InW g' s ↔ InW g s := by
  have hf := fnd_congr he
  constructor
  · rintro ⟨p, c, hp, h, rfl⟩
    rw [hr, hf] at h
    exact ⟨p, c, hp, h, by unfold txt; rw [he]⟩
  · rintro ⟨p, c, hp, h, rfl⟩
    exact ⟨p, c, hp, by rw [hr, hf]; exact h, by unfold txt; rw [he]⟩
section
variable {g : G} {d c : Nat} {P : List Nme} {x : Nme}
theorem free_none (hp : fnd g g.root P = .ok d) (hk : kid g d x = none) (r : List Nme) (b : Nat) : fnd g g.root (P ++ x :: r) ≠ .ok b := fun hb => by
  rw [fnd_app_ok hp, fnd_cons] at hb
  cases hm : g.ent d with
  | none => rw [hm] at hb; cases hb
  | some m =>
    rw [hm] at hb
    rw [kid_of hm] at hk
    have hb : (match m x with | none => Rs.err 5 | some c => fnd g c r) = .ok b := hb
    rw [hk] at hb
    cases hb
/-- A leaf added: one way more. -/
theorem add_inW (h : OK g) (hp : fnd g g.root P = .ok d) (hd : (g.ent d).isSome = true) (hk : kid g d x = none) (hc : c ≠ d) (hleaf : Leaf g c) (s : List UInt8) : InW (setE g d x (some c)) s ↔ InW g s ∨ s = txtB (P ++ [x]) (g.ent c).isSome := by
  have h1 := h.way hp hd
  obtain ⟨m, hm⟩ := Option.isSome_iff_exists.1 hd
  have hlf : Leaf (setE g d x (some c)) c := fun y => by rw [kid_set_ne hc]; exact hleaf y
  have hr : (setE g d x (some c)).root = g.root := rfl
  constructor
  · rintro ⟨p, b, hpn, hb, rfl⟩
    by_cases hh : ∃ r, p = P ++ x :: r
    · obtain ⟨r, rfl⟩ := hh
      rw [hr, fnd_set_at h1 hm x (some c) r] at hb
      obtain ⟨rfl, rfl⟩ := fnd_leaf hlf hb
      exact .inr (by unfold txt; rw [setE_some])
    · rw [hr, fnd_set_far h1 x (some c) hh] at hb
      exact .inl ⟨p, b, hpn, hb, by unfold txt; rw [setE_some]⟩
  · rintro (⟨p, b, hpn, hb, rfl⟩ | rfl)
    · have hh : ¬ ∃ r, p = P ++ x :: r := fun ⟨r, e⟩ => by rw [e] at hb; exact free_none hp hk r b hb
      exact ⟨p, b, hpn, by rw [hr, fnd_set_far h1 x (some c) hh]; exact hb, by unfold txt; rw [setE_some]⟩
    · exact ⟨P ++ [x], c, by simp, by rw [hr, fnd_set_at h1 hm x (some c) []]; rfl, by unfold txt; rw [setE_some]⟩
/-- A leaf's entry struck: one way less. -/
theorem drop_inW (h : OK g) (hp : fnd g g.root P = .ok d) (hd : (g.ent d).isSome = true) (hk : kid g d x = some c) (hleaf : Leaf g c) (s : List UInt8) : InW g s ↔ InW (setE g d x none) s ∨ s = txtB (P ++ [x]) (g.ent c).isSome := by
  have h1 := h.way hp hd
  obtain ⟨m, hm⟩ := Option.isSome_iff_exists.1 hd
  have hr : (setE g d x none).root = g.root := rfl
  constructor
  · rintro ⟨p, b, hpn, hb, rfl⟩
    by_cases hh : ∃ r, p = P ++ x :: r
    · obtain ⟨r, rfl⟩ := hh
      rw [fnd_app_ok hp, fnd_step hk] at hb
      obtain ⟨rfl, rfl⟩ := fnd_leaf hleaf hb
      exact .inr rfl
    · exact .inl ⟨p, b, hpn, by rw [hr, fnd_set_far h1 x none hh]; exact hb, by unfold txt; rw [setE_some]⟩
  · rintro (⟨p, b, hpn, hb, rfl⟩ | rfl)
    · by_cases hh : ∃ r, p = P ++ x :: r
      · obtain ⟨r, rfl⟩ := hh
        rw [hr, fnd_set_at h1 hm x none r] at hb
        cases hb
      · rw [hr, fnd_set_far h1 x none hh] at hb
        exact ⟨p, b, hpn, hb, by unfold txt; rw [setE_some]⟩
    · exact ⟨P ++ [x], c, by simp, by rw [fnd_app_ok hp, fnd_step hk]; rfl, rfl⟩
/-- Behind a drop the way is not there. -/
theorem drop_free (h : OK g) (hp : fnd g g.root P = .ok d) (hd : (g.ent d).isSome = true) (r : List Nme) (b : Nat) : fnd (setE g d x none) g.root (P ++ x :: r) ≠ .ok b := fun hb => by
  obtain ⟨m, hm⟩ := Option.isSome_iff_exists.1 hd
  rw [fnd_set_at (h.way hp hd) hm x none r] at hb
  cases hb
end
/-- There and back: the same is told. -/
theorem Mv.sameF {g : G} {P P' : List Nme} {d d' n : Nat} {x x' : Nme} (h : Mv g P d x n P' d' x') (hO : OK g) (hO1 : OK (movE g d x d' x' n)) : SameF (movE (movE g d x d' x' n) d' x' d x n) g := fun p => by
  rcases h.again hO hO1 p with e | ⟨e, e'⟩
  · have hr : (movE (movE g d x d' x' n) d' x' d x n).root = g.root := rfl
    cases hf : fnd g g.root p with
    | ok c => exact .inl ⟨c, c, by rw [hr, e, hf], rfl, by rw [Mv.isD, Mv.isD]⟩
    | err c => exact .inr ⟨⟨c, by rw [hr, e, hf]⟩, c, rfl⟩
  · exact .inr ⟨⟨5, e⟩, e'⟩
/-- The way back is as short as it was. -/
theorem Mv.backDeep {g : G} {P P' : List Nme} {d d' n : Nat} {x x' : Nme} (h : Mv g P d x n P' d' x') (hO : OK g) (r : List Nme) (c : Nat) (hr : fnd (movE g d x d' x' n) n r = .ok c) : P.length + 1 + r.length ≤ 8 := by
  rw [h.sub hO] at hr
  have := hO.short (P ++ x :: r) c (by rw [h.old]; exact hr)
  rw [List.length_append, List.length_cons] at this
  omega
end Tr
end Go.Proofs.YtnglhfeialomgaaGreatDoor
