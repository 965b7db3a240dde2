/- Trees of directories: what the operations do to the graph, in plain Lean. -/

import Derived.Test.YtnglhfeialomgaaDoorTq05
namespace Go.Proofs.YtnglhfeialomgaaDoor
namespace Tr

def kid (g : G) (d : Nat) (x : Nme) : Option Nat := (g.ent d).bind (fun m => m x)
theorem kid_of {g : G} {d : Nat} {m : Nme → Option Nat} (h : g.ent d = some m) (x : Nme) : kid g d x = m x := by unfold kid; rw [h]; rfl
/-- The directory that a path's last name stands in, and that name. -/
inductive Sp where
  | at_ (d : Nat) (x : Nme)
  | err (c : Int)
def spotL (g : G) (l : List Nme) : Sp := if l = [] then .err 7 else match fnd g g.root l.dropLast with
  | .err e => .err e
  | .ok d => if (g.ent d).isSome = true then .at_ d (l.getLastD []) else .err 3
def spot (g : G) (s : List UInt8) : Sp := if (Pa.parts s).2 = 0 then spotL g (Pa.parts s).1 else .err (Pa.parts s).2
theorem spot_at {g : G} {s : List UInt8} {d : Nat} {x : Nme} (h : spot g s = .at_ d x) : ∃ P, Pa.parts s = (P ++ [x], 0) ∧ fnd g g.root P = .ok d ∧ (g.ent d).isSome = true := by
  unfold spot at h
  split at h
  · rename_i h0
    unfold spotL at h
    split at h
    · cases h
    · rename_i hl
      split at h
      · cases h
      · rename_i d' hd
        split at h
        · rename_i hs
          injection h with e1 e2
          subst e1
          refine ⟨(Pa.parts s).1.dropLast, ?_, hd, hs⟩
          have h1 : (Pa.parts s).1.dropLast ++ [x] = (Pa.parts s).1 := by
            rw [← e2, List.getLastD_eq_getLast?, List.getLast?_eq_some_getLast hl]
            exact List.dropLast_concat_getLast hl
          rw [h1, ← h0]
        · cases h
  · cases h
theorem fnd_congr {g g' : G} (h : ∀ b, g'.ent b = g.ent b) : ∀ (p : List Nme) (n : Nat), fnd g' n p = fnd g n p
  | [], _ => rfl
  | x :: p, n => by
    rw [fnd_cons, fnd_cons, h n]
    cases g.ent n with
    | none => rfl
    | some m =>
      show (match m x with | none => Rs.err 5 | some c => fnd g' c p) = match m x with | none => Rs.err 5 | some c => fnd g c p
      cases m x with
      | none => rfl
      | some c => exact fnd_congr h p c
theorem OK.congr {g g' : G} (h : OK g) (hr : g'.root = g.root) (he : ∀ b, g'.ent b = g.ent b) : OK g' := by
  have hf := fnd_congr he
  refine ⟨by rw [hr, he]; exact h.root, fun p c hp => ?_, fun p q c hp hq hc => ?_, fun d m x c hd hx => ?_⟩
  · rw [hr, hf] at hp; exact h.short p c hp
  · rw [hr, hf] at hp hq; rw [he] at hc; exact h.one p q c hp hq hc
  · rw [he] at hd; exact h.name d m x c hd hx
/-- A file, or a directory without entries. -/
def Leaf (g : G) (c : Nat) : Prop := ∀ x, kid g c x = none
theorem fnd_leaf {g : G} {c b : Nat} (h : Leaf g c) {q : List Nme} (hq : fnd g c q = .ok b) : q = [] ∧ b = c := by
  cases q with
  | nil => injection hq with hq; exact ⟨rfl, hq.symm⟩
  | cons x q =>
    exfalso
    rw [fnd_cons] at hq
    have hx := h x
    cases hm : g.ent c with
    | none => rw [hm] at hq; cases hq
    | some m =>
      rw [hm] at hq
      rw [kid_of hm] at hx
      have hq : (match m x with | none => Rs.err 5 | some c => fnd g c q) = .ok b := hq
      rw [hx] at hq
      cases hq
theorem kid_set_ne {g : G} {d b : Nat} (h : b ≠ d) (x : Nme) (o : Option Nat) (y : Nme) : kid (setE g d x o) b y = kid g b y := by unfold kid; rw [setE_ne h]
theorem kid_set {g : G} {d : Nat} (hd : (g.ent d).isSome = true) (x : Nme) (o : Option Nat) (y : Nme) : kid (setE g d x o) d y = if y = x then o else kid g d y := by
  obtain ⟨m, hm⟩ := Option.isSome_iff_exists.1 hd
  rw [kid_of (setE_d hm x o), kid_of hm]
/-- A leaf is added. -/
theorem OK.add {g : G} (h : OK g) {d : Nat} {P : List Nme} {x : Nme} {c : Nat} (hp : fnd g g.root P = .ok d) (hd : (g.ent d).isSome = true) (hx : Pa.IsName x) (hl : P.length + 1 ≤ 8) (hc : c ≠ d) (hleaf : Leaf g c) (hnew : (g.ent c).isSome = true → ∀ p, fnd g g.root p ≠ .ok c) : OK (setE g d x (some c)) := by
  have h1 := h.way hp hd
  obtain ⟨m, hm⟩ := Option.isSome_iff_exists.1 hd
  have hlf : Leaf (setE g d x (some c)) c := fun y => by rw [kid_set_ne hc]; exact hleaf y
  have hat : ∀ r b, fnd (setE g d x (some c)) g.root (P ++ x :: r) = .ok b → r = [] ∧ b = c := fun r b hb => by
    rw [fnd_set_at h1 hm x (some c) r] at hb
    exact fnd_leaf hlf hb
  refine ⟨by rw [show (setE g d x (some c)).root = g.root from rfl, setE_some]; exact h.root, fun p b hb => ?_, fun p q b hb hq hs => ?_, fun b m' y e hb hy => ?_⟩
  · by_cases hh : ∃ r, p = P ++ x :: r
    · obtain ⟨r, rfl⟩ := hh
      obtain ⟨rfl, -⟩ := hat r b hb
      rw [List.length_append]
      exact hl
    · rw [show (setE g d x (some c)).root = g.root from rfl, fnd_set_far h1 x (some c) hh] at hb
      exact h.short p b hb
  · rw [setE_some] at hs
    by_cases hh : ∃ r, p = P ++ x :: r
    · obtain ⟨r, rfl⟩ := hh
      obtain ⟨rfl, rfl⟩ := hat r b hb
      by_cases hh2 : ∃ r, q = P ++ x :: r
      · obtain ⟨r2, rfl⟩ := hh2
        obtain ⟨rfl, -⟩ := hat r2 b hq
        rfl
      · rw [show (setE g d x (some b)).root = g.root from rfl, fnd_set_far h1 x (some b) hh2] at hq
        exact absurd hq (hnew hs q)
    · rw [show (setE g d x (some c)).root = g.root from rfl, fnd_set_far h1 x (some c) hh] at hb
      by_cases hh2 : ∃ r, q = P ++ x :: r
      · obtain ⟨r2, rfl⟩ := hh2
        obtain ⟨rfl, rfl⟩ := hat r2 b hq
        exact absurd hb (hnew hs p)
      · rw [show (setE g d x (some c)).root = g.root from rfl, fnd_set_far h1 x (some c) hh2] at hq
        exact h.one p q b hb hq hs
  · by_cases e1 : b = d
    · subst e1
      rw [setE_d hm] at hb
      have hb := Option.some.inj hb
      subst hb
      have hy : (if y = x then some c else m y) = some e := hy
      by_cases e2 : y = x
      · rw [e2]; exact hx
      · rw [if_neg e2] at hy
        exact h.name b m y e hm hy
    · rw [setE_ne e1] at hb
      exact h.name b m' y e hb hy
/-- An entry is struck. -/
theorem OK.drop {g : G} (h : OK g) {d : Nat} {P : List Nme} {x : Nme} (hp : fnd g g.root P = .ok d) (hd : (g.ent d).isSome = true) : OK (setE g d x none) := by
  have h1 := h.way hp hd
  obtain ⟨m, hm⟩ := Option.isSome_iff_exists.1 hd
  have hold : ∀ p b, fnd (setE g d x none) g.root p = .ok b → fnd g g.root p = .ok b := fun p b hb => by
    by_cases hh : ∃ r, p = P ++ x :: r
    · obtain ⟨r, rfl⟩ := hh
      rw [fnd_set_at h1 hm x none r] at hb
      cases hb
    · rw [fnd_set_far h1 x none hh] at hb
      exact hb
  refine ⟨by rw [show (setE g d x none).root = g.root from rfl, setE_some]; exact h.root, fun p b hb => h.short p b (hold p b hb), fun p q b hb hq hs => h.one p q b (hold p b hb) (hold q b hq) (by rw [setE_some] at hs; exact hs), fun b m' y e hb hy => ?_⟩
  by_cases e1 : b = d
  · subst e1
    rw [setE_d hm] at hb
    have hb := Option.some.inj hb
    subst hb
    have hy : (if y = x then none else m y) = some e := hy
    by_cases e2 : y = x
    · rw [if_pos e2] at hy; cases hy
    · rw [if_neg e2] at hy
      exact h.name b m y e hm hy
  · rw [setE_ne e1] at hb
    exact h.name b m' y e hb hy
/-! ### A move -/
def movE (g : G) (d : Nat) (x : Nme) (d' : Nat) (x' : Nme) (n : Nat) : G := setE (setE g d x none) d' x' (some n)
structure Mv (g : G) (P : List Nme) (d : Nat) (x : Nme) (n : Nat) (P' : List Nme) (d' : Nat) (x' : Nme) : Prop where
  p : fnd g g.root P = .ok d
  hd : (g.ent d).isSome = true
  k : kid g d x = some n
  p' : fnd g g.root P' = .ok d'
  hd' : (g.ent d').isSome = true
  k' : kid g d' x' = none
  off : Off g n d'
section
variable {g : G} {P P' : List Nme} {d d' n : Nat} {x x' : Nme}
theorem fnd_step {g : G} {d n : Nat} {x : Nme} (h : kid g d x = some n) (r : List Nme) : fnd g d (x :: r) = fnd g n r := by
  unfold kid at h
  rw [fnd_cons]
  cases hm : g.ent d with
  | none => rw [hm] at h; cases h
  | some m =>
    rw [hm] at h
    have h : m x = some n := h
    show (match m x with | none => Rs.err 5 | some c => fnd g c r) = _
    rw [h]
theorem Mv.old (h : Mv g P d x n P' d' x') (r : List Nme) : fnd g g.root (P ++ x :: r) = fnd g n r := by rw [fnd_app_ok h.p, fnd_step h.k]
theorem Mv.offd (h : Mv g P d x n P' d' x') (hO : OK g) : Off g n d := fun q hq => by
  have h1 : fnd g g.root (P ++ x :: q) = .ok d := by rw [h.old, hq]
  have := congrArg List.length (hO.one _ _ d h1 h.p h.hd)
  simp at this
theorem Mv.way1 (h : Mv g P d x n P' d' x') (hO : OK g) : One (setE g d x none) d' P' := by
  have h1 := hO.way h.p h.hd
  obtain ⟨m, hm⟩ := Option.isSome_iff_exists.1 h.hd
  have hno : ¬ ∃ r, P' = P ++ x :: r := fun ⟨r, e⟩ => by
    have := h.p'
    rw [e, h.old] at this
    exact h.off r this
  refine (hO.drop (x := x) h.p h.hd).way ?_ (by rw [setE_some]; exact h.hd')
  rw [show (setE g d x none).root = g.root from rfl, fnd_set_far h1 x none hno]
  exact h.p'
theorem Mv.sub (h : Mv g P d x n P' d' x') (hO : OK g) (r : List Nme) : fnd (movE g d x d' x' n) n r = fnd g n r := by
  unfold movE
  have h1 := h.offd hO
  have h2 : Off (setE g d x none) n d' := fun q => by rw [fnd_off h1]; exact h.off q
  rw [fnd_off h2, fnd_off h1]
/-- What is found behind a move. -/
theorem Mv.new (h : Mv g P d x n P' d' x') (hO : OK g) (r : List Nme) : fnd (movE g d x d' x' n) g.root (P' ++ x' :: r) = fnd g n r := by
  obtain ⟨m, hm⟩ : ∃ m, (setE g d x none).ent d' = some m := Option.isSome_iff_exists.1 (by rw [setE_some]; exact h.hd')
  have := fnd_set_at (h.way1 hO) hm x' (some n) r
  rw [show (setE g d x none).root = g.root from rfl] at this
  exact this.trans (h.sub hO r)
theorem Mv.gone (h : Mv g P d x n P' d' x') (hO : OK g) {p : List Nme} (h1 : ¬ ∃ r, p = P' ++ x' :: r) (h2 : ∃ r, p = P ++ x :: r) : fnd (movE g d x d' x' n) g.root p = .err 5 := by
  have := fnd_set_far (h.way1 hO) x' (some n) h1
  rw [show (setE g d x none).root = g.root from rfl] at this
  unfold movE
  rw [this]
  obtain ⟨r, rfl⟩ := h2
  obtain ⟨m, hm⟩ := Option.isSome_iff_exists.1 h.hd
  rw [fnd_set_at (hO.way h.p h.hd) hm x none r]
theorem Mv.far (h : Mv g P d x n P' d' x') (hO : OK g) {p : List Nme} (h1 : ¬ ∃ r, p = P' ++ x' :: r) (h2 : ¬ ∃ r, p = P ++ x :: r) : fnd (movE g d x d' x' n) g.root p = fnd g g.root p := by
  have := fnd_set_far (h.way1 hO) x' (some n) h1
  rw [show (setE g d x none).root = g.root from rfl] at this
  unfold movE
  rw [this, fnd_set_far (hO.way h.p h.hd) x none h2]
theorem Mv.isD (b : Nat) : ((movE g d x d' x' n).ent b).isSome = (g.ent b).isSome := by unfold movE; rw [setE_some, setE_some]
theorem Mv.ok (h : Mv g P d x n P' d' x') (hO : OK g) (hx : Pa.IsName x') (hdeep : ∀ r c, fnd g n r = .ok c → P'.length + 1 + r.length ≤ 8) : OK (movE g d x d' x' n) := by
  have hr : (movE g d x d' x' n).root = g.root := rfl
  -- each way behind the move is one ahead of it
  have hback : ∀ p b, fnd (movE g d x d' x' n) g.root p = .ok b → (∃ r, p = P' ++ x' :: r ∧ fnd g g.root (P ++ x :: r) = .ok b ∧ fnd g n r = .ok b) ∨ ((¬ ∃ r, p = P' ++ x' :: r) ∧ (¬ ∃ r, p = P ++ x :: r) ∧ fnd g g.root p = .ok b) := fun p b hb => by
    by_cases h1 : ∃ r, p = P' ++ x' :: r
    · obtain ⟨r, rfl⟩ := h1
      rw [h.new hO] at hb
      exact .inl ⟨r, rfl, by rw [h.old]; exact hb, hb⟩
    · by_cases h2 : ∃ r, p = P ++ x :: r
      · rw [h.gone hO h1 h2] at hb; cases hb
      · rw [h.far hO h1 h2] at hb
        exact .inr ⟨h1, h2, hb⟩
  refine ⟨by rw [hr, Mv.isD]; exact hO.root, fun p b hb => ?_, fun p q b hb hq hs => ?_, fun b m y e hb hy => ?_⟩
  · rcases hback p b hb with ⟨r, rfl, -, h1⟩ | ⟨-, -, h1⟩
    · have := hdeep r b h1
      rw [List.length_append, List.length_cons]
      omega
    · exact hO.short p b h1
  · rw [Mv.isD] at hs
    rcases hback p b hb with ⟨r, rfl, h1, -⟩ | ⟨a1, a2, h1⟩
    · rcases hback q b hq with ⟨r2, rfl, h2, -⟩ | ⟨c1, c2, h2⟩
      · have := hO.one _ _ b h1 h2 hs
        have := List.append_cancel_left this
        injection this with _ e
        rw [e]
      · have := hO.one _ _ b h1 h2 hs
        exact absurd ⟨r, this.symm⟩ c2
    · rcases hback q b hq with ⟨r2, rfl, h2, -⟩ | ⟨c1, c2, h2⟩
      · have := hO.one _ _ b h1 h2 hs
        exact absurd ⟨r2, this⟩ a2
      · exact hO.one _ _ b h1 h2 hs
  · unfold movE at hb
    by_cases e1 : b = d'
    · subst e1
      obtain ⟨m1, hm1⟩ : ∃ m, (setE g d x none).ent b = some m := Option.isSome_iff_exists.1 (by rw [setE_some]; exact h.hd')
      rw [setE_d hm1] at hb
      have hb := Option.some.inj hb
      subst hb
      have hy : (if y = x' then some n else m1 y) = some e := hy
      by_cases e2 : y = x'
      · rw [e2]; exact hx
      · rw [if_neg e2] at hy
        exact (hO.drop (x := x) h.p h.hd).name b m1 y e hm1 hy
    · rw [setE_ne e1] at hb
      exact (hO.drop (x := x) h.p h.hd).name b m y e hb hy
end
/-- There and back. -/
theorem Mv.back {g : G} {P P' : List Nme} {d d' n : Nat} {x x' : Nme} (h : Mv g P d x n P' d' x') (hO : OK g) : Mv (movE g d x d' x' n) P' d' x' n P d x := by
  have hno' : ¬ ∃ r, P' = P' ++ x' :: r := fun ⟨r, e⟩ => by have := congrArg List.length e; simp at this
  have hno : ¬ ∃ r, P = P ++ x :: r := fun ⟨r, e⟩ => by have := congrArg List.length e; simp at this
  have hnp : ¬ ∃ r, P' = P ++ x :: r := fun ⟨r, e⟩ => by
    have := h.p'
    rw [e, h.old] at this
    exact h.off r this
  have hnp' : ¬ ∃ r, P = P' ++ x' :: r := fun ⟨r, e⟩ => by
    have h1 := h.p
    rw [e, fnd_app_ok h.p', fnd_cons] at h1
    obtain ⟨m, hm⟩ := Option.isSome_iff_exists.1 h.hd'
    rw [hm] at h1
    have hk := h.k'
    rw [kid_of hm] at hk
    have h1 : (match m x' with | none => Rs.err 5 | some c => fnd g c r) = .ok d := h1
    rw [hk] at h1
    cases h1
  have hne : d = d' → x ≠ x' := fun e1 e2 => by
    have := h.k
    rw [e1, e2, h.k'] at this
    cases this
  refine ⟨?_, by rw [Mv.isD]; exact h.hd', ?_, ?_, by rw [Mv.isD]; exact h.hd, ?_, fun q hq => ?_⟩
  · exact (h.far hO hno' hnp).trans h.p'
  · unfold movE
    rw [kid_set (by rw [setE_some]; exact h.hd'), if_pos rfl]
  · exact (h.far hO hnp' hno).trans h.p
  · unfold movE
    by_cases e : d = d'
    · subst e
      rw [kid_set (by rw [setE_some]; exact h.hd), if_neg (hne rfl), kid_set h.hd, if_pos rfl]
    · rw [kid_set_ne e, kid_set h.hd, if_pos rfl]
  · rw [h.sub hO] at hq
    exact h.offd hO q hq
/-- All is found as it was. -/
theorem Mv.again {g : G} {P P' : List Nme} {d d' n : Nat} {x x' : Nme} (h : Mv g P d x n P' d' x') (hO : OK g) (hO1 : OK (movE g d x d' x' n)) (p : List Nme) : fnd (movE (movE g d x d' x' n) d' x' d x n) g.root p = fnd g g.root p ∨ (fnd (movE (movE g d x d' x' n) d' x' d x n) g.root p = .err 5 ∧ ∃ e, fnd g g.root p = .err e) := by
  have hb := h.back hO
  have hr : (movE g d x d' x' n).root = g.root := rfl
  by_cases h1 : ∃ r, p = P ++ x :: r
  · obtain ⟨r, rfl⟩ := h1
    have := hb.new hO1 r
    rw [hr] at this
    exact .inl (by rw [this, h.sub hO, h.old])
  · by_cases h2 : ∃ r, p = P' ++ x' :: r
    · have := hb.gone hO1 h1 h2
      rw [hr] at this
      refine .inr ⟨this, ?_⟩
      obtain ⟨r, rfl⟩ := h2
      obtain ⟨m, hm⟩ := Option.isSome_iff_exists.1 h.hd'
      have hk := h.k'
      rw [kid_of hm] at hk
      refine ⟨5, ?_⟩
      rw [fnd_app_ok h.p', fnd_cons, hm]
      show (match m x' with | none => Rs.err 5 | some c => fnd g c r) = _
      rw [hk]
    · have := hb.far hO1 h1 h2
      rw [hr] at this
      exact .inl (this.trans (h.far hO h2 h1))
end Tr
end Go.Proofs.YtnglhfeialomgaaDoor
