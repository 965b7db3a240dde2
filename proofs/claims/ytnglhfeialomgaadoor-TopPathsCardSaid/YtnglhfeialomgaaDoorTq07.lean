/- What Walk tells of a tree of directories, in plain Lean. -/

import Derived.Test.YtnglhfeialomgaaDoorTq01
import Derived.Test.YtnglhfeialomgaaDoorTq06
namespace Go.Proofs.YtnglhfeialomgaaDoor
namespace Tr

theorem long_names : ∀ {l : List Nme}, (∀ p ∈ l, Pa.IsName p) → Pa.long l ≤ 5 * l.length
  | [], _ => by rw [Pa.long_nil]; exact Nat.zero_le _
  | p :: l, h => by
    have ih := long_names (l := l) (fun q hq => h q (by simp [hq]))
    have := (h p (by simp)).2.1
    rw [Pa.long_cons, List.length_cons]
    omega
theorem shown_len {l : List Nme} (h : ∀ p ∈ l, Pa.IsName p) (hl : l.length ≤ 8) : (Pa.shown l).length ≤ 41 := by
  have := long_names h
  unfold Pa.shown
  split
  · decide
  · rw [Pa.flat_len]; omega
/-- The text of a way: a directory's has a slash behind. -/
def txtB (p : List Nme) (b : Bool) : List UInt8 := Pa.shown p ++ (if b = true then [47] else [])
def txt (g : G) (p : List Nme) (c : Nat) : List UInt8 := txtB p (g.ent c).isSome
theorem parts_txt {l : List Nme} (h : ∀ p ∈ l, Pa.IsName p) (hl : l.length ≤ 8) (b : Bool) : Pa.parts (txtB l b) = (l, 0) := by
  have h1 := shown_len h hl
  have h2 := Pa.shown_head l
  have h3 := Pa.shown_cut h
  cases b with
  | false =>
    have e : txtB l false = Pa.shown l := by unfold txtB; simp
    rw [e]
    exact Pa.parts_of (by omega) h2 h3 hl
  | true =>
    have e : txtB l true = Pa.shown l ++ [47] := by unfold txtB; simp
    rw [e]
    have h4 := Pa.head_tail h2
    refine Pa.parts_of (by rw [List.length_append]; simp; omega) (by rw [h4]; rfl) ?_ hl
    have e2 : (Pa.shown l ++ [47]).tail = (Pa.shown l).tail ++ 47 :: [] := by rw [h4]; rfl
    rw [e2, Pa.cut_join, Pa.run_append, h3]
    show Pa.run l (Pa.cut []) = some l
    rw [show Pa.cut [] = [[]] from rfl, Pa.run_cons, Pa.step_skip (.inl rfl)]
    rfl
/-- Names along a way. -/
theorem fnd_names {g : G} (h : OK g) : ∀ (p : List Nme) (n c : Nat), fnd g n p = .ok c → ∀ x ∈ p, Pa.IsName x
  | [], _, _, _, x, hx => by cases hx
  | y :: r, n, c, hf, x, hx => by
    obtain ⟨d, m, e, hd, hm, hy, hr⟩ := fnd_front (p := []) hf
    injection hd with hd
    subst hd
    rcases List.mem_cons.1 hx with rfl | hx
    · exact h.name _ m _ e hm hy
    · exact fnd_names h r e c hr x hx
/-- Is a text one of a way? -/
def InW (g : G) (s : List UInt8) : Prop := ∃ p c, p ≠ [] ∧ fnd g g.root p = .ok c ∧ s = txt g p c
/-- The texts of all ways, rising. -/
def WalkIs (g : G) (l : List (List UInt8)) : Prop := l.Pairwise (· < ·) ∧ ∀ s, s ∈ l ↔ InW g s
theorem lt_nodup {l : List (List UInt8)} (h : l.Pairwise (· < ·)) : l.Nodup := h.imp (fun {a b} h e => by rw [e] at h; exact List.lt_irrefl _ h)
theorem lt_eq {l l' : List (List UInt8)} (h : l.Pairwise (· < ·)) (h' : l'.Pairwise (· < ·)) (hm : ∀ s, s ∈ l ↔ s ∈ l') : l = l' := by
  have hp : l.Perm l' := (List.perm_ext_iff_of_nodup (lt_nodup h) (lt_nodup h')).2 hm
  refine hp.eq_of_pairwise (le := fun a b => a < b) (fun a b _ _ h1 h2 => absurd h2 (List.lt_asymm h1)) h h'
theorem walk_eq {g g' : G} {l l' : List (List UInt8)} (h : WalkIs g l) (h' : WalkIs g' l') (hs : ∀ s, InW g s ↔ InW g' s) : l = l' :=
  lt_eq h.1 h'.1 (fun s => by rw [h.2, h'.2, hs])
/-- One way more. -/
theorem walk_more {g g' : G} {l l' : List (List UInt8)} (h : WalkIs g l) (h' : WalkIs g' l') {t : List UInt8} (ht : ¬ InW g t) (hs : ∀ s, InW g' s ↔ InW g s ∨ s = t) : l'.length = l.length + 1 := by
  have hn : (t :: l).Nodup := List.nodup_cons.2 ⟨fun hm => ht ((h.2 t).1 hm), lt_nodup h.1⟩
  have hp : l'.Perm (t :: l) := (List.perm_ext_iff_of_nodup (lt_nodup h'.1) hn).2 fun s => by
    rw [h'.2, hs, List.mem_cons, h.2]
    exact ⟨fun h => h.symm, fun h => h.symm⟩
  rw [hp.length_eq, List.length_cons]
/-- Two graphs along whose ways the same is found tell the same. -/
def SameF (g g' : G) : Prop := ∀ p, (∃ c c', fnd g g.root p = .ok c ∧ fnd g' g'.root p = .ok c' ∧ (g.ent c).isSome = (g'.ent c').isSome) ∨ ((∃ e, fnd g g.root p = .err e) ∧ ∃ e, fnd g' g'.root p = .err e)
theorem SameF.inW {g g' : G} (h : SameF g g') (s : List UInt8) : InW g s ↔ InW g' s := by
  constructor
  · rintro ⟨p, c, hp, hf, rfl⟩
    rcases h p with ⟨c1, c2, h1, h2, h3⟩ | ⟨⟨e, h1⟩, -⟩
    · rw [hf] at h1
      injection h1 with h1
      subst h1
      exact ⟨p, c2, hp, h2, by unfold txt; rw [h3]⟩
    · rw [hf] at h1; cases h1
  · rintro ⟨p, c, hp, hf, rfl⟩
    rcases h p with ⟨c1, c2, h1, h2, h3⟩ | ⟨-, ⟨e, h1⟩⟩
    · rw [hf] at h2
      injection h2 with h2
      subst h2
      exact ⟨p, c1, hp, h1, by unfold txt; rw [h3]⟩
    · rw [hf] at h1; cases h1
/-- The ways of what Walk tells. -/
theorem walk_ways {g : G} (h : OK g) {l : List (List UInt8)} (hw : WalkIs g l) : (l.map (fun s => (Pa.parts s).1)).Nodup ∧ ∀ p, p ∈ l.map (fun s => (Pa.parts s).1) ↔ p ≠ [] ∧ ∃ c, fnd g g.root p = .ok c := by
  have hpt : ∀ p c, fnd g g.root p = .ok c → Pa.parts (txt g p c) = (p, 0) := fun p c hf => parts_txt (fnd_names h p _ c hf) (h.short p c hf) _
  constructor
  · refine List.pairwise_map.2 ((lt_nodup hw.1).imp_of_mem fun {s t} hs ht hne e => hne ?_)
    obtain ⟨p, c, _, hf, rfl⟩ := (hw.2 s).1 hs
    obtain ⟨q, c', _, hf', rfl⟩ := (hw.2 t).1 ht
    rw [hpt p c hf, hpt q c' hf'] at e
    have e : p = q := e
    subst e
    rw [hf] at hf'
    injection hf' with e
    rw [e]
  · intro p
    rw [List.mem_map]
    constructor
    · rintro ⟨s, hs, rfl⟩
      obtain ⟨q, c, hq, hf, rfl⟩ := (hw.2 s).1 hs
      rw [hpt q c hf]
      exact ⟨hq, c, hf⟩
    · rintro ⟨hp, c, hf⟩
      exact ⟨txt g p c, (hw.2 _).2 ⟨p, c, hp, hf, rfl⟩, by rw [hpt p c hf]⟩
/-- As many ways. -/
theorem walk_many {g g' : G} (h : OK g) (h' : OK g') {l l' : List (List UInt8)} (hw : WalkIs g l) (hw' : WalkIs g' l') (f : List Nme → List Nme) (hinj : ∀ p q, (∃ c, fnd g g.root p = .ok c) → (∃ c, fnd g g.root q = .ok c) → f p = f q → p = q) (hf : ∀ p, (p ≠ [] ∧ ∃ c, fnd g' g'.root p = .ok c) ↔ ∃ q, (q ≠ [] ∧ ∃ c, fnd g g.root q = .ok c) ∧ p = f q) : l'.length = l.length := by
  obtain ⟨n1, m1⟩ := walk_ways h hw
  obtain ⟨n2, m2⟩ := walk_ways h' hw'
  have n3 : ((l.map (fun s => (Pa.parts s).1)).map f).Nodup := by
    refine List.pairwise_map.2 (n1.imp_of_mem fun {p q} hp hq hne e => hne (hinj p q ((m1 p).1 hp).2 ((m1 q).1 hq).2 e))
  have hp : (l'.map (fun s => (Pa.parts s).1)).Perm ((l.map (fun s => (Pa.parts s).1)).map f) := (List.perm_ext_iff_of_nodup n2 n3).2 fun p => by
    rw [m2, hf, List.mem_map]
    constructor
    · rintro ⟨q, hq, rfl⟩
      exact ⟨q, (m1 q).2 hq, rfl⟩
    · rintro ⟨q, hq, rfl⟩
      exact ⟨q, (m1 q).1 hq, rfl⟩
  have := hp.length_eq
  rw [List.length_map, List.length_map, List.length_map] at this
  exact this
/-- A move leaves as many ways. -/
theorem Mv.many {g : G} {P P' : List Nme} {d d' n : Nat} {x x' : Nme} (h : Mv g P d x n P' d' x') (hO : OK g) (hO' : OK (movE g d x d' x' n)) {l l' : List (List UInt8)} (hw : WalkIs g l) (hw' : WalkIs (movE g d x d' x' n) l') : l'.length = l.length := by
  classical
  have hnone : ∀ r c, fnd g g.root (P' ++ x' :: r) ≠ .ok c := fun r c hc => by
    obtain ⟨m, hm⟩ := Option.isSome_iff_exists.1 h.hd'
    have hk := h.k'
    rw [kid_of hm] at hk
    rw [fnd_app_ok h.p', fnd_cons, hm] at hc
    have hc : (match m x' with | none => Rs.err 5 | some c => fnd g c r) = .ok c := hc
    rw [hk] at hc
    cases hc
  have hr : (movE g d x d' x' n).root = g.root := rfl
  refine walk_many hO hO' hw hw' (fun p => if ∃ r, p = P ++ x :: r then P' ++ x' :: p.drop (P.length + 1) else p) (fun p q ⟨c1, h1⟩ ⟨c2, h2⟩ e => ?_) (fun p => ?_)
  · have e : (if ∃ r, p = P ++ x :: r then P' ++ x' :: p.drop (P.length + 1) else p) = (if ∃ r, q = P ++ x :: r then P' ++ x' :: q.drop (P.length + 1) else q) := e
    by_cases a : ∃ r, p = P ++ x :: r
    · rw [if_pos a] at e
      obtain ⟨r, rfl⟩ := a
      by_cases b : ∃ r, q = P ++ x :: r
      · rw [if_pos b] at e
        obtain ⟨r2, rfl⟩ := b
        have := List.append_cancel_left e
        injection this with _ this
        simp [List.drop_append] at this
        rw [this]
      · rw [if_neg b] at e
        rw [← e] at h2
        exact absurd h2 (hnone _ _)
    · rw [if_neg a] at e
      by_cases b : ∃ r, q = P ++ x :: r
      · rw [if_pos b] at e
        rw [e] at h1
        exact absurd h1 (hnone _ _)
      · rw [if_neg b] at e
        exact e
  · rw [hr]
    constructor
    · rintro ⟨hp, c, hc⟩
      by_cases a : ∃ r, p = P' ++ x' :: r
      · obtain ⟨r, rfl⟩ := a
        rw [h.new hO] at hc
        refine ⟨P ++ x :: r, ⟨by simp, c, by rw [h.old]; exact hc⟩, ?_⟩
        rw [if_pos ⟨r, rfl⟩]
        simp [List.drop_append]
      · by_cases b : ∃ r, p = P ++ x :: r
        · rw [h.gone hO a b] at hc; cases hc
        · rw [h.far hO a b] at hc
          refine ⟨p, ⟨hp, c, hc⟩, ?_⟩
          rw [if_neg b]
    · rintro ⟨q, ⟨hq, c, hc⟩, rfl⟩
      by_cases b : ∃ r, q = P ++ x :: r
      · rw [if_pos b]
        obtain ⟨r, rfl⟩ := b
        refine ⟨by simp, c, ?_⟩
        have hd : (P ++ x :: r).drop (P.length + 1) = r := by rw [show P ++ x :: r = (P ++ [x]) ++ r by simp, List.drop_left' (by simp)]
        rw [h.new hO, ← hc, h.old, hd]
      · rw [if_neg b]
        have a : ¬ ∃ r, q = P' ++ x' :: r := fun ⟨r, e⟩ => by rw [e] at hc; exact hnone r c hc
        exact ⟨hq, c, by rw [h.far hO a b]; exact hc⟩
end Tr
end Go.Proofs.YtnglhfeialomgaaDoor
/- What Walk tells behind an addition, a drop, a move there and back; in plain Lean. -/
namespace Go.Proofs.YtnglhfeialomgaaDoor
namespace Tr

/-- A text of a way that is not there is not told. -/
theorem not_inW {g : G} (h : OK g) {p : List Nme} (hn : ∀ x ∈ p, Pa.IsName x) (hl : p.length ≤ 8) (hno : ∀ c, fnd g g.root p ≠ .ok c) (b : Bool) : ¬ InW g (txtB p b) := by
  rintro ⟨q, c, -, hf, e⟩
  have h1 := parts_txt hn hl b
  have h2 := parts_txt (fnd_names h q _ c hf) (h.short q c hf) (g.ent c).isSome
  rw [e, show txt g q c = txtB q (g.ent c).isSome from rfl, h2] at h1
  have h1 : q = p := (Prod.mk.inj h1).1
  rw [h1] at hf
  exact hno c hf
/-- Only entries count. -/
theorem inW_congr {g g' : G} (hr : g'.root = g.root) (he : ∀ b, g'.ent b = g.ent b) (s : List UInt8) : InW g' s ↔ InW g s := by
  have hf := fnd_congr he
  constructor
  · rintro ⟨p, c, hp, h, rfl⟩
    rw [hr, hf] at h
    exact ⟨p, c, hp, h, by unfold txt; rw [he]⟩
  · rintro ⟨p, c, hp, h, rfl⟩
    exact ⟨p, c, hp, by rw [hr, hf]; exact h, by unfold txt; rw [he]⟩
section
variable {g : G} {d c : Nat} {P : List Nme} {x : Nme}
theorem free_none (hp : fnd g g.root P = .ok d) (hk : kid g d x = none) (r : List Nme) (b : Nat) : fnd g g.root (P ++ x :: r) ≠ .ok b := fun hb => by
  rw [fnd_app_ok hp, fnd_cons] at hb
  cases hm : g.ent d with
  | none => rw [hm] at hb; cases hb
  | some m =>
    rw [hm] at hb
    rw [kid_of hm] at hk
    have hb : (match m x with | none => Rs.err 5 | some c => fnd g c r) = .ok b := hb
    rw [hk] at hb
    cases hb
/-- A leaf added: one way more. -/
theorem add_inW (h : OK g) (hp : fnd g g.root P = .ok d) (hd : (g.ent d).isSome = true) (hk : kid g d x = none) (hc : c ≠ d) (hleaf : Leaf g c) (s : List UInt8) : InW (setE g d x (some c)) s ↔ InW g s ∨ s = txtB (P ++ [x]) (g.ent c).isSome := by
  have h1 := h.way hp hd
  obtain ⟨m, hm⟩ := Option.isSome_iff_exists.1 hd
  have hlf : Leaf (setE g d x (some c)) c := fun y => by rw [kid_set_ne hc]; exact hleaf y
  have hr : (setE g d x (some c)).root = g.root := rfl
  constructor
  · rintro ⟨p, b, hpn, hb, rfl⟩
    by_cases hh : ∃ r, p = P ++ x :: r
    · obtain ⟨r, rfl⟩ := hh
      rw [hr, fnd_set_at h1 hm x (some c) r] at hb
      obtain ⟨rfl, rfl⟩ := fnd_leaf hlf hb
      exact .inr (by unfold txt; rw [setE_some])
    · rw [hr, fnd_set_far h1 x (some c) hh] at hb
      exact .inl ⟨p, b, hpn, hb, by unfold txt; rw [setE_some]⟩
  · rintro (⟨p, b, hpn, hb, rfl⟩ | rfl)
    · have hh : ¬ ∃ r, p = P ++ x :: r := fun ⟨r, e⟩ => by rw [e] at hb; exact free_none hp hk r b hb
      exact ⟨p, b, hpn, by rw [hr, fnd_set_far h1 x (some c) hh]; exact hb, by unfold txt; rw [setE_some]⟩
    · exact ⟨P ++ [x], c, by simp, by rw [hr, fnd_set_at h1 hm x (some c) []]; rfl, by unfold txt; rw [setE_some]⟩
/-- A leaf's entry struck: one way less. -/
theorem drop_inW (h : OK g) (hp : fnd g g.root P = .ok d) (hd : (g.ent d).isSome = true) (hk : kid g d x = some c) (hleaf : Leaf g c) (s : List UInt8) : InW g s ↔ InW (setE g d x none) s ∨ s = txtB (P ++ [x]) (g.ent c).isSome := by
  have h1 := h.way hp hd
  obtain ⟨m, hm⟩ := Option.isSome_iff_exists.1 hd
  have hr : (setE g d x none).root = g.root := rfl
  constructor
  · rintro ⟨p, b, hpn, hb, rfl⟩
    by_cases hh : ∃ r, p = P ++ x :: r
    · obtain ⟨r, rfl⟩ := hh
      rw [fnd_app_ok hp, fnd_step hk] at hb
      obtain ⟨rfl, rfl⟩ := fnd_leaf hleaf hb
      exact .inr rfl
    · exact .inl ⟨p, b, hpn, by rw [hr, fnd_set_far h1 x none hh]; exact hb, by unfold txt; rw [setE_some]⟩
  · rintro (⟨p, b, hpn, hb, rfl⟩ | rfl)
    · by_cases hh : ∃ r, p = P ++ x :: r
      · obtain ⟨r, rfl⟩ := hh
        rw [hr, fnd_set_at h1 hm x none r] at hb
        cases hb
      · rw [hr, fnd_set_far h1 x none hh] at hb
        exact ⟨p, b, hpn, hb, by unfold txt; rw [setE_some]⟩
    · exact ⟨P ++ [x], c, by simp, by rw [fnd_app_ok hp, fnd_step hk]; rfl, rfl⟩
/-- Behind a drop the way is not there. -/
theorem drop_free (h : OK g) (hp : fnd g g.root P = .ok d) (hd : (g.ent d).isSome = true) (r : List Nme) (b : Nat) : fnd (setE g d x none) g.root (P ++ x :: r) ≠ .ok b := fun hb => by
  obtain ⟨m, hm⟩ := Option.isSome_iff_exists.1 hd
  rw [fnd_set_at (h.way hp hd) hm x none r] at hb
  cases hb
end
/-- There and back: the same is told. -/
theorem Mv.sameF {g : G} {P P' : List Nme} {d d' n : Nat} {x x' : Nme} (h : Mv g P d x n P' d' x') (hO : OK g) (hO1 : OK (movE g d x d' x' n)) : SameF (movE (movE g d x d' x' n) d' x' d x n) g := fun p => by
  rcases h.again hO hO1 p with e | ⟨e, e'⟩
  · have hr : (movE (movE g d x d' x' n) d' x' d x n).root = g.root := rfl
    cases hf : fnd g g.root p with
    | ok c => exact .inl ⟨c, c, by rw [hr, e, hf], rfl, by rw [Mv.isD, Mv.isD]⟩
    | err c => exact .inr ⟨⟨c, by rw [hr, e, hf]⟩, c, rfl⟩
  · exact .inr ⟨⟨5, e⟩, e'⟩
/-- The way back is as short as it was. -/
theorem Mv.backDeep {g : G} {P P' : List Nme} {d d' n : Nat} {x x' : Nme} (h : Mv g P d x n P' d' x') (hO : OK g) (r : List Nme) (c : Nat) (hr : fnd (movE g d x d' x' n) n r = .ok c) : P.length + 1 + r.length ≤ 8 := by
  rw [h.sub hO] at hr
  have := hO.short (P ++ x :: r) c (by rw [h.old]; exact hr)
  rw [List.length_append, List.length_cons] at this
  omega
end Tr
end Go.Proofs.YtnglhfeialomgaaDoor

/- A frame by a predicate: nothing has turned but blocks of which P holds, and what is new. No program in sight. -/
namespace Go.Proofs.YtnglhfeialomgaaDoor
open Go.RowKit

/-- From w to w' nothing has turned but blocks of which P holds, and what is new. -/
structure FrP (P : Nat → Prop) (w w' : World) : Prop where
  os : w'.os = w.os
  tape : w'.tape = w.tape
  output : w'.output = w.output
  size : w.heap.size ≤ w'.heap.size
  block : ∀ k, k < w.heap.size → ¬ P k → w'.heap[k]? = w.heap[k]?
theorem FrP.refl (P : Nat → Prop) (w : World) : FrP P w w := ⟨rfl, rfl, rfl, Nat.le_refl _, fun _ _ _ => rfl⟩
theorem FrP.step {P : Nat → Prop} {S : List Nat} {a b c : World} (h : FrP P a b) (k : Fr S b c) (hS : ∀ x ∈ S, P x ∨ a.heap.size ≤ x) : FrP P a c :=
  ⟨k.os.trans h.os, k.tape.trans h.tape, k.output.trans h.output, Nat.le_trans h.size k.size, fun i hi hn =>
    (k.block i (Nat.lt_of_lt_of_le hi h.size) (fun hx => (hS i hx).elim hn (fun h' => absurd hi (Nat.not_lt.2 h')))).trans (h.block i hi hn)⟩
theorem FrP.trans {P Q : Nat → Prop} {a b c : World} (h : FrP P a b) (k : FrP Q b c) (hQ : ∀ x, Q x → P x ∨ a.heap.size ≤ x) : FrP P a c :=
  ⟨k.os.trans h.os, k.tape.trans h.tape, k.output.trans h.output, Nat.le_trans h.size k.size, fun i hi hn =>
    (k.block i (Nat.lt_of_lt_of_le hi h.size) (fun hx => (hQ i hx).elim hn (fun h' => absurd hi (Nat.not_lt.2 h')))).trans (h.block i hi hn)⟩
theorem FrP.below {B : Nat} {w w' : World} (h : FrP (B ≤ ·) w w') (hB : B ≤ w.heap.size) : Below B w w' := ⟨h.os, h.tape, h.output, h.size, fun k hk => h.block k (by omega) (by omega)⟩
theorem FrP.fr {P : Nat → Prop} {a w w' : World} (h0 : Fr [] a w) (h : FrP P w w') (hP : ∀ k, P k → a.heap.size ≤ k) : Fr [] a w' :=
  ⟨h.os.trans h0.os, h.tape.trans h0.tape, h.output.trans h0.output, Nat.le_trans h0.size h.size, fun k hk _ => (h.block k (Nat.lt_of_lt_of_le hk h0.size) (fun hp => by have := hP k hp; omega)).trans (h0.block k hk (by simp))⟩
theorem FrP.cell {P : Nat → Prop} {w w' : World} (h : FrP P w w') {p : Addr} {v : Value} (hk : w.cell? p = some v) (hn : ¬ P p.block) : w'.cell? p = some v :=
  (World.cell?_of_block (h.block p.block (block_lt_of_cell hk) hn)).trans hk
theorem Sl.frP {P : Nat → Prop} {w w' : World} {v : Value} {g : Nat} {xs : List Int} (h : Sl w v g xs) (hf : FrP P w w') (hg : xs = [] ∨ ¬ P g) : Sl w' v g xs := by
  rcases h with h | ⟨o, c, h0, h1, h2, h3⟩
  · exact .inl h
  · rcases hg with rfl | hg
    · exact .inr ⟨o, c, h0, h1, h2, fun i hi => absurd hi (by simp)⟩
    · exact .inr ⟨o, c, h0, h1, h2, fun i hi => hf.cell (h3 i hi) hg⟩
/-- Parts of which P held at w, and new ones. -/
def OrNew (P : Nat → Prop) (w : World) (k : Nat) : Prop := P k ∨ w.heap.size ≤ k
end Go.Proofs.YtnglhfeialomgaaDoor
