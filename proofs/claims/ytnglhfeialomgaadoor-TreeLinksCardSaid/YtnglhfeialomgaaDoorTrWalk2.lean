/- What Walk tells behind an addition, a drop, a move there and back; in plain Lean. -/
import Derived.Test.YtnglhfeialomgaaDoorTrWalkP
namespace Go.Proofs.YtnglhfeialomgaaDoor
namespace Tr

/-- A text of a way that is not there is not told. -/
theorem not_inW {g : G} (h : OK g) {p : List Nme} (hn : ∀ x ∈ p, Pa.IsName x) (hl : p.length ≤ 8) (hno : ∀ c, fnd g g.root p ≠ .ok c) (b : Bool) : ¬ InW g (txtB p b) := by
  rintro ⟨q, c, -, hf, e⟩
  have h1 := parts_txt hn hl b
  have h2 := parts_txt (fnd_names h q _ c hf) (h.short q c hf) (g.ent c).isSome
  rw [e, show txt g q c = txtB q (g.ent c).isSome from rfl, h2] at h1
  have h1 : q = p := (Prod.mk.inj h1).1
  rw [h1] at hf
  exact hno c hf
/-- Only entries count. -/
theorem inW_congr {g g' : G} (hr : g'.root = g.root) (he : ∀ b, g'.ent b = g.ent b) (s : List UInt8) : InW g' s ↔ InW g s := by
  have hf := fnd_congr he
  constructor
  · rintro ⟨p, c, hp, h, rfl⟩
    rw [hr, hf] at h
    exact ⟨p, c, hp, h, by unfold txt; rw [he]⟩
  · rintro ⟨p, c, hp, h, rfl⟩
    exact ⟨p, c, hp, by rw [hr, hf]; exact h, by unfold txt; rw [he]⟩
section
variable {g : G} {d c : Nat} {P : List Nme} {x : Nme}
theorem free_none (hp : fnd g g.root P = .ok d) (hk : kid g d x = none) (r : List Nme) (b : Nat) : fnd g g.root (P ++ x :: r) ≠ .ok b := fun hb => by
  rw [fnd_app_ok hp, fnd_cons] at hb
  cases hm : g.ent d with
  | none => rw [hm] at hb; cases hb
  | some m =>
    rw [hm] at hb
    rw [kid_of hm] at hk
    have hb : (match m x with | none => Rs.err 5 | some c => fnd g c r) = .ok b := hb
    rw [hk] at hb
    cases hb
/-- A leaf added: one way more. -/
theorem add_inW (h : OK g) (hp : fnd g g.root P = .ok d) (hd : (g.ent d).isSome = true) (hk : kid g d x = none) (hc : c ≠ d) (hleaf : Leaf g c) (s : List UInt8) : InW (setE g d x (some c)) s ↔ InW g s ∨ s = txtB (P ++ [x]) (g.ent c).isSome := by
  have h1 := h.way hp hd
  obtain ⟨m, hm⟩ := Option.isSome_iff_exists.1 hd
  have hlf : Leaf (setE g d x (some c)) c := fun y => by rw [kid_set_ne hc]; exact hleaf y
  have hr : (setE g d x (some c)).root = g.root := rfl
  constructor
  · rintro ⟨p, b, hpn, hb, rfl⟩
    by_cases hh : ∃ r, p = P ++ x :: r
    · obtain ⟨r, rfl⟩ := hh
      rw [hr, fnd_set_at h1 hm x (some c) r] at hb
      obtain ⟨rfl, rfl⟩ := fnd_leaf hlf hb
      exact .inr (by unfold txt; rw [setE_some])
    · rw [hr, fnd_set_far h1 x (some c) hh] at hb
      exact .inl ⟨p, b, hpn, hb, by unfold txt; rw [setE_some]⟩
  · rintro (⟨p, b, hpn, hb, rfl⟩ | rfl)
    · have hh : ¬ ∃ r, p = P ++ x :: r := fun ⟨r, e⟩ => by rw [e] at hb; exact free_none hp hk r b hb
      exact ⟨p, b, hpn, by rw [hr, fnd_set_far h1 x (some c) hh]; exact hb, by unfold txt; rw [setE_some]⟩
    · exact ⟨P ++ [x], c, by simp, by rw [hr, fnd_set_at h1 hm x (some c) []]; rfl, by unfold txt; rw [setE_some]⟩
/-- A leaf's entry struck: one way less. -/
theorem drop_inW (h : OK g) (hp : fnd g g.root P = .ok d) (hd : (g.ent d).isSome = true) (hk : kid g d x = some c) (hleaf : Leaf g c) (s : List UInt8) : InW g s ↔ InW (setE g d x none) s ∨ s = txtB (P ++ [x]) (g.ent c).isSome := by
  have h1 := h.way hp hd
  obtain ⟨m, hm⟩ := Option.isSome_iff_exists.1 hd
  have hr : (setE g d x none).root = g.root := rfl
  constructor
  · rintro ⟨p, b, hpn, hb, rfl⟩
    by_cases hh : ∃ r, p = P ++ x :: r
    · obtain ⟨r, rfl⟩ := hh
      rw [fnd_app_ok hp, fnd_step hk] at hb
      obtain ⟨rfl, rfl⟩ := fnd_leaf hleaf hb
      exact .inr rfl
    · exact .inl ⟨p, b, hpn, by rw [hr, fnd_set_far h1 x none hh]; exact hb, by unfold txt; rw [setE_some]⟩
  · rintro (⟨p, b, hpn, hb, rfl⟩ | rfl)
    · by_cases hh : ∃ r, p = P ++ x :: r
      · obtain ⟨r, rfl⟩ := hh
        rw [hr, fnd_set_at h1 hm x none r] at hb
        cases hb
      · rw [hr, fnd_set_far h1 x none hh] at hb
        exact ⟨p, b, hpn, hb, by unfold txt; rw [setE_some]⟩
    · exact ⟨P ++ [x], c, by simp, by rw [fnd_app_ok hp, fnd_step hk]; rfl, rfl⟩
/-- Behind a drop the way is not there. -/
theorem drop_free (h : OK g) (hp : fnd g g.root P = .ok d) (hd : (g.ent d).isSome = true) (r : List Nme) (b : Nat) : fnd (setE g d x none) g.root (P ++ x :: r) ≠ .ok b := fun hb => by
  obtain ⟨m, hm⟩ := Option.isSome_iff_exists.1 hd
  rw [fnd_set_at (h.way hp hd) hm x none r] at hb
  cases hb
end
/-- There and back: the same is told. -/
theorem Mv.sameF {g : G} {P P' : List Nme} {d d' n : Nat} {x x' : Nme} (h : Mv g P d x n P' d' x') (hO : OK g) (hO1 : OK (movE g d x d' x' n)) : SameF (movE (movE g d x d' x' n) d' x' d x n) g := fun p => by
  rcases h.again hO hO1 p with e | ⟨e, e'⟩
  · have hr : (movE (movE g d x d' x' n) d' x' d x n).root = g.root := rfl
    cases hf : fnd g g.root p with
    | ok c => exact .inl ⟨c, c, by rw [hr, e, hf], rfl, by rw [Mv.isD, Mv.isD]⟩
    | err c => exact .inr ⟨⟨c, by rw [hr, e, hf]⟩, c, rfl⟩
  · exact .inr ⟨⟨5, e⟩, e'⟩
/-- The way back is as short as it was. -/
theorem Mv.backDeep {g : G} {P P' : List Nme} {d d' n : Nat} {x x' : Nme} (h : Mv g P d x n P' d' x') (hO : OK g) (r : List Nme) (c : Nat) (hr : fnd (movE g d x d' x' n) n r = .ok c) : P.length + 1 + r.length ≤ 8 := by
  rw [h.sub hO] at hr
  have := hO.short (P ++ x :: r) c (by rw [h.old]; exact hr)
  rw [List.length_append, List.length_cons] at this
  omega
end Tr
end Go.Proofs.YtnglhfeialomgaaDoor
