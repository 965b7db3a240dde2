/- Trees of directories: how many ways there are, in plain Lean. -/

import Derived.Test.YtnglhfeialomgaaDoorTq04
import Derived.Test.YtnglhfeialomgaaDoorTq07
import Derived.Test.YtnglhfeialomgaaDoorTq15
namespace Go.Proofs.YtnglhfeialomgaaDoor
namespace Tr

/-- All ways, each once. -/
def Ways (g : G) (l : List (List Nme)) : Prop := l.Nodup ∧ ∀ p, p ∈ l ↔ p ≠ [] ∧ ∃ c, fnd g g.root p = .ok c
/-- The tree's count is right. -/
def Cn (g : G) : Prop := ∃ l, Ways g l ∧ (l.length : Int) = g.many
theorem Cn.congr {g g' : G} (h : Cn g) (hm : g'.many = g.many) (hf : ∀ p, (∃ c, fnd g' g'.root p = .ok c) ↔ ∃ c, fnd g g.root p = .ok c) : Cn g' := by
  obtain ⟨l, ⟨h1, h2⟩, h3⟩ := h
  exact ⟨l, ⟨h1, fun p => by rw [h2, hf]⟩, by rw [h3, hm]⟩
theorem Cn.new (n m : Nat) : Cn (G.new n m) := by
  have hr : (Tr.G.new n m).ent n = some (fun _ => none) := if_pos rfl
  have hleaf : Tr.Leaf (Tr.G.new n m) n := fun x => by rw [Tr.kid_of hr]
  refine ⟨[], ⟨List.nodup_nil, fun p => ⟨fun h => ?_, fun h => ?_⟩⟩, rfl⟩
  · cases h
  · obtain ⟨h, c, hc⟩ := h
    exact absurd (fnd_leaf hleaf hc).1 h
theorem Cn.newN {g : G} {dom : Nat → Prop} {c : Nat} {o : Option Nat} (h : Cn g) (hr : dom g.root) (hcl : ∀ d x e, dom d → kid g d x = some e → dom e) (hc : ¬ dom c) : Cn (newN g c o) :=
  h.congr rfl (fun p => by rw [newN_same hr hcl hc])
section
variable {g : G} {d c : Nat} {P : List Nme} {x : Nme}
theorem Ways.add {l : List (List Nme)} (hw : Ways g l) (h : OK g) (hp : fnd g g.root P = .ok d) (hd : (g.ent d).isSome = true) (hk : kid g d x = none) (hc : c ≠ d) (hleaf : Leaf g c) : Ways (setE g d x (some c)) ((P ++ [x]) :: l) := by
  have h1 := h.way hp hd
  obtain ⟨m, hm⟩ := Option.isSome_iff_exists.1 hd
  have hlf : Leaf (setE g d x (some c)) c := fun y => by rw [kid_set_ne hc]; exact hleaf y
  have hr : (setE g d x (some c)).root = g.root := rfl
  refine ⟨List.nodup_cons.2 ⟨fun hmem => ?_, hw.1⟩, fun p => ?_⟩
  · obtain ⟨-, b, hb⟩ := (hw.2 _).1 hmem
    exact free_none hp hk [] b hb
  · rw [List.mem_cons, hw.2, hr]
    constructor
    · rintro (rfl | ⟨hpn, b, hb⟩)
      · exact ⟨by simp, c, by rw [fnd_set_at h1 hm x (some c) []]; rfl⟩
      · have hh : ¬ ∃ r, p = P ++ x :: r := fun ⟨r, e⟩ => by rw [e] at hb; exact free_none hp hk r b hb
        exact ⟨hpn, b, by rw [fnd_set_far h1 x (some c) hh]; exact hb⟩
    · rintro ⟨hpn, b, hb⟩
      by_cases hh : ∃ r, p = P ++ x :: r
      · obtain ⟨r, rfl⟩ := hh
        rw [fnd_set_at h1 hm x (some c) r] at hb
        obtain ⟨rfl, rfl⟩ := fnd_leaf hlf hb
        exact .inl rfl
      · rw [fnd_set_far h1 x (some c) hh] at hb
        exact .inr ⟨hpn, b, hb⟩
theorem Ways.drop {l : List (List Nme)} (hw : Ways g l) (h : OK g) (hp : fnd g g.root P = .ok d) (hd : (g.ent d).isSome = true) (hk : kid g d x = some c) (hleaf : Leaf g c) : Ways (setE g d x none) (l.erase (P ++ [x])) := by
  have h1 := h.way hp hd
  obtain ⟨m, hm⟩ := Option.isSome_iff_exists.1 hd
  have hr : (setE g d x none).root = g.root := rfl
  refine ⟨hw.1.erase _, fun p => ?_⟩
  rw [hw.1.mem_erase_iff, hw.2, hr]
  constructor
  · rintro ⟨hne, hpn, b, hb⟩
    have hh : ¬ ∃ r, p = P ++ x :: r := fun ⟨r, e⟩ => by
      subst e
      rw [fnd_app_ok hp, fnd_step hk] at hb
      obtain ⟨rfl, rfl⟩ := fnd_leaf hleaf hb
      exact hne rfl
    exact ⟨hpn, b, by rw [fnd_set_far h1 x none hh]; exact hb⟩
  · rintro ⟨hpn, b, hb⟩
    have hh : ¬ ∃ r, p = P ++ x :: r := fun ⟨r, e⟩ => by
      subst e
      rw [fnd_set_at h1 hm x none r] at hb
      cases hb
    rw [fnd_set_far h1 x none hh] at hb
    exact ⟨fun e => hh ⟨[], e⟩, hpn, b, hb⟩
theorem Cn.add (hn : Cn g) (h : OK g) (hp : fnd g g.root P = .ok d) (hd : (g.ent d).isSome = true) (hk : kid g d x = none) (hc : c ≠ d) (hleaf : Leaf g c) : Cn (addG g d x c) := by
  obtain ⟨l, hw, h3⟩ := hn
  obtain ⟨h1, h2⟩ := hw.add h hp hd hk hc hleaf
  have hf := fnd_congr (g := setE g d x (some c)) (g' := addG g d x c) (fun b => rfl)
  refine ⟨_, ⟨h1, fun p => ?_⟩, ?_⟩
  · rw [h2, hf]; exact Iff.rfl
  · rw [List.length_cons]
    show ((l.length + 1 : Nat) : Int) = g.many + 1
    omega
end
theorem Ways.move {g : G} {P P' : List Nme} {d d' n : Nat} {x x' : Nme} (h : Mv g P d x n P' d' x') (hO : OK g) {l : List (List Nme)} (hw : Ways g l) : ∃ l', Ways (movE g d x d' x' n) l' ∧ l'.length = l.length := by
  classical
  have hnone : ∀ r c, fnd g g.root (P' ++ x' :: r) ≠ .ok c := fun r c hc => free_none h.p' h.k' r c hc
  have hr : (movE g d x d' x' n).root = g.root := rfl
  refine ⟨l.map (fun p => if ∃ r, p = P ++ x :: r then P' ++ x' :: p.drop (P.length + 1) else p), ⟨?_, fun p => ?_⟩, by rw [List.length_map]⟩
  · refine List.pairwise_map.2 (hw.1.imp_of_mem fun {p q} hp hq hne e => hne ?_)
    obtain ⟨-, c1, h1⟩ := (hw.2 p).1 hp
    obtain ⟨-, c2, h2⟩ := (hw.2 q).1 hq
    by_cases a : ∃ r, p = P ++ x :: r
    · rw [if_pos a] at e
      obtain ⟨r, rfl⟩ := a
      by_cases b : ∃ r, q = P ++ x :: r
      · rw [if_pos b] at e
        obtain ⟨r2, rfl⟩ := b
        have := List.append_cancel_left e
        injection this with _ this
        simp [List.drop_append] at this
        rw [this]
      · rw [if_neg b] at e
        rw [← e] at h2
        exact absurd h2 (hnone _ _)
    · rw [if_neg a] at e
      by_cases b : ∃ r, q = P ++ x :: r
      · rw [if_pos b] at e
        rw [e] at h1
        exact absurd h1 (hnone _ _)
      · rw [if_neg b] at e
        exact e
  · rw [List.mem_map, hr]
    constructor
    · rintro ⟨q, hq, rfl⟩
      obtain ⟨hq, c, hc⟩ := (hw.2 q).1 hq
      by_cases b : ∃ r, q = P ++ x :: r
      · rw [if_pos b]
        obtain ⟨r, rfl⟩ := b
        refine ⟨by simp, c, ?_⟩
        have hd : (P ++ x :: r).drop (P.length + 1) = r := by rw [show P ++ x :: r = (P ++ [x]) ++ r by simp, List.drop_left' (by simp)]
        have hc2 := hc
        rw [h.old] at hc2
        exact (congrArg (fun r => fnd (movE g d x d' x' n) g.root (P' ++ x' :: r)) hd).trans ((h.new hO r).trans hc2)
      · rw [if_neg b]
        have a : ¬ ∃ r, q = P' ++ x' :: r := fun ⟨r, e⟩ => by rw [e] at hc; exact hnone r c hc
        exact ⟨hq, c, by rw [h.far hO a b]; exact hc⟩
    · rintro ⟨hp, c, hc⟩
      by_cases a : ∃ r, p = P' ++ x' :: r
      · obtain ⟨r, rfl⟩ := a
        rw [h.new hO] at hc
        refine ⟨P ++ x :: r, (hw.2 _).2 ⟨by simp, c, by rw [h.old]; exact hc⟩, ?_⟩
        rw [if_pos ⟨r, rfl⟩]
        simp [List.drop_append]
      · by_cases b : ∃ r, p = P ++ x :: r
        · rw [h.gone hO a b] at hc; cases hc
        · rw [h.far hO a b] at hc
          refine ⟨p, (hw.2 _).2 ⟨hp, c, hc⟩, ?_⟩
          rw [if_neg b]
theorem Cn.move {g : G} {P P' : List Nme} {d d' n : Nat} {x x' : Nme} (hn : Cn g) (h : Mv g P d x n P' d' x') (hO : OK g) : Cn (movE g d x d' x' n) := by
  obtain ⟨l, hw, h3⟩ := hn
  obtain ⟨l', hw', h4⟩ := Ways.move h hO hw
  exact ⟨l', hw', by rw [h4]; exact h3⟩
/-- As many texts as ways. -/
theorem Cn.walk {g : G} (hn : Cn g) (h : OK g) {l : List (List UInt8)} (hw : WalkIs g l) : (l.length : Int) = g.many := by
  obtain ⟨k, ⟨h1, h2⟩, h3⟩ := hn
  obtain ⟨n1, m1⟩ := walk_ways h hw
  have hp := (List.perm_ext_iff_of_nodup n1 h1).2 (fun p => by rw [m1, h2])
  have := hp.length_eq
  rw [List.length_map] at this
  omega
theorem sub_length {α : Type} [DecidableEq α] : ∀ {a b : List α}, a.Nodup → (∀ x ∈ a, x ∈ b) → a.length ≤ b.length
  | [], _, _, _ => Nat.zero_le _
  | x :: a, b, h, hs => by
    have hx := hs x (by simp)
    have h2 := List.nodup_cons.1 h
    have ih := sub_length (a := a) (b := b.erase x) h2.2 (fun y hy => (List.mem_erase_of_ne (fun e => h2.1 (by rw [← e]; exact hy))).2 (hs y (by simp [hy])))
    rw [List.length_erase_of_mem hx] at ih
    have := List.length_pos_of_mem hx
    rw [List.length_cons]
    omega
theorem Cn.bound {g : G} (hn : Cn g) {ps : List (List Nme)} (h1 : ps.Nodup) (h2 : ∀ p ∈ ps, p ≠ [] ∧ ∃ c, fnd g g.root p = .ok c) : (ps.length : Int) ≤ g.many := by
  obtain ⟨k, ⟨h3, h4⟩, h5⟩ := hn
  have := sub_length h1 (fun p hp => (h4 p).2 (h2 p hp))
  omega
end Tr
end Go.Proofs.YtnglhfeialomgaaDoor
/- Maps from texts to pointers: len. -/
namespace Go.Proofs.YtnglhfeialomgaaDoor
open Go.RowKit Go.Maps
open Go.WideElems (rg)

section
variable {P : Program} {k e t : TypeId} {w : World} {b n : Nat} {m : Nm → Option Nat}
/-- 'len(m)'. -/
theorem SMap.len (h : SMap P k w b n m) (hk : P.underlying k = some .string) (ht : P.underlying t = some (.map k e)) : ∃ c : Nat, c ≤ n ∧ (c = 0 ↔ ∀ x, m x = none) ∧
    ∀ {ops : Array Oper} {rest : List Oper} {o : Oper} {a : Act} {Q : Exit → Act → World → Prop} (_ : o.guard = none) (mm : Operand) (_ : o.op = Op.call { callee := Callee.builtin Builtin.len, args := #[mm], argTypes := #[t] }) (_ : a.eval mm = .map (some b)) (_ : wpList P ops Q rest (a.put o.dst (.int .i64 c)) w), wpList P ops Q (o :: rest) a w := by
  obtain ⟨D, hD, hm⟩ := h
  refine ⟨Maps.size D, World.ownsMap.size_le hD, ⟨fun h0 x => ?_, fun h0 => ?_⟩, fun {ops rest o a Q} hg mm hop hmm hK => wpList_len_own w hg mm t hop k e ht ptrR b n D hmm hD hK⟩
  · obtain ⟨es, rfl⟩ := World.ownsMap.isMap hD
    have : es = [] := List.length_eq_zero_iff.1 h0
    subst this
    have h1 := hm.has x
    cases e : m x with
    | none => rfl
    | some y => rw [e] at h1; cases h1
  · obtain ⟨es, clock, hb, F, hs, rfl⟩ := hD
    rw [Maps.size_eq]
    refine List.length_eq_zero_iff.2 ?_
    cases hl : (es.toList.map (rg P k ptrR)).foldr DataW.insert [] with
    | nil => rfl
    | cons p r =>
      exfalso
      have hmem : p ∈ (es.toList.map (rg P k ptrR)).foldr DataW.insert [] := by rw [hl]; simp
      have hkey := Maps.fit_keys F p ((Go.WideShapes.sorted_perm _).mem_iff.1 hmem)
      obtain ⟨key, hkey⟩ := hkey
      obtain ⟨x, -, hx, -⟩ := Maps.keyOf_str hk hkey
      have h1 := hm.has x
      rw [h0 x, hl, Maps.has_eq, List.any_cons, hx] at h1
      simp [Lit.sameKey] at h1
end
end Go.Proofs.YtnglhfeialomgaaDoor
