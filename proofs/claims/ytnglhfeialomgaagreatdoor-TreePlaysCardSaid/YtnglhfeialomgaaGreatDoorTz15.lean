/- All names of a tree with their nodes, in order of making: what the operations do to the list; in plain Lean. -/

import Derived.Test.YtnglhfeialomgaaGreatDoorTz10
import Derived.Test.YtnglhfeialomgaaGreatDoorTz14
namespace Go.Proofs.YtnglhfeialomgaaGreatDoor
namespace Tr

abbrev Nl := List (List Nme × Nat)
structure Ns (g : G) (ns : Nl) : Prop where
  nodup : (ns.map (·.1)).Nodup
  mem : ∀ p c, (p, c) ∈ ns ↔ p ≠ [] ∧ fnd g g.root p = .ok c
  cnt : ∀ c, g.nms c = ((ns.filter (fun e => e.2 == c)).length : Int)
  len : (ns.length : Int) = g.many
theorem Ns.new (n m : Nat) : Ns (G.new n m) [] := by
  have hr : (Tr.G.new n m).ent n = some (fun _ => none) := if_pos rfl
  have hleaf : Tr.Leaf (Tr.G.new n m) n := fun x => by rw [Tr.kid_of hr]
  refine ⟨List.nodup_nil, fun p c => ⟨fun h => ?_, fun h => ?_⟩, fun c => rfl, rfl⟩
  · cases h
  · obtain ⟨h, hc⟩ := h
    exact absurd (fnd_leaf hleaf hc).1 h
section
variable {g : G} {d c : Nat} {P : List Nme} {x : Nme} {ns : Nl}
theorem Ns.pos (h : Ns g ns) {p : List Nme} (hp : p ≠ []) (hf : fnd g g.root p = .ok c) : 0 < g.nms c := by
  rw [h.cnt]
  have : (p, c) ∈ ns.filter (fun e => e.2 == c) := List.mem_filter.2 ⟨(h.mem p c).2 ⟨hp, hf⟩, by simp⟩
  have := List.length_pos_of_mem this
  omega
theorem Ns.newN {dom : Nat → Prop} {o : Option Nat} (h : Ns g ns) (hr : dom g.root) (hcl : ∀ d x e, dom d → kid g d x = some e → dom e) (hc : ¬ dom c) : Ns (newN g c o) ns := by
  refine ⟨h.nodup, fun p b => by rw [h.mem, newN_same hr hcl hc], fun b => ?_, h.len⟩
  show (if b = c then (0 : Int) else g.nms b) = _
  by_cases e : b = c
  · subst e
    rw [if_pos rfl]
    have : ns.filter (fun e => e.2 == b) = [] := by
      rw [List.filter_eq_nil_iff]
      rintro ⟨p, b'⟩ hm he
      have he : b' = b := by simpa using he
      subst he
      exact hc (fnd_dom hcl p g.root b' hr ((h.mem p b').1 hm).2)
    rw [this]; rfl
  · rw [if_neg e]; exact h.cnt b
theorem Ns.add (h : Ns g ns) (hO : OK g) (hp : fnd g g.root P = .ok d) (hd : (g.ent d).isSome = true) (hk : kid g d x = none) (hc : c ≠ d) (hleaf : Leaf g c) : Ns (addG g d x c) (ns ++ [(P ++ [x], c)]) := by
  have h1 := hO.way hp hd
  obtain ⟨m, hm⟩ := Option.isSome_iff_exists.1 hd
  have hlf : Leaf (setE g d x (some c)) c := fun y => by rw [kid_set_ne hc]; exact hleaf y
  have hf := fnd_congr (g := setE g d x (some c)) (g' := addG g d x c) (fun b => rfl)
  have hr : (addG g d x c).root = g.root := rfl
  refine ⟨?_, fun p b => ?_, fun b => ?_, ?_⟩
  · rw [List.map_append, List.nodup_append]
    refine ⟨h.nodup, by simp, fun a ha b hb e => ?_⟩
    simp only [List.map_cons, List.map_nil, List.mem_singleton] at hb
    subst e hb
    obtain ⟨⟨p, b⟩, hm1, e⟩ := List.mem_map.1 ha
    have e : p = P ++ [x] := e
    subst e
    exact free_none hp hk [] b ((h.mem _ b).1 hm1).2
  · rw [List.mem_append, h.mem, List.mem_singleton, hr, hf, show g.root = (setE g d x (some c)).root from rfl]
    constructor
    · rintro (⟨hpn, hb⟩ | e)
      · have hh : ¬ ∃ r, p = P ++ x :: r := fun ⟨r, e⟩ => by
          have hb : fnd g g.root p = .ok b := hb
          rw [e] at hb
          exact free_none hp hk r b hb
        exact ⟨hpn, (fnd_set_far h1 x (some c) hh).trans hb⟩
      · obtain ⟨rfl, rfl⟩ := Prod.mk.inj e
        exact ⟨by simp, (fnd_set_at h1 hm x (some b) []).trans rfl⟩
    · rintro ⟨hpn, hb⟩
      by_cases hh : ∃ r, p = P ++ x :: r
      · obtain ⟨r, rfl⟩ := hh
        have hb := (fnd_set_at h1 hm x (some c) r).symm.trans hb
        obtain ⟨rfl, rfl⟩ := fnd_leaf hlf hb
        exact .inr rfl
      · exact .inl ⟨hpn, (fnd_set_far h1 x (some c) hh).symm.trans hb⟩
  · show (if b = c then g.nms c + 1 else g.nms b) = _
    rw [List.filter_append, List.length_append]
    by_cases e : b = c
    · subst e
      rw [if_pos rfl, h.cnt]
      simp
    · rw [if_neg e, h.cnt]
      have : ([(P ++ [x], c)] : Nl).filter (fun e => e.2 == b) = [] := by
        simp [Ne.symm e]
      rw [this]; simp
  · rw [List.length_append]
    show ((ns.length + 1 : Nat) : Int) = g.many + 1
    have := h.len
    omega
theorem Ns.perm (h : Ns g ns) (hp : fnd g g.root P = .ok d) (hk : kid g d x = some c) : ns.Perm ((P ++ [x], c) :: ns.filter (fun e => !(e.1 == P ++ [x]))) := by
  have hnd : ns.Nodup := (List.pairwise_map.1 h.nodup).imp (fun {a b} h e => h (by rw [e]))
  have hat : fnd g g.root (P ++ [x]) = .ok c := by rw [fnd_app_ok hp, fnd_step hk]; rfl
  refine (List.perm_ext_iff_of_nodup hnd (List.nodup_cons.2 ⟨fun hm => ?_, hnd.filter _⟩)).2 ?_
  · have := (List.mem_filter.1 hm).2
    simp at this
  · rintro ⟨p, b⟩
    rw [List.mem_cons, List.mem_filter]
    constructor
    · intro hm
      by_cases e : p = P ++ [x]
      · subst e
        have := ((h.mem _ b).1 hm).2
        rw [hat] at this
        injection this with this
        exact .inl (by rw [this])
      · exact .inr ⟨hm, by simpa using e⟩
    · rintro (e | ⟨hm, -⟩)
      · obtain ⟨rfl, rfl⟩ := Prod.mk.inj e
        exact (h.mem _ b).2 ⟨by simp, hat⟩
      · exact hm
theorem Ns.drop (h : Ns g ns) (hO : OK g) (hp : fnd g g.root P = .ok d) (hd : (g.ent d).isSome = true) (hk : kid g d x = some c) (hleaf : Leaf g c) : Ns (dropG g d x c) (ns.filter (fun e => !(e.1 == P ++ [x]))) := by
  have h1 := hO.way hp hd
  obtain ⟨m, hm⟩ := Option.isSome_iff_exists.1 hd
  have hf := fnd_congr (g := setE g d x none) (g' := dropG g d x c) (fun b => rfl)
  have hr : (dropG g d x c).root = g.root := rfl
  have hperm := h.perm hp hk
  refine ⟨?_, fun p b => ?_, fun b => ?_, ?_⟩
  · exact List.Sublist.nodup (List.Sublist.map (fun e : List Nme × Nat => e.1) List.filter_sublist) h.nodup
  · rw [List.mem_filter, h.mem, hr, hf, show g.root = (setE g d x none).root from rfl]
    constructor
    · rintro ⟨⟨hpn, hb⟩, hne⟩
      have hne : p ≠ P ++ [x] := by simpa using hne
      have hh : ¬ ∃ r, p = P ++ x :: r := fun ⟨r, e⟩ => by
        subst e
        have hb : fnd g g.root (P ++ x :: r) = .ok b := hb
        rw [fnd_app_ok hp, fnd_step hk] at hb
        obtain ⟨rfl, rfl⟩ := fnd_leaf hleaf hb
        exact hne rfl
      exact ⟨hpn, (fnd_set_far h1 x none hh).trans hb⟩
    · rintro ⟨hpn, hb⟩
      have hh : ¬ ∃ r, p = P ++ x :: r := fun ⟨r, e⟩ => by
        subst e
        have hb := (fnd_set_at h1 hm x none r).symm.trans hb
        cases hb
      exact ⟨⟨hpn, (fnd_set_far h1 x none hh).symm.trans hb⟩, by simpa using fun e => hh ⟨[], e⟩⟩
  · have hl := (hperm.filter (fun e => e.2 == b)).length_eq
    show (if b = c then g.nms c - 1 else g.nms b) = _
    by_cases e : b = c
    · subst e
      rw [if_pos rfl, h.cnt, hl]
      simp
    · rw [if_neg e, h.cnt, hl, List.filter_cons, if_neg (by simpa using Ne.symm e)]
  · have hl := hperm.length_eq
    have h2 := h.len
    rw [List.length_cons] at hl
    show _ = g.many - 1
    omega
end
/-- Where a way leads behind a move of a to b. -/
def mvp (a b q : List Nme) : List Nme := if a.isPrefixOf q = true then b ++ q.drop a.length else q
theorem mvp_in (a b r : List Nme) : mvp a b (a ++ r) = b ++ r := by
  unfold mvp
  rw [if_pos (by simp), List.drop_left]
theorem mvp_out {a b q : List Nme} (h : ¬ ∃ r, q = a ++ r) : mvp a b q = q := if_neg (fun hp => h (by
  obtain ⟨r, e⟩ := List.isPrefixOf_iff_prefix.1 hp
  exact ⟨r, e.symm⟩))
theorem Ns.move {g : G} {P P' : List Nme} {d d' n : Nat} {x x' : Nme} {ns : Nl} (hN : Ns g ns) (h : Mv g P d x n P' d' x') (hO : OK g) : Ns (movE g d x d' x' n) (ns.map (fun e => (mvp (P ++ [x]) (P' ++ [x']) e.1, e.2))) := by
  have hnone : ∀ r c, fnd g g.root (P' ++ x' :: r) ≠ .ok c := fun r c hc => free_none h.p' h.k' r c hc
  have hr : (movE g d x d' x' n).root = g.root := rfl
  have ea : ∀ (Q : List Nme) (y : Nme) r, Q ++ y :: r = (Q ++ [y]) ++ r := fun Q y r => by simp
  refine ⟨?_, fun p c => ?_, fun b => ?_, by rw [List.length_map]; exact hN.len⟩
  · rw [List.map_map, show ((fun e : List Nme × Nat => e.1) ∘ fun e : List Nme × Nat => (mvp (P ++ [x]) (P' ++ [x']) e.1, e.2)) = (mvp (P ++ [x]) (P' ++ [x'])) ∘ (·.1) from rfl, ← List.map_map]
    refine List.pairwise_map.2 (hN.nodup.imp_of_mem fun {p q} hp hq hne e => hne ?_)
    obtain ⟨⟨p', c1⟩, hp1, rfl⟩ := List.mem_map.1 hp
    obtain ⟨⟨q', c2⟩, hq1, rfl⟩ := List.mem_map.1 hq
    have h1 := ((hN.mem p' c1).1 hp1).2
    have h2 := ((hN.mem q' c2).1 hq1).2
    show p' = q'
    have e : mvp (P ++ [x]) (P' ++ [x']) p' = mvp (P ++ [x]) (P' ++ [x']) q' := e
    by_cases a : ∃ r, p' = (P ++ [x]) ++ r
    · obtain ⟨r, rfl⟩ := a
      rw [mvp_in] at e
      by_cases b : ∃ r, q' = (P ++ [x]) ++ r
      · obtain ⟨r2, rfl⟩ := b
        rw [mvp_in] at e
        rw [List.append_cancel_left e]
      · rw [mvp_out b] at e
        rw [← e, ← ea] at h2
        exact absurd h2 (hnone _ _)
    · rw [mvp_out a] at e
      by_cases b : ∃ r, q' = (P ++ [x]) ++ r
      · obtain ⟨r2, rfl⟩ := b
        rw [mvp_in] at e
        rw [e, ← ea] at h1
        exact absurd h1 (hnone _ _)
      · rw [mvp_out b] at e
        exact e
  · rw [List.mem_map, hr]
    constructor
    · rintro ⟨⟨q, b⟩, hq, e⟩
      obtain ⟨rfl, rfl⟩ := Prod.mk.inj e
      obtain ⟨hqn, hc⟩ := (hN.mem q b).1 hq
      show mvp _ _ q ≠ [] ∧ fnd _ _ (mvp _ _ q) = .ok b
      by_cases a : ∃ r, q = (P ++ [x]) ++ r
      · obtain ⟨r, rfl⟩ := a
        rw [mvp_in]
        refine ⟨by simp, ?_⟩
        rw [← ea] at hc ⊢
        rw [h.new hO, ← h.old]; exact hc
      · rw [mvp_out a]
        have a1 : ¬ ∃ r, q = P ++ x :: r := fun ⟨r, e⟩ => a ⟨r, by rw [e, ea]⟩
        have a2 : ¬ ∃ r, q = P' ++ x' :: r := fun ⟨r, e⟩ => by rw [e] at hc; exact hnone r b hc
        exact ⟨hqn, by rw [h.far hO a2 a1]; exact hc⟩
    · rintro ⟨hp, hc⟩
      by_cases a : ∃ r, p = P' ++ x' :: r
      · obtain ⟨r, rfl⟩ := a
        rw [h.new hO] at hc
        refine ⟨(P ++ x :: r, c), (hN.mem _ c).2 ⟨by simp, by rw [h.old]; exact hc⟩, ?_⟩
        show (mvp _ _ (P ++ x :: r), c) = _
        rw [ea P x r, mvp_in, ← ea P' x' r]
      · by_cases b : ∃ r, p = P ++ x :: r
        · rw [h.gone hO a b] at hc; cases hc
        · rw [h.far hO a b] at hc
          refine ⟨(p, c), (hN.mem p c).2 ⟨hp, hc⟩, ?_⟩
          show (mvp _ _ p, c) = _
          rw [mvp_out (fun ⟨r, e⟩ => b ⟨r, by rw [e]; exact (ea P x r).symm⟩)]
  · show g.nms b = _
    rw [hN.cnt, List.filter_map, List.length_map]
    rfl
end Tr
end Go.Proofs.YtnglhfeialomgaaGreatDoor
/- What Walk gathers, in plain Lean. -/
namespace Go.Proofs.YtnglhfeialomgaaGreatDoor
namespace Tr

/-- The text of what lies at a way. -/
def txtG (g : G) (q : List Nme) : List UInt8 := match fnd g g.root q with
  | .ok c => txt g q c
  | .err _ => []
theorem txtG_ok {g : G} {q : List Nme} {c : Nat} (h : fnd g g.root q = .ok c) : txtG g q = txt g q c := by unfold txtG; rw [h]
/-- What stands ahead of a name in a directory. -/
def atT (p : List Nme) : List UInt8 := p.flatMap (fun p => (47 : UInt8) :: p) ++ [47]
theorem atT_nil : atT [] = [47] := rfl
theorem shown_snoc (p : List Nme) (x : Nme) : Pa.shown (p ++ [x]) = atT p ++ x := by
  unfold Pa.shown atT
  rw [if_neg (by simp), List.flatMap_append]
  simp
theorem txtB_file (p : List Nme) (x : Nme) : txtB (p ++ [x]) false = atT p ++ x := by
  unfold txtB
  rw [shown_snoc]
  simp
theorem txtB_dir (p : List Nme) (x : Nme) : txtB (p ++ [x]) true = atT p ++ x ++ [47] := by
  unfold txtB
  rw [shown_snoc]
  simp
theorem atT_snoc (p : List Nme) (x : Nme) : atT (p ++ [x]) = atT p ++ x ++ [47] := by
  unfold atT
  rw [List.flatMap_append]
  simp
theorem atT_len {p : List Nme} (h : ∀ x ∈ p, Pa.IsName x) (hl : p.length ≤ 8) : (atT p).length ≤ 41 := by
  have := long_names h
  unfold atT
  rw [List.length_append, Pa.flat_len]
  simp
  omega
/-- What has been told ahead: ways, each once, none below p. -/
structure Good (g : G) (p : List Nme) (ps : List (List Nme)) : Prop where
  nodup : ps.Nodup
  ways : ∀ q ∈ ps, q ≠ [] ∧ ∃ c, fnd g g.root q = .ok c
  far : ∀ q ∈ ps, ∀ r, r ≠ [] → q ≠ p ++ r
/-- All ways below p, each once. -/
def Below (g : G) (p : List Nme) (n : Nat) (qs : List (List Nme)) : Prop := qs.Nodup ∧ ∀ q, q ∈ qs ↔ ∃ r c, r ≠ [] ∧ q = p ++ r ∧ fnd g n r = .ok c
/-- Those below the names that have come. -/
def Part (g : G) (p : List Nme) (n : Nat) (left : Nme → Bool) (qs : List (List Nme)) : Prop := qs.Nodup ∧ ∀ q, q ∈ qs ↔ ∃ x r c, left x = false ∧ q = p ++ x :: r ∧ fnd g n (x :: r) = .ok c
section
variable {g : G} {p : List Nme} {n : Nat} {left : Nme → Bool} {qs ps : List (List Nme)} {m : Nme → Option Nat}
theorem kid_some {x : Nme} {r : List Nme} {c : Nat} (h : fnd g n (x :: r) = .ok c) : ∃ e, kid g n x = some e ∧ fnd g e r = .ok c := by
  obtain ⟨a, m, e, h1, h2, h3, h4⟩ := fnd_front (p := []) h
  injection h1 with h1
  subst h1
  exact ⟨e, by rw [kid_of h2]; exact h3, h4⟩
theorem Part.start (hm : g.ent n = some m) : Part g p n (fun x => (m x).isSome) [] := by
  refine ⟨List.nodup_nil, fun q => ⟨fun h => (by cases h), ?_⟩⟩
  rintro ⟨x, r, c, hx, -, hf⟩
  obtain ⟨e, he, -⟩ := kid_some hf
  rw [kid_of hm] at he
  have hx : (m x).isSome = false := hx
  rw [he] at hx
  cases hx
theorem Part.step (h : Part g p n left qs) {x : Nme} {c : Nat} (hx : left x = true) (hk : kid g n x = some c) {q2 : List (List Nme)} (h2 : Below g (p ++ [x]) c q2) : Part g p n (fun z => left z && !(z == x)) (qs ++ [p ++ [x]] ++ q2) := by
  have e1 : ∀ r, p ++ x :: r = p ++ [x] ++ r := fun r => by simp
  constructor
  · rw [List.append_assoc, List.nodup_append]
    refine ⟨h.1, ?_, fun a ha b hb e => ?_⟩
    · refine List.nodup_cons.2 ⟨fun hm => ?_, h2.1⟩
      obtain ⟨r, c', hr, e, -⟩ := (h2.2 _).1 hm
      have := congrArg List.length e
      rw [List.length_append (bs := r)] at this
      exact hr (List.length_eq_zero_iff.1 (by omega))
    · subst e
      obtain ⟨y, r, c', hy, e, -⟩ := (h.2 a).1 ha
      have hxa : ∃ r', a = p ++ x :: r' := by
        rcases List.mem_cons.1 hb with hb | hb
        · exact ⟨[], hb⟩
        · obtain ⟨r', c', -, e', -⟩ := (h2.2 a).1 hb
          exact ⟨r', e'.trans (e1 r').symm⟩
      obtain ⟨r', e'⟩ := hxa
      rw [e] at e'
      have := List.append_cancel_left e'
      injection this with this _
      rw [this, hx] at hy
      cases hy
  · intro q
    rw [List.mem_append, List.mem_append, h.2, h2.2, List.mem_singleton]
    constructor
    · rintro ((⟨y, r, c', hy, e, hf⟩ | rfl) | ⟨r, c', hr, e, hf⟩)
      · exact ⟨y, r, c', by simp [hy], e, hf⟩
      · exact ⟨x, [], c, by simp, rfl, by rw [fnd_step hk]; rfl⟩
      · exact ⟨x, r, c', by simp, e.trans (e1 r).symm, by rw [fnd_step hk]; exact hf⟩
    · rintro ⟨y, r, c', hy, e, hf⟩
      simp only [Bool.and_eq_false_imp, Bool.not_eq_false'] at hy
      by_cases hl : left y = true
      · obtain rfl : y = x := by simpa using hy hl
        cases r with
        | nil => exact .inl (.inr e)
        | cons z r =>
          refine .inr ⟨z :: r, c', by simp, e.trans (e1 _), ?_⟩
          rw [fnd_step hk] at hf
          exact hf
      · exact .inl (.inl ⟨y, r, c', by simpa using hl, e, hf⟩)
theorem Below.file {c : Nat} (h : g.ent c = none) (p : List Nme) : Below g p c [] := by
  refine ⟨List.nodup_nil, fun q => ⟨fun h => (by cases h), ?_⟩⟩
  rintro ⟨r, c', hr, -, hf⟩
  cases r with
  | nil => exact absurd rfl hr
  | cons x r => rw [fnd_file h] at hf; cases hf
theorem Part.done (h : Part g p n left qs) (hl : ∀ x c, kid g n x = some c → left x = false) : Below g p n qs := by
  refine ⟨h.1, fun q => ?_⟩
  rw [h.2]
  constructor
  · rintro ⟨x, r, c, -, e, hf⟩
    exact ⟨x :: r, c, by simp, e, hf⟩
  · rintro ⟨r, c, hr, e, hf⟩
    cases r with
    | nil => exact absurd rfl hr
    | cons x r =>
      obtain ⟨e', he', -⟩ := kid_some hf
      exact ⟨x, r, c, hl x e' he', e, hf⟩
/-- What has been told, and what is told below p, are ways, each once. -/
theorem Good.all (h : Good g p ps) (hp : fnd g g.root p = .ok n) (hq : Part g p n left qs) : (ps ++ qs).Nodup ∧ ∀ q ∈ ps ++ qs, q ≠ [] ∧ ∃ c, fnd g g.root q = .ok c := by
  constructor
  · rw [List.nodup_append]
    refine ⟨h.nodup, hq.1, fun a ha b hb e => ?_⟩
    subst e
    obtain ⟨x, r, c, -, e, -⟩ := (hq.2 a).1 hb
    exact h.far a ha (x :: r) (by simp) e
  · intro q hm
    rcases List.mem_append.1 hm with hm | hm
    · exact h.ways q hm
    · obtain ⟨x, r, c, -, e, hf⟩ := (hq.2 q).1 hm
      rw [e]
      exact ⟨by simp, c, by rw [fnd_app_ok hp]; exact hf⟩
/-- Into a directory. -/
theorem Good.into (h : Good g p ps) (hp : fnd g g.root p = .ok n) (hq : Part g p n left qs) {x : Nme} {c : Nat} (hx : left x = true) (hk : kid g n x = some c) : Good g (p ++ [x]) (ps ++ (qs ++ [p ++ [x]])) := by
  obtain ⟨h1, h2⟩ := h.all hp hq
  have e1 : ∀ r, p ++ [x] ++ r = p ++ x :: r := fun r => by simp
  have hf : fnd g g.root (p ++ [x]) = .ok c := by rw [fnd_app_ok hp, fnd_step hk]; rfl
  rw [← List.append_assoc]
  refine ⟨?_, fun q hm => ?_, fun q hm r hr e => ?_⟩
  · rw [List.nodup_append]
    refine ⟨h1, by simp, fun a ha b hb e => ?_⟩
    simp only [List.mem_singleton] at hb
    rw [← e] at hb
    rw [hb] at ha
    rcases List.mem_append.1 ha with ha | ha
    · exact h.far _ ha [x] (by simp) rfl
    · obtain ⟨y, r, c', hy, e, -⟩ := (hq.2 _).1 ha
      have := List.append_cancel_left e
      injection this with this _
      rw [← this, hx] at hy
      cases hy
  · rcases List.mem_append.1 hm with hm | hm
    · exact h2 q hm
    · simp only [List.mem_singleton] at hm
      rw [hm]
      exact ⟨by simp, c, hf⟩
  · rw [e1] at e
    rcases List.mem_append.1 hm with hm | hm
    · rcases List.mem_append.1 hm with hm | hm
      · exact h.far q hm (x :: r) (by simp) e
      · obtain ⟨y, r', c', hy, e', -⟩ := (hq.2 _).1 hm
        rw [e'] at e
        have := List.append_cancel_left e
        injection this with this _
        rw [this, hx] at hy
        cases hy
    · simp only [List.mem_singleton] at hm
      rw [hm] at e
      have := List.append_cancel_left e
      injection this with _ this
      exact hr this.symm
/-- All that Walk gathers are the texts that WalkIs speaks of. -/
theorem walkIs_of (hO : OK g) {l : List (List UInt8)} (h : Below g [] g.root qs) (hl : l.Pairwise (· < ·)) (hp : l.Perm (qs.map (txtG g))) : WalkIs g l := by
  refine ⟨hl, fun s => ?_⟩
  rw [hp.mem_iff, List.mem_map]
  constructor
  · rintro ⟨q, hq, rfl⟩
    obtain ⟨r, c, hr, e, hf⟩ := (h.2 q).1 hq
    rw [List.nil_append] at e
    subst e
    exact ⟨q, c, hr, hf, txtG_ok hf⟩
  · rintro ⟨q, c, hq, hf, rfl⟩
    exact ⟨q, (h.2 q).2 ⟨q, c, hq, rfl, hf⟩, txtG_ok hf⟩
theorem told_nodup (hO : OK g) (h : Below g [] g.root qs) : (qs.map (txtG g)).Nodup := by
  refine List.pairwise_map.2 (h.1.imp_of_mem fun {p q} hp hq hne e => hne ?_)
  obtain ⟨r, c, -, e1, hf⟩ := (h.2 p).1 hp
  obtain ⟨r', c', -, e2, hf'⟩ := (h.2 q).1 hq
  rw [List.nil_append] at e1 e2
  subst e1 e2
  rw [txtG_ok hf, txtG_ok hf'] at e
  have h1 := parts_txt (fnd_names hO p _ c hf) (hO.short p c hf) (g.ent c).isSome
  have h2 := parts_txt (fnd_names hO q _ c' hf') (hO.short q c' hf') (g.ent c').isSome
  rw [show txtB p (g.ent c).isSome = txt g p c from rfl, e, show txt g q c' = txtB q (g.ent c').isSome from rfl, h2] at h1
  exact (Prod.mk.inj h1).1.symm
end
end Tr
end Go.Proofs.YtnglhfeialomgaaGreatDoor

/- What is made and dropped was not made; a directory that has something; in plain Lean. -/
namespace Go.Proofs.YtnglhfeialomgaaGreatDoor
namespace Tr

theorem newN_inW {g : G} {dom : Nat → Prop} {c : Nat} {o : Option Nat} (hr : dom g.root) (hcl : ∀ d x e, dom d → kid g d x = some e → dom e) (hc : ¬ dom c) (s : List UInt8) : InW (newN g c o) s ↔ InW g s := by
  constructor
  · rintro ⟨p, b, hpn, hf, rfl⟩
    rw [newN_same hr hcl hc] at hf
    have hb : dom b := fnd_dom hcl p g.root b hr hf
    exact ⟨p, b, hpn, hf, by unfold txt; rw [newN_ne (fun e => hc (by rw [← e]; exact hb))]⟩
  · rintro ⟨p, b, hpn, hf, rfl⟩
    have hb : dom b := fnd_dom hcl p g.root b hr hf
    exact ⟨p, b, hpn, (newN_same hr hcl hc p).trans hf, by unfold txt; rw [newN_ne (fun e => hc (by rw [← e]; exact hb))]⟩
/-- What was made, and what is left when it is dropped. -/
structure MadeP (g : G) (s : List UInt8) (c d : Nat) (x : Nme) (o : Option Nat) : Prop where
  sp : spot (addG (newN g c o) d x c) s = .at_ d x
  kd : kid (addG (newN g c o) d x c) d x = some c
  de : dropErr (addG (newN g c o) d x c) s = 0
  same : ∀ t, InW (dropG (addG (newN g c o) d x c) d x c) t ↔ InW g t
  sp2 : spot (dropG (addG (newN g c o) d x c) d x c) s = .at_ d x
  ae : addErr (dropG (addG (newN g c o) d x c) d x c) s = 0
theorem madeP {g : G} {dom : Nat → Prop} {s : List UInt8} {c d : Nat} {x : Nme} {o : Option Nat} (hO : OK g) (hO1 : OK (addG (newN g c o) d x c)) (hr : dom g.root) (hcl : ∀ d x e, dom d → kid g d x = some e → dom e) (hc : ¬ dom c) (h0 : addErr g s = 0) (hs : spot g s = .at_ d x) : MadeP g s c d x o := by
  obtain ⟨P, hpt, hfd, hds⟩ := spot_at hs
  have hk := addErr_kid h0 hs
  have hdd : dom d := fnd_dom hcl P g.root d hr hfd
  have hne : c ≠ d := fun e => hc (by rw [e]; exact hdd)
  have hOn : OK (newN g c o) := hO.newN hr hcl hc
  have hfn : fnd (newN g c o) (newN g c o).root P = .ok d := (newN_same hr hcl hc P).trans hfd
  have hdn : ((newN g c o).ent d).isSome = true := by rw [newN_ne hne.symm]; exact hds
  have hnP : ¬ ∃ r, P = P ++ x :: r := fun ⟨r, e⟩ => by have := congrArg List.length e; simp at this
  have f3 : fnd (addG (newN g c o) d x c) (addG (newN g c o) d x c).root P = .ok d := (added_far hOn hfn hdn hnP).trans hfn
  have hds1 : ((addG (newN g c o) d x c).ent d).isSome = true := by rw [addG_some]; exact hdn
  have kd : kid (addG (newN g c o) d x c) d x = some c := by rw [added_kid hdn, if_pos ⟨rfl, rfl⟩]
  have lf : Leaf (addG (newN g c o) d x c) c := fun y => by rw [added_kid hdn, if_neg (fun h => hne h.1)]; exact newN_leaf y
  have sp : spot (addG (newN g c o) d x c) s = .at_ d x := spot_of hpt f3 hds1
  have hcg := fnd_congr (g := setE (addG (newN g c o) d x c) d x none) (g' := dropG (addG (newN g c o) d x c) d x c) (fun b => rfl)
  have f4 : fnd (dropG (addG (newN g c o) d x c) d x c) (dropG (addG (newN g c o) d x c) d x c).root P = .ok d := by
    rw [hcg]
    exact (fnd_set_far (hO1.way f3 hds1) x none hnP).trans f3
  have hds2 : ((dropG (addG (newN g c o) d x c) d x c).ent d).isSome = true := by
    show ((setE (addG (newN g c o) d x c) d x none).ent d).isSome = true
    rw [setE_some]; exact hds1
  have sp2 : spot (dropG (addG (newN g c o) d x c) d x c) s = .at_ d x := spot_of hpt f4 hds2
  have kd2 : kid (dropG (addG (newN g c o) d x c) d x c) d x = none := by
    show kid (setE (addG (newN g c o) d x c) d x none) d x = none
    rw [kid_set hds1, if_pos rfl]
  have hm : (dropG (addG (newN g c o) d x c) d x c).many = g.many := by show g.many + 1 - 1 = g.many; omega
  have hm24 : g.many ≠ 24 := fun e => by
    unfold addErr at h0
    rw [hs] at h0
    have h0 : (if (kid g d x).isSome = true then (6 : Int) else if g.many = 24 then 4 else 0) = 0 := h0
    rw [hk, if_neg (by simp), if_pos e] at h0
    exact absurd h0 (by decide)
  refine ⟨sp, kd, ((dropErr_at sp).2 c kd).1 lf, fun t => ?_, sp2, addErr_zero sp2 kd2 (by rw [hm]; exact hm24)⟩
  have h8 := (Pa.parts_ok hpt).2.2.2
  have hnm := Pa.parts_names hpt
  have i1 := made_inW (o := o) hO hr hcl hc hfd hds hk t
  have i2 := drop_inW hO1 f3 hds1 kd lf t
  have i3 : InW (dropG (addG (newN g c o) d x c) d x c) t ↔ InW (setE (addG (newN g c o) d x c) d x none) t := inW_congr (g := setE (addG (newN g c o) d x c) d x none) (g' := dropG (addG (newN g c o) d x c) d x c) rfl (fun b => rfl) t
  have he : ((addG (newN g c o) d x c).ent c).isSome = o.isSome := by
    rw [addG_some, newN_at]; cases o <;> rfl
  rw [he] at i2
  have n1 : ∀ b, ¬ InW g (txtB (P ++ [x]) b) := not_inW hO hnm h8 (fun c => free_none hfd hk [] c)
  have hOd : OK (setE (addG (newN g c o) d x c) d x none) := hO1.drop f3 hds1
  have n2 : ∀ b, ¬ InW (setE (addG (newN g c o) d x c) d x none) (txtB (P ++ [x]) b) := not_inW hOd hnm h8 (fun c => drop_free hO1 f3 hds1 [] c)
  rw [i3]
  by_cases et : t = txtB (P ++ [x]) o.isSome
  · rw [et]
    exact ⟨fun h => absurd h (n2 _), fun h => absurd h (n1 _)⟩
  · constructor
    · intro h
      have := i1.1 (i2.2 (.inl h))
      exact this.resolve_right et
    · intro h
      have := i2.1 (i1.2 (.inl h))
      exact this.resolve_right et
/-- Names followed by a slash, ahead of more: the same names. -/
theorem name_cut : ∀ (x y a b : List UInt8), 47 ∉ x → 47 ∉ y → (b = [] ∨ ∃ b', b = 47 :: b') → x ++ 47 :: a = y ++ b → x = y ∧ 47 :: a = b
  | [], [], a, b, _, _, _, h => ⟨rfl, h⟩
  | [], u :: y, a, b, _, hy, _, h => by
    rw [List.nil_append, List.cons_append] at h
    injection h with h1 _
    exact absurd (by rw [h1]; simp) hy
  | u :: x, [], a, b, hx, _, hb, h => by
    rw [List.nil_append] at h
    rcases hb with rfl | ⟨b', rfl⟩
    · cases h
    · injection h with h1 _
      exact absurd (by rw [h1]; simp) hx
  | u :: x, v :: y, a, b, hx, hy, hb, h => by
    injection h with h1 h2
    obtain ⟨e1, e2⟩ := name_cut x y a b (fun hm => hx (by simp [hm])) (fun hm => hy (by simp [hm])) hb h2
    exact ⟨by rw [h1, e1], e2⟩
theorem flat_head (q : List Nme) (t : List UInt8) (ht : t = [] ∨ t = [47]) : (q.flatMap (fun p => (47 : UInt8) :: p) ++ t) = [] ∨ ∃ b', q.flatMap (fun p => (47 : UInt8) :: p) ++ t = 47 :: b' := by
  cases q with
  | nil => rcases ht with rfl | rfl <;> simp
  | cons y q => exact .inr ⟨y ++ (q.flatMap (fun p => (47 : UInt8) :: p) ++ t), by simp⟩
theorem flat_prefix : ∀ (p q : List Nme), (∀ x ∈ p, Pa.IsName x) → (∀ x ∈ q, Pa.IsName x) → ∀ rest t, rest ≠ [] → (t = [] ∨ t = [47]) → p.flatMap (fun p => (47 : UInt8) :: p) ++ 47 :: rest = q.flatMap (fun p => (47 : UInt8) :: p) ++ t → ∃ y r, q = p ++ y :: r
  | [], [], _, _, rest, t, hr, ht, h => by
    rw [List.flatMap_nil, List.nil_append, List.nil_append] at h
    rcases ht with rfl | rfl
    · cases h
    · injection h with _ h
      exact absurd h hr
  | [], y :: q, _, _, _, _, _, _, _ => ⟨y, q, rfl⟩
  | x :: p, [], hp, _, rest, t, hr, ht, h => by
    rw [List.flatMap_cons, List.flatMap_nil, List.nil_append] at h
    rcases ht with rfl | rfl
    · cases h
    · rw [List.cons_append, List.cons_append] at h
      injection h with _ h
      have := congrArg List.length h
      simp at this
  | x :: p, y :: q, hp, hq, rest, t, hr, ht, h => by
    rw [List.flatMap_cons, List.flatMap_cons, List.cons_append, List.cons_append, List.cons_append, List.cons_append] at h
    injection h with _ h
    rw [List.append_assoc, List.append_assoc] at h
    obtain ⟨b, hb⟩ : ∃ b, p.flatMap (fun p => (47 : UInt8) :: p) ++ 47 :: rest = 47 :: b := by
      cases p with
      | nil => exact ⟨rest, rfl⟩
      | cons z p => exact ⟨z ++ (p.flatMap (fun p => (47 : UInt8) :: p) ++ 47 :: rest), by simp⟩
    rw [hb] at h
    obtain ⟨e1, e2⟩ := name_cut x y b _ (hp x (by simp)).no47 (hq y (by simp)).no47 (flat_head q t ht) h
    rw [← hb] at e2
    obtain ⟨z, r, e3⟩ := flat_prefix p q (fun z hz => hp z (by simp [hz])) (fun z hz => hq z (by simp [hz])) rest t hr ht e2
    exact ⟨z, r, by rw [e1, e3]; rfl⟩
/-- A text that ends in a slash is a directory's. -/
theorem txt_slash {p : List Nme} (hp : ∀ x ∈ p, Pa.IsName x) (hne : p ≠ []) {b : Bool} (h : (txtB p b).getLast? = some 47) : b = true := by
  cases b with
  | true => rfl
  | false =>
    exfalso
    obtain ⟨P, x, rfl⟩ : ∃ P x, p = P ++ [x] := ⟨p.dropLast, p.getLast hne, (List.dropLast_concat_getLast hne).symm⟩
    rw [txtB_file] at h
    have hx := hp x (by simp)
    have hxn : x ≠ [] := fun e => by have := hx.1; rw [e] at this; simp at this
    rw [List.getLast?_append, List.getLast?_eq_some_getLast hxn, Option.some_or] at h
    injection h with h
    exact hx.no47 (h ▸ List.getLast_mem hxn)
/-- A directory that has something is not dropped. -/
theorem drop_full {g : G} (hO : OK g) {a b : List UInt8} (ha : InW g a) (hb : InW g b) (hl : a.getLast? = some 47) (hlen : a.length < b.length) (hpre : b.take a.length = a) : dropErr g a = 7 := by
  obtain ⟨p, c, hpn, hf, rfl⟩ := ha
  obtain ⟨q, c', hqn, hf', rfl⟩ := hb
  have hpN := fnd_names hO p _ c hf
  have hqN := fnd_names hO q _ c' hf'
  have hdir : (g.ent c).isSome = true := txt_slash hpN hpn hl
  obtain ⟨P, x, rfl⟩ : ∃ P x, p = P ++ [x] := ⟨p.dropLast, p.getLast hpn, (List.dropLast_concat_getLast hpn).symm⟩
  obtain ⟨d, m, e, h1, h2, h3, h4⟩ := fnd_front hf
  injection h4 with h4
  subst h4
  have hparts : Pa.parts (txt g (P ++ [x]) e) = (P ++ [x], 0) := parts_txt hpN (hO.short _ e hf) _
  have hsp : spot g (txt g (P ++ [x]) e) = .at_ d x := spot_of hparts h1 (by rw [h2]; rfl)
  have hk : kid g d x = some e := by rw [kid_of h2]; exact h3
  refine ((dropErr_at hsp).2 e hk).2 (fun hleaf => ?_)
  have ea : txt g (P ++ [x]) e = (P ++ [x]).flatMap (fun p => (47 : UInt8) :: p) ++ [47] := by
    unfold txt txtB Pa.shown
    rw [if_neg (by simp), hdir, if_pos rfl]
  have eb : ∃ t, (t = [] ∨ t = [47]) ∧ txt g q c' = q.flatMap (fun p => (47 : UInt8) :: p) ++ t := by
    unfold txt txtB Pa.shown
    rw [if_neg hqn]
    cases (g.ent c').isSome with
    | true => exact ⟨[47], .inr rfl, rfl⟩
    | false => exact ⟨[], .inl rfl, rfl⟩
  obtain ⟨t, ht, eb⟩ := eb
  rw [eb, ea] at hpre
  rw [eb, ea] at hlen
  have hsplit := List.take_append_drop ((P ++ [x]).flatMap (fun p => (47 : UInt8) :: p) ++ [47]).length (q.flatMap (fun p => (47 : UInt8) :: p) ++ t)
  rw [hpre, List.append_assoc] at hsplit
  have hrest : List.drop ((P ++ [x]).flatMap (fun p => (47 : UInt8) :: p) ++ [47]).length (q.flatMap (fun p => (47 : UInt8) :: p) ++ t) ≠ [] := fun e => by
    have := congrArg List.length e
    rw [List.length_drop, List.length_nil] at this
    omega
  obtain ⟨y, r, e2⟩ := flat_prefix (P ++ [x]) q hpN hqN _ t hrest ht hsplit
  rw [e2, fnd_app_ok hf] at hf'
  obtain ⟨e', he', -⟩ := kid_some hf'
  rw [hleaf y] at he'
  cases he'
end Tr
end Go.Proofs.YtnglhfeialomgaaGreatDoor
