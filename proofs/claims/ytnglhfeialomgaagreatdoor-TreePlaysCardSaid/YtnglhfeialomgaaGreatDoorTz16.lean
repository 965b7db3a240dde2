/- What Walk tells, text by text: its names, its last byte, the directory that lists it; in plain Lean. -/

import Derived.Test.YtnglhfeialomgaaGreatDoorTz07
import Derived.Test.YtnglhfeialomgaaGreatDoorTz08
import Derived.Test.YtnglhfeialomgaaGreatDoorTz15
namespace Go.Proofs.YtnglhfeialomgaaGreatDoor
namespace Tr

structure Tw (g : G) (s : List UInt8) (P : List Nme) (x : Nme) (d c : Nat) (m : Nme → Option Nat) (b : Bool) : Prop where
  parts : Pa.parts s = (P ++ [x], 0)
  txt : s = Pa.shown (P ++ [x]) ++ (if b = true then [47] else [])
  last : s.getLast? = some 47 ↔ b = true
  isD : (g.ent c).isSome = b
  fP : fnd g g.root P = .ok d
  em : g.ent d = some m
  mx : m x = some c
  atP : atV g (Pa.shown P) = .ok d
  atS : atV g s = .ok c
  atX : atV g (Pa.shown (P ++ [x])) = .ok c
  long : Pa.long (P ++ [x]) ≤ 100
  longP : Pa.long P ≤ 100
  len : s.length ≤ 60
  name : Pa.IsName x
theorem txtB_no (p : List Nme) : txtB p false = Pa.shown p := by
  show Pa.shown p ++ (if false = true then [47] else []) = _
  rw [if_neg (by decide), List.append_nil]
theorem tw_of {g : G} (hO : OK g) {s : List UInt8} (h : InW g s) : ∃ P x d c m b, Tw g s P x d c m b := by
  obtain ⟨p, c, hpn, hf, rfl⟩ := h
  have hN := fnd_names hO p _ c hf
  have hL := hO.short p c hf
  obtain ⟨P, x, rfl⟩ : ∃ P x, p = P ++ [x] := ⟨p.dropLast, p.getLast hpn, (List.dropLast_concat_getLast hpn).symm⟩
  obtain ⟨d, m, e, h1, h2, h3, h4⟩ := fnd_front hf
  injection h4 with h4
  subst h4
  have hNP : ∀ y ∈ P, Pa.IsName y := fun y hy => hN y (by simp [hy])
  have hLP : P.length ≤ 8 := by rw [List.length_append] at hL; omega
  have e1 : Pa.parts (txt g (P ++ [x]) e) = (P ++ [x], 0) := parts_txt hN hL _
  have e2 : Pa.parts (Pa.shown P) = (P, 0) := by rw [← txtB_no]; exact parts_txt hNP hLP _
  have e3 : Pa.parts (Pa.shown (P ++ [x])) = (P ++ [x], 0) := by rw [← txtB_no]; exact parts_txt hN hL _
  have l1 := long_names hN
  have l2 := long_names hNP
  refine ⟨P, x, d, e, m, (g.ent e).isSome, e1, rfl, ⟨fun h => txt_slash hN hpn h, fun h => ?_⟩, rfl, h1, h2, h3, atV_of e2 h1, atV_of e1 hf, atV_of e3 hf, by omega, by omega, (Pa.parts_ok e1).1, hN x (by simp)⟩
  show (txtB (P ++ [x]) (g.ent e).isSome).getLast? = some 47
  rw [h, txtB_dir, List.getLast?_append]
  rfl
end Tr
end Go.Proofs.YtnglhfeialomgaaGreatDoor
/- The document's answer for trees of directories (a list of paths with numbers of things), beside the graph; in plain Lean. -/
namespace Go.Proofs.YtnglhfeialomgaaGreatDoor
namespace Tr

abbrev Nr := List (List UInt8 × Nat)
structure RT where
  nm : Nr
  dirs : List Bool
/-- Does a text begin with another one, and a slash behind it? -/
def beg (s w : List UInt8) : Bool := (w ++ [47]).isPrefixOf s
def fnT (nm : Nr) (s : List UInt8) : Int := if s = [47] then 0 else match nm.find? (fun e => e.1 == s) with
  | some e => (e.2 : Int)
  | none => -1
def slN (s : List UInt8) : Nat := s.count 47
def Nms (p : List Nme) : Prop := (∀ x ∈ p, Pa.IsName x) ∧ p.length ≤ 8
theorem shown_inj {p q : List Nme} (hp : Nms p) (hq : Nms q) (h : Pa.shown p = Pa.shown q) : p = q := by
  have h1 := parts_txt hp.1 hp.2 false
  have h2 := parts_txt hq.1 hq.2 false
  rw [txtB_no] at h1 h2
  rw [h, h2] at h1
  exact (Prod.mk.inj h1).1.symm
theorem Nms.nil : Nms [] := ⟨by simp, by simp⟩
theorem shown_cons {p : List Nme} (hp : p ≠ []) : Pa.shown p = p.flatMap (fun p => (47 : UInt8) :: p) := if_neg hp
theorem beg_iff (s w : List UInt8) : beg s w = true ↔ ∃ r, s = w ++ 47 :: r := by
  unfold beg
  rw [List.isPrefixOf_iff_prefix]
  constructor
  · rintro ⟨r, e⟩; exact ⟨r, by rw [← e]; simp⟩
  · rintro ⟨r, rfl⟩; exact ⟨r, by simp⟩
theorem beg_way {p q : List Nme} (hp : ∀ x ∈ p, Pa.IsName x) (hq : ∀ x ∈ q, Pa.IsName x) (hpn : p ≠ []) : beg (Pa.shown q) (Pa.shown p) = true ↔ ∃ y r, q = p ++ y :: r := by
  rw [beg_iff]
  constructor
  · rintro ⟨r, e⟩
    rw [shown_cons hpn] at e
    by_cases hqn : q = []
    · subst hqn
      have hl := congrArg List.length e
      rw [List.length_append, Pa.flat_len] at hl
      have h1 : (Pa.shown []).length = 1 := rfl
      have h2 : 1 ≤ Pa.long p := by
        cases p with
        | nil => exact absurd rfl hpn
        | cons x p => rw [Pa.long_cons]; omega
      simp at hl
      omega
    · rw [shown_cons hqn] at e
      by_cases hr : r = []
      · exfalso
        subst hr
        -- a name is not empty: no path ends in a slash
        obtain ⟨Q, z, rfl⟩ : ∃ Q z, q = Q ++ [z] := ⟨q.dropLast, q.getLast hqn, (List.dropLast_concat_getLast hqn).symm⟩
        have h1 : (txtB (Q ++ [z]) false).getLast? = some 47 := by
          rw [txtB_no, shown_cons (by simp), e]
          simp
        exact absurd (txt_slash hq (by simp) h1) (by decide)
      · exact flat_prefix p q hp hq r [] hr (.inl rfl) (by rw [List.append_nil]; exact e.symm)
  · rintro ⟨y, r, rfl⟩
    rw [shown_cons hpn, shown_cons (by simp), List.flatMap_append, List.flatMap_cons]
    exact ⟨y ++ r.flatMap (fun p => (47 : UInt8) :: p), by simp⟩
theorem count_name {x : List UInt8} (h : Pa.IsName x) : x.count 47 = 0 := List.count_eq_zero.2 h.no47
theorem slN_flat : ∀ {p : List Nme}, (∀ x ∈ p, Pa.IsName x) → slN (p.flatMap (fun p => (47 : UInt8) :: p)) = p.length
  | [], _ => rfl
  | x :: p, h => by
    have ih := slN_flat (p := p) (fun y hy => h y (by simp [hy]))
    unfold slN at *
    rw [List.flatMap_cons, List.count_append, ih, List.count_cons_self, count_name (h x (by simp)), List.length_cons]
    omega
theorem slN_shown {p : List Nme} (h : ∀ x ∈ p, Pa.IsName x) (hp : p ≠ []) : slN (Pa.shown p) = p.length := by
  rw [shown_cons hp, slN_flat h]
def tx (ths : List Nat) (e : List Nme × Nat) : List UInt8 × Nat := (Pa.shown e.1, ths.idxOf e.2)
/-- The document's list is the graph's. -/
structure Rf (g : G) (dom : Nat → Prop) (ns : Nl) (ths : List Nat) (T : RT) : Prop where
  nk : Ns g ns
  nm : T.nm = ns.map (tx ths)
  dirs : T.dirs = ths.map (fun c => (g.ent c).isSome)
  root : ths.idxOf g.root = 0 ∧ g.root ∈ ths
  nodup : ths.Nodup
  all : ∀ e ∈ ns, e.2 ∈ ths
  dom : ∀ c ∈ ths, dom c
section
variable {g : G} {dom : Nat → Prop} {ns : Nl} {ths : List Nat} {T : RT}
theorem Rf.way (h : Rf g dom ns ths T) (hO : OK g) {p : List Nme} {c : Nat} (hm : (p, c) ∈ ns) : Nms p ∧ p ≠ [] ∧ fnd g g.root p = .ok c := by
  obtain ⟨h1, h2⟩ := (h.nk.mem p c).1 hm
  exact ⟨⟨fnd_names hO p _ c h2, hO.short p c h2⟩, h1, h2⟩
theorem Rf.find (h : Rf g dom ns ths T) (hO : OK g) {p : List Nme} (hp : Nms p) : fnT T.nm (Pa.shown p) = match fnd g g.root p with
    | .ok c => (ths.idxOf c : Int)
    | .err _ => -1 := by
  unfold fnT
  by_cases hpn : p = []
  · subst hpn
    rw [if_pos (show Pa.shown [] = [47] from rfl)]
    show (0 : Int) = (ths.idxOf g.root : Int)
    rw [h.root.1]; rfl
  · rw [if_neg (show ¬ Pa.shown p = [47] from fun e => hpn (shown_inj hp Nms.nil e)), h.nm, List.find?_map]
    have hfe : ∀ e ∈ ns, Pa.shown e.1 = Pa.shown p → e.1 = p := fun e he hs => shown_inj (h.way hO (p := e.1) (c := e.2) he).1 hp hs
    cases hf : ns.find? ((fun e => e.1 == Pa.shown p) ∘ tx ths) with
    | some e =>
      have h1 := List.mem_of_find?_eq_some hf
      have h2 : Pa.shown e.1 = Pa.shown p := by
        have h2 := List.find?_some hf
        exact eq_of_beq h2
      have h3 := hfe e h1 h2
      have h4 := (h.way hO (p := e.1) (c := e.2) h1).2.2
      rw [h3] at h4
      rw [h4]
      rfl
    | none =>
      cases hg : fnd g g.root p with
      | err _ => rfl
      | ok c =>
        exfalso
        have h1 : (p, c) ∈ ns := (h.nk.mem p c).2 ⟨hpn, hg⟩
        have := List.find?_eq_none.1 hf (p, c) h1
        exact this (by show (Pa.shown p == Pa.shown p) = true; exact beq_self_eq_true _)
theorem Rf.find_ok (h : Rf g dom ns ths T) (hO : OK g) {p : List Nme} (hp : Nms p) {c : Nat} (hf : fnd g g.root p = .ok c) : fnT T.nm (Pa.shown p) = (ths.idxOf c : Int) := by rw [h.find hO hp, hf]
theorem Rf.find_err (h : Rf g dom ns ths T) (hO : OK g) {p : List Nme} (hp : Nms p) {e : Int} (hf : fnd g g.root p = .err e) : fnT T.nm (Pa.shown p) = -1 := by rw [h.find hO hp, hf]
/-- What is found is a thing. -/
theorem Rf.thing (h : Rf g dom ns ths T) {p : List Nme} {c : Nat} (hf : fnd g g.root p = .ok c) : c ∈ ths := by
  by_cases hp : p = []
  · subst hp
    injection hf with hf
    rw [← hf]; exact h.root.2
  · exact h.all (p, c) ((h.nk.mem p c).2 ⟨hp, hf⟩)
theorem Rf.dirAt (h : Rf g dom ns ths T) {c : Nat} (hc : c ∈ ths) : ∃ (hi : ths.idxOf c < T.dirs.length), T.dirs[ths.idxOf c]'hi = (g.ent c).isSome := by
  have hl := List.idxOf_lt_length_of_mem hc
  have hi : ths.idxOf c < T.dirs.length := by rw [h.dirs, List.length_map]; exact hl
  refine ⟨hi, ?_⟩
  have : T.dirs[ths.idxOf c]? = some (g.ent c).isSome := by
    rw [h.dirs, List.getElem?_map, List.getElem?_eq_getElem hl, List.getElem_idxOf hl]
    rfl
  rw [List.getElem?_eq_getElem hi] at this
  exact Option.some.inj this
theorem Rf.few (h : Rf g dom ns ths T) : (T.nm.length : Int) = g.many := by rw [h.nm, List.length_map]; exact h.nk.len
/-- A node that nothing leads to. -/
theorem Rf.newN {c : Nat} {o : Option Nat} (h : Rf g dom ns ths T) (hr : dom g.root) (hcl : ∀ d x e, dom d → kid g d x = some e → dom e) (hc : ¬ dom c) : Rf (newN g c o) (fun b => dom b ∨ b = c) ns ths T := by
  refine ⟨h.nk.newN hr hcl hc, h.nm, ?_, h.root, h.nodup, h.all, fun b hb => .inl (h.dom b hb)⟩
  rw [h.dirs]
  refine List.map_congr_left fun b hb => ?_
  rw [newN_ne (fun e => hc (by rw [← e]; exact h.dom b hb))]
theorem idx_app {ths : List Nat} {b : Nat} (hb : b ∈ ths) (l : List Nat) : (ths ++ l).idxOf b = ths.idxOf b := by rw [List.idxOf_append, if_pos hb]
/-- A new thing, named. -/
theorem Rf.made {c d : Nat} {o : Option Nat} {P : List Nme} {x : Nme} (h : Rf g dom ns ths T) (hO : OK g) (hr : dom g.root) (hcl : ∀ d x e, dom d → kid g d x = some e → dom e) (hc : ¬ dom c) (hf : fnd g g.root P = .ok d) (hd : (g.ent d).isSome = true) (hk : kid g d x = none) :
    Rf (addG (Tr.newN g c o) d x c) (fun b => dom b ∨ b = c) (ns ++ [(P ++ [x], c)]) (ths ++ [c]) ⟨T.nm ++ [(Pa.shown (P ++ [x]), T.dirs.length)], T.dirs ++ [o.isSome]⟩ := by
  have hdd : dom d := fnd_dom hcl P g.root d hr hf
  have hne : d ≠ c := fun e => hc (by rw [← e]; exact hdd)
  have hOn : OK (Tr.newN g c o) := hO.newN hr hcl hc
  have hct : c ∉ ths := fun hm => hc (h.dom c hm)
  have hns : Ns (addG (Tr.newN g c o) d x c) (ns ++ [(P ++ [x], c)]) := (h.nk.newN (o := o) hr hcl hc).add hOn ((newN_same hr hcl hc P).trans hf) (by rw [newN_ne hne]; exact hd) (by rw [kid_newN hne]; exact hk) hne.symm newN_leaf
  have hdl : T.dirs.length = ths.length := by rw [h.dirs, List.length_map]
  have hic : (ths ++ [c]).idxOf c = ths.length := by rw [List.idxOf_append, if_neg hct]; simp
  have hent : ∀ b, ((addG (Tr.newN g c o) d x c).ent b).isSome = ((Tr.newN g c o).ent b).isSome := fun b => by rw [addG_some]
  refine ⟨hns, ?_, ?_, ⟨by rw [show (addG (Tr.newN g c o) d x c).root = g.root from rfl, idx_app h.root.2]; exact h.root.1, by rw [show (addG (Tr.newN g c o) d x c).root = g.root from rfl]; exact List.mem_append_left _ h.root.2⟩, ?_, ?_, ?_⟩
  · show T.nm ++ _ = _
    rw [List.map_append, h.nm, List.map_cons, List.map_nil]
    congr 1
    · refine List.map_congr_left fun e he => ?_
      show (_, _) = (_, _)
      rw [idx_app (h.all e he)]
    · show [(_, _)] = [(_, _)]
      rw [hic, hdl]
  · show T.dirs ++ _ = _
    rw [List.map_append, h.dirs, List.map_cons, List.map_nil]
    congr 1
    · refine List.map_congr_left fun b hb => ?_
      rw [hent, newN_ne (fun e => hct (by rw [← e]; exact hb))]
    · rw [hent, newN_at]
      cases o <;> rfl
  · rw [List.nodup_append]
    exact ⟨h.nodup, by simp, fun a ha b hb e => hct (by simp only [List.mem_singleton] at hb; rw [← hb, ← e]; exact ha)⟩
  · intro e he
    rcases List.mem_append.1 he with he | he
    · exact List.mem_append_left _ (h.all e he)
    · simp only [List.mem_singleton] at he
      subst he
      simp
  · intro b hb
    rcases List.mem_append.1 hb with hb | hb
    · exact .inl (h.dom b hb)
    · exact .inr (by simpa using hb)
/-- A thing named once more. -/
theorem Rf.link {n d : Nat} {P : List Nme} {x : Nme} (h : Rf g dom ns ths T) (hO : OK g) (hn : n ∈ ths) (he : g.ent n = none) (hf : fnd g g.root P = .ok d) (hd : (g.ent d).isSome = true) (hk : kid g d x = none) :
    Rf (addG g d x n) dom (ns ++ [(P ++ [x], n)]) ths ⟨T.nm ++ [(Pa.shown (P ++ [x]), ths.idxOf n)], T.dirs⟩ := by
  have hne : n ≠ d := fun e => by rw [← e, he] at hd; cases hd
  have hns : Ns (addG g d x n) (ns ++ [(P ++ [x], n)]) := h.nk.add hO hf hd hk hne (fun y => by unfold kid; rw [he]; rfl)
  refine ⟨hns, ?_, ?_, h.root, h.nodup, ?_, h.dom⟩
  · show T.nm ++ _ = _
    rw [List.map_append, h.nm]
    rfl
  · show T.dirs = _
    rw [h.dirs]
    exact List.map_congr_left fun b _ => by rw [addG_some]
  · intro e hm
    rcases List.mem_append.1 hm with hm | hm
    · exact h.all e hm
    · simp only [List.mem_singleton] at hm
      subst hm
      exact hn
/-- A name struck. -/
theorem Rf.drop {c d : Nat} {P : List Nme} {x : Nme} (h : Rf g dom ns ths T) (hO : OK g) (hf : fnd g g.root P = .ok d) (hd : (g.ent d).isSome = true) (hk : kid g d x = some c) (hleaf : Leaf g c) :
    Rf (dropG g d x c) dom (ns.filter (fun e => !(e.1 == P ++ [x]))) ths ⟨T.nm.filter (fun e => !(e.1 == Pa.shown (P ++ [x]))), T.dirs⟩ := by
  have hat : fnd g g.root (P ++ [x]) = .ok c := by rw [fnd_app_ok hf, fnd_step hk]; rfl
  have hP : Nms (P ++ [x]) := ⟨fnd_names hO _ _ _ hat, hO.short _ _ hat⟩
  refine ⟨h.nk.drop hO hf hd hk hleaf, ?_, ?_, h.root, h.nodup, fun e he => h.all e (List.mem_filter.1 he).1, h.dom⟩
  · show T.nm.filter _ = _
    rw [h.nm, List.filter_map]
    congr 1
    refine List.filter_congr fun e he => ?_
    show (!(Pa.shown e.1 == Pa.shown (P ++ [x]))) = !(e.1 == P ++ [x])
    congr 1
    by_cases e1 : e.1 = P ++ [x]
    · rw [e1]; simp
    · rw [beq_eq_false_iff_ne.2 e1, beq_eq_false_iff_ne.2 (fun e2 => e1 (shown_inj (h.way hO (p := e.1) (c := e.2) he).1 hP e2))]
  · show T.dirs = _
    rw [h.dirs]
    exact List.map_congr_left fun b _ => (setE_some (g := g) (d := d) (b := b) (x := x) (o := none)).symm
/-- What the document puts in place of a path, in a move of a to b. -/
def mvT (a b s : List UInt8) : List UInt8 := if s = a then b else if beg s a = true then b ++ s.drop a.length else s
theorem mvT_way {a b p : List Nme} (ha : Nms a) (hb : b ≠ []) (han : a ≠ []) (hp : Nms p) : mvT (Pa.shown a) (Pa.shown b) (Pa.shown p) = Pa.shown (mvp a b p) := by
  unfold mvT
  by_cases e : p = a
  · subst e
    rw [if_pos rfl]
    have := mvp_in p b []
    rw [List.append_nil, List.append_nil] at this
    rw [this]
  · rw [if_neg (fun h => e (shown_inj hp ha h))]
    by_cases hbg : beg (Pa.shown p) (Pa.shown a) = true
    · rw [if_pos hbg]
      obtain ⟨y, r, rfl⟩ := (beg_way ha.1 hp.1 han).1 hbg
      rw [mvp_in, shown_cons (p := a ++ y :: r) (by simp), shown_cons han, shown_cons hb, shown_cons (p := b ++ y :: r) (by simp), List.flatMap_append, List.flatMap_append, List.drop_left]
    · rw [if_neg hbg, mvp_out]
      rintro ⟨r, rfl⟩
      cases r with
      | nil => exact e (by simp)
      | cons y r => exact hbg ((beg_way ha.1 hp.1 han).2 ⟨y, r, rfl⟩)
theorem Rf.move {P P' : List Nme} {d d' n : Nat} {x x' : Nme} (h : Rf g dom ns ths T) (hm : Mv g P d x n P' d' x') (hO : OK g) :
    Rf (movE g d x d' x' n) dom (ns.map (fun e => (mvp (P ++ [x]) (P' ++ [x']) e.1, e.2))) ths ⟨T.nm.map (fun e => (mvT (Pa.shown (P ++ [x])) (Pa.shown (P' ++ [x'])) e.1, e.2)), T.dirs⟩ := by
  have hat : fnd g g.root (P ++ [x]) = .ok n := by rw [fnd_app_ok hm.p, fnd_step hm.k]; rfl
  have hP : Nms (P ++ [x]) := ⟨fnd_names hO _ _ _ hat, hO.short _ _ hat⟩
  refine ⟨h.nk.move hm hO, ?_, ?_, h.root, h.nodup, fun e he => ?_, h.dom⟩
  · show T.nm.map _ = _
    rw [h.nm, List.map_map, List.map_map]
    refine List.map_congr_left fun e he => ?_
    show (mvT _ _ (Pa.shown e.1), ths.idxOf e.2) = (Pa.shown (mvp _ _ e.1), ths.idxOf e.2)
    rw [mvT_way hP (by simp) (by simp) (h.way hO (p := e.1) (c := e.2) he).1]
  · show T.dirs = _
    rw [h.dirs]
    exact List.map_congr_left fun b _ => (Mv.isD b).symm
  · obtain ⟨e', he', rfl⟩ := List.mem_map.1 he
    exact h.all e' he'
/-- A directory that has something: a path begins with its own. -/
theorem Rf.leaf (h : Rf g dom ns ths T) (hO : OK g) {p : List Nme} {c : Nat} (hpn : p ≠ []) (hf : fnd g g.root p = .ok c) : Leaf g c ↔ ∀ e ∈ T.nm, beg e.1 (Pa.shown p) = false := by
  have hp : Nms p := ⟨fnd_names hO _ _ _ hf, hO.short _ _ hf⟩
  constructor
  · intro hl e he
    rw [h.nm] at he
    obtain ⟨⟨q, b⟩, hm, rfl⟩ := List.mem_map.1 he
    obtain ⟨hq, -, hfq⟩ := h.way hO hm
    rw [Bool.eq_false_iff]
    intro hb
    obtain ⟨y, r, rfl⟩ := (beg_way hp.1 hq.1 hpn).1 hb
    rw [fnd_app_ok hf] at hfq
    exact absurd (fnd_leaf hl hfq).1 (by simp)
  · intro hall x
    cases hk : kid g c x with
    | none => rfl
    | some e =>
      exfalso
      have hfe : fnd g g.root (p ++ [x]) = .ok e := by rw [fnd_app_ok hf, fnd_step hk]; rfl
      have hm : (p ++ [x], e) ∈ ns := (h.nk.mem _ e).2 ⟨by simp, hfe⟩
      have h1 := hall (tx ths (p ++ [x], e)) (by rw [h.nm]; exact List.mem_map_of_mem hm)
      have h2 : beg (Pa.shown (p ++ [x])) (Pa.shown p) = true := (beg_way hp.1 (h.way hO hm).1.1 hpn).2 ⟨x, [], rfl⟩
      have h1 : beg (Pa.shown (p ++ [x])) (Pa.shown p) = false := h1
      rw [h2] at h1
      cases h1
end
end Tr
end Go.Proofs.YtnglhfeialomgaaGreatDoor

/- Lists of lists of texts; texts that lie as they lay. -/
namespace Go.Proofs.YtnglhfeialomgaaGreatDoor
open Go.RowKit

/-- A list of lists of texts. -/
def RwT (w : World) (v : Value) (ls : List (List (List UInt8))) : Prop := ∃ A g o c, v = .slice A ls.length c ∧ ls.length ≤ 9223372036854775807 ∧ (0 < ls.length → A = some ⟨g, o, none⟩) ∧ ∀ i (hi : i < ls.length), ∃ u gi, w.cell? ⟨g, o + i, none⟩ = some u ∧ SlR strE w u gi ls[i]
theorem slR_fr {w w' : World} {v : Value} {g : Nat} {l : List (List UInt8)} (h : SlR strE w v g l) (hf : Fr [] w w') : SlR strE w' v g l := by
  rcases h with h | ⟨a, c, e, h1, h2, h3⟩
  · exact .inl h
  · exact .inr ⟨a, c, e, h1, h2, fun i hi r hr => by
      have h4 := h3 i hi r hr
      have h5 : ∃ x, w.cell? ⟨g, a + i * strE.k + r, none⟩ = some x := by
        rw [h4]
        have hr : r < 1 := hr
        obtain rfl : r = 0 := by omega
        exact ⟨_, rfl⟩
      obtain ⟨x, hx⟩ := h5
      rw [← h4, hx]
      exact hf.cell hx (by simp)⟩
end Go.Proofs.YtnglhfeialomgaaGreatDoor

/- Texts put together. -/
namespace Go.Proofs.YtnglhfeialomgaaGreatDoor
theorem mk_append (a b : List UInt8) : Pa.mk a ++ Pa.mk b = Pa.mk (a ++ b) := by
  apply ByteArray.ext
  simp [Pa.mk]
end Go.Proofs.YtnglhfeialomgaaGreatDoor

/- platterholdsame.Texts at lists that are the same; platterholdref2.Shown. -/
namespace Go.Proofs.YtnglhfeialomgaaGreatDoor
open Go.RowKit

theorem str_cell {w : World} {v : Value} {g : Nat} {l : List (List UInt8)} (h : SlR strE w v g l) : ∃ (A : Option Addr) (o c : Nat), v = .slice A l.length c ∧ l.length ≤ 9223372036854775807 ∧ (0 < l.length → A = some ⟨g, o, none⟩) ∧ ∀ i, i < l.length → w.cell? ⟨g, o + i, none⟩ = some (.string (Pa.mk (l.getD i []))) := by
  obtain ⟨A, o, c, h1, h2, h3, h4⟩ := h.form
  refine ⟨A, o, c, h1, h2, h3, fun i hi => ?_⟩
  have := h4 i hi 0 (by decide)
  simpa [strE, List.getD, hi] using this
set_option maxRecDepth 100000 in
theorem texts_same (w : World) (v u : Value) (g k0 : Nat) (xs : List (List UInt8)) (h : SlR strE w v g xs) (h' : SlR strE w u k0 xs) :
    Calls Tryz.prog 12 #[v, u] w (OkT w) := by
  obtain ⟨A, o, c, rfl, hm, hA, hc⟩ := str_cell h
  obtain ⟨A', o', c', rfl, hm', hA', hc'⟩ := str_cell h'
  clear h h'
  have HA := Lib.hid hA
  have HC := Lib.hid (fun W (hW : Fr [] w W) i (hi : i < xs.length) => hW.cell (hc i hi) (by simp))
  have HA' := Lib.hid hA'
  have HC' := Lib.hid (fun W (hW : Fr [] w W) i (hi : i < xs.length) => hW.cell (hc' i hi) (by simp))
  have HF0 := Lib.hid (Fr.refl [] w)
  clear hA hc hA' hc'
  go_enter Tryz.func12, Tryz.ntmps12
  go_wp2_with fail
  go_loopw [5] (fun i wr => ∃ k : Nat, k ≤ xs.length ∧ i = .int .i64 k ∧ Hid (Fr [] w wr)) (fun i _ => xs.length - (intOf i).toNat)
  case atStart => exact ⟨0, Nat.zero_le _, rfl, HF0⟩
  case round =>
    clear HF0
    obtain ⟨k, hk, rfl, hF⟩ := hrel
    by_cases hlt : k < xs.length
    · obtain rfl := HA.out (by omega)
      obtain rfl := HA'.out (by omega)
      have hcell := HC.out wr hF.out k hlt
      have hcell' := HC'.out wr hF.out k hlt
      have i1 : (0 : Int) ≤ k := by omega
      have i2 : (k : Int) < xs.length := by omega
      generalize Pa.mk (xs.getD k []) = m at *
      go_wp2_with fail
      (refine wp_region_mixq 8 [(true, 0), (true, 1), (true, 2), (true, 3), (true, 4), (true, 5), (true, 6), (true, 7)] (by kernel_rfl) (by kernel_rfl) ?_; simp only [pickOps, List.map_cons, List.map_nil, List.getD_cons_zero, List.getD_cons_succ, List.drop_succ_cons, List.drop_zero]; (iterate 8 (first | (refine wpMix_take (v := ?_) (by rfl) ?_ ?_; rotate_left; (focus (intro W hW; subst hW; go_simp; (try with_reducible rfl); done)); try simp only [Act.put, List.setIfInBounds_toArray, List.set_cons_zero, List.set_cons_succ]) | (refine wpMix_leave (by rfl) ?_; try simp only [Act.put, List.setIfInBounds_toArray, List.set_cons_zero, List.set_cons_succ]))); refine wpMix_nil ?_)
      go_wp2
      go_roundw
      case rel => exact ⟨k + 1, by omega, by go_num, hF.out.step (Fr.refl [] wr).drew (by simp)⟩
      case measure => (simp [intOf]; try omega)
    · have i2 : ¬ (k : Int) < xs.length := by omega
      go_wp2
      go_ret
      exact ⟨rfl, hF.out⟩
theorem flat_take {l : List (List UInt8)} {k : Nat} (h : k < l.length) : (l.take (k + 1)).flatMap (fun p => (47 : UInt8) :: p) = (l.take k).flatMap (fun p => 47 :: p) ++ 47 :: l.getD k [] := by
  rw [List.take_add_one, List.getElem?_eq_getElem h, List.flatMap_append]
  simp [List.getD, h]
theorem flat_le (l : List (List UInt8)) (k : Nat) : ((l.take k).flatMap (fun p => (47 : UInt8) :: p)).length ≤ Pa.long l := by
  rw [Pa.flat_len]
  have : Pa.long l = Pa.long (l.take k) + Pa.long (l.drop k) := by rw [← Pa.long_append, List.take_append_drop]
  omega
theorem flat_le' {l : List (List UInt8)} {k : Nat} (h : k < l.length) : ((l.take k).flatMap (fun p => (47 : UInt8) :: p)).length + 1 + (l.getD k []).length ≤ Pa.long l := by
  have h1 := flat_le l (k + 1)
  rw [flat_take h, List.length_append, List.length_cons] at h1
  omega
set_option maxRecDepth 100000 in
theorem pa_Shown (w : World) (v : Value) (g : Nat) (l : List (List UInt8)) (h : SlR strE w v g l) (hl : Pa.long l ≤ 100000) :
    Calls Tryz.prog 19 #[v] w fun e w' => e = .returned (.string (Pa.mk (Pa.shown l))) ∧ w' = w := by
  obtain ⟨A, o, c, rfl, hm, hA, hc⟩ := str_cell h
  clear h
  by_cases h0 : l = []
  · subst h0
    go_enter Tryz.func19, Tryz.ntmps19
    go_wp2
    go_ret
    exact ⟨rfl, rfl⟩
  · have hpos : 0 < l.length := List.length_pos_iff.2 h0
    have e0 : ((l.length : Int) == 0) = false := beq_eq_false_iff_ne.2 (by omega)
    have hsh : Pa.shown l = l.flatMap (fun p => 47 :: p) := if_neg h0
    have HSH := Lib.hid hsh
    obtain rfl := hA hpos
    have HC := Lib.hid hc
    have HL := Lib.hid hl
    clear hA hc hl h0 hsh
    go_enter Tryz.func19, Tryz.ntmps19
    go_wp2_with fail
    go_loop [3, 4] (fun s i => ∃ k : Nat, k ≤ l.length ∧ i = .int .i64 k ∧ s = .string (Pa.mk ((l.take k).flatMap (fun p => 47 :: p)))) (fun _ i => l.length - (intOf i).toNat)
    case atStart => exact ⟨0, Nat.zero_le _, rfl, rfl⟩
    case round =>
      obtain ⟨k, hk, rfl, rfl⟩ := hrel
      by_cases hlt : k < l.length
      · have q := HC.out k hlt
        have i1 : (0 : Int) ≤ k := by omega
        have i2 : (k : Int) < l.length := by omega
        have hb := flat_le' hlt
        have hl' := HL.out
        have s1 := Pa.mk_size ((l.take k).flatMap (fun p => 47 :: p))
        have s2 := Pa.mk_size (l.getD k [])
        have HE : Hid (Pa.mk ((l.take k).flatMap (fun p => 47 :: p)) ++ (⟨#[47]⟩ : ByteArray) ++ Pa.mk (l.getD k []) = Pa.mk ((l.take (k + 1)).flatMap (fun p => 47 :: p))) := by
          show _ = _
          rw [flat_take hlt, show (⟨#[47]⟩ : ByteArray) = Pa.mk [47] from rfl, mk_append, mk_append, List.append_assoc]
          rfl
        rw [← s1, ← s2] at hb
        clear s1 s2 HC
        generalize Pa.mk ((l.take k).flatMap (fun p => 47 :: p)) = m1 at *
        generalize Pa.mk (l.getD k []) = m2 at *
        have z1 : m1.size ≤ 100000 := by omega
        have z2 : m2.size ≤ 100000 := by omega
        clear hb hl'
        go_wp2
        go_round
        case rel => exact ⟨k + 1, by omega, by go_num, by rw [← HE.out]⟩
        case measure => (simp [intOf]; try omega)
      · obtain rfl : k = l.length := by omega
        have i2 : ¬ (l.length : Int) < l.length := by omega
        rw [List.take_length, ← HSH.out]
        clear HC
        go_wp2
        go_ret
        exact ⟨rfl, rfl⟩
end Go.Proofs.YtnglhfeialomgaaGreatDoor

/- platterholdref2.Name. -/
namespace Go.Proofs.YtnglhfeialomgaaGreatDoor
open Go.RowKit

theorem bt_at (s : ByteArray) (k : Nat) (h : k < s.size) : (((s[k]'h).toNat : Nat) : Int) = bt s k := by
  have h' : k < s.data.toList.length := by rw [← Lib.size_eq]; exact h
  unfold bt
  rw [List.getD_eq_getElem?_getD, List.getElem?_eq_getElem h']
  rfl
theorem name_iff (s : ByteArray) (ha : ∀ j, j < s.size → low (bt s j)) : decide (Pa.IsName s.data.toList) = (decide ((1 : Int) ≤ s.size) && decide ((s.size : Int) ≤ 4)) := by
  by_cases h : (1 : Int) ≤ s.size ∧ (s.size : Int) ≤ 4
  · rw [decide_eq_true (name_of h ha), decide_eq_true h.1, decide_eq_true h.2]; rfl
  · rw [decide_eq_false (fun hn : Pa.IsName s.data.toList => h (by have h1 := hn.1; have h2 := hn.2.1; rw [← Lib.size_eq] at h1 h2; omega))]
    symm
    rw [Bool.and_eq_false_iff, decide_eq_false_iff_not, decide_eq_false_iff_not]
    omega
set_option maxRecDepth 100000 in
set_option maxHeartbeats 2000000 in
theorem m_Name (s : ByteArray) (w : World) (hs : s.size ≤ 140737488355328) :
    Calls Tryz.prog 37 #[.string s] w fun e w' => e = .returned (.bool (decide (Pa.IsName s.data.toList))) ∧ w' = w := by
  go_enter Tryz.func37, Tryz.ntmps37
  go_wp2_with fail
  go_loop [3] (fun i => ∃ k : Nat, k ≤ s.size ∧ i = .int .i64 k ∧ Hid (∀ j, j < k → low (bt s j))) (fun i => s.size - (intOf i).toNat)
  case atStart => exact ⟨0, Nat.zero_le _, rfl, fun j hj => absurd hj (by omega)⟩
  case round =>
    obtain ⟨k, hk, rfl, hA⟩ := hrel
    by_cases hlt : k < s.size
    · have k0 : (0 : Int) ≤ k := by omega
      have k1 : (k : Int) < s.size := by omega
      have HB : Hid (∀ x, bt s k = x → ¬ low x → ¬ Pa.IsName s.data.toList) := fun x hx hn => not_name_of hlt (by rw [hx]; exact hn)
      have HG : Hid (∀ x, bt s k = x → low x → ∀ j, j < k + 1 → low (bt s j)) := fun x hx hn j hj => by
        rcases Nat.lt_or_ge j k with h | h
        · exact hA.out j h
        · have : j = k := by omega
          subst this; rw [hx]; exact hn
      have hbt := bt_at s k hlt
      obtain ⟨x, hx⟩ : ∃ x, bt s k = x := ⟨_, rfl⟩
      rw [hx] at hbt
      have HX := Lib.hid hx
      clear hx hA
      by_cases h1 : x < 97
      · go_wp2
        go_ret
        exact ⟨by rw [decide_eq_false (HB.out x HX.out (fun h => by have := h.1; omega))]; rfl, rfl⟩
      · by_cases h2 : 122 < x
        · go_wp2
          go_ret
          exact ⟨by rw [decide_eq_false (HB.out x HX.out (fun h => by have := h.2; omega))]; rfl, rfl⟩
        · have HL : Hid (low x) := ⟨by omega, by omega⟩
          go_wp2
          go_round
          case rel => exact ⟨k + 1, by omega, by go_num, HG.out x HX.out HL.out⟩
          case measure => (simp [intOf]; try omega)
    · have n1 : ¬ (k : Int) < s.size := by omega
      have HN := Lib.hid (name_iff s (fun j hj => hA.out j (by omega)))
      clear hA
      by_cases z1 : (1 : Int) ≤ s.size
      · by_cases z2 : (s.size : Int) ≤ 4
        · have hq := HN.out
          rw [decide_eq_true z1, decide_eq_true z2] at hq
          have HQ := Lib.hid hq
          clear HN hq
          go_wp2
          go_ret
          exact ⟨by rw [HQ.out]; rfl, rfl⟩
        · have hq := HN.out
          rw [decide_eq_true z1, decide_eq_false z2] at hq
          have HQ := Lib.hid hq
          clear HN hq
          go_wp2
          go_ret
          exact ⟨by rw [HQ.out]; rfl, rfl⟩
      · have hq := HN.out
        rw [decide_eq_false z1] at hq
        have HQ := Lib.hid hq
        clear HN hq
        go_wp2
        go_ret
        exact ⟨by rw [HQ.out]; rfl, rfl⟩
end Go.Proofs.YtnglhfeialomgaaGreatDoor
