/- What Walk hands a law; nodes made, files named where there is room; a row of three texts. -/

import Derived.Test.YtnglhfeialomgaaDoorTq22
import Derived.Test.YtnglhfeialomgaaDoorTq23
import Derived.Test.YtnglhfeialomgaaDoorTq25
namespace Go.Proofs.YtnglhfeialomgaaDoor
open Go.RowKit

/-- What Walk hands a law. -/
theorem trl_Walk {w0 w : World} {tb K : Nat} {g : Tr.G} {dom : Nat → Prop} (h : TrL w0 w tb g dom K) :
    Calls Tryd.prog 11 #[.pointer (some ⟨tb, 0, none⟩)] w fun e w' => ∃ v l gv, e = .returned v ∧ (w.heap.size ≤ gv ∨ l = []) ∧ SlR strE w' v gv l ∧ Tr.WalkIs g l ∧ (l.length : Int) = g.many ∧ Fr [] w w' ∧ TrL w0 w' tb g dom K :=
  (tr_Walk w tb g dom K h.s h.cn).mono fun e w' ⟨v, l, gv, he, hg, hs, hw, hf⟩ => ⟨v, l, gv, he, hg, hs, hw, h.cn.walk h.s.ok hw, hf, h.step hf⟩
theorem errV0 : errV 0 = .nilIface := rfl
/-- A node made where there is room for it. -/
theorem MakL.ok {w0 w' : World} {tb K : Nat} {g : Tr.G} {dom : Nat → Prop} {s : List UInt8} {dir : Bool} {e : Ending} {d : Nat} {x : Tr.Nme} (h : MakL w0 tb g dom K s dir e w') (h0 : Tr.addErr g s = 0) (hs : Tr.spot g s = .at_ d x) : e = .returned .nilIface ∧ ∃ c o, ¬ dom c ∧ Option.isSome o = dir ∧ TrL w0 w' tb (Tr.addG (Tr.newN g c o) d x c) (fun b => dom b ∨ b = c) (K + 1) := by
  obtain ⟨he, c, o, hc, ho, hr⟩ := h
  rw [h0, errV0] at he
  rcases hr with ⟨-, d', x', hs', h⟩ | ⟨h, -⟩
  · rw [hs] at hs'
    injection hs' with e1 e2
    subst e1 e2
    exact ⟨he, c, o, hc, ho, h⟩
  · exact absurd h0 h
theorem LinkL.ok {w0 w' : World} {tb K : Nat} {g : Tr.G} {dom : Nat → Prop} {old s : List UInt8} {e : Ending} {d n : Nat} {x : Tr.Nme} (h : LinkL w0 tb g dom K old s e w') (h0 : Tr.linkErr g old s = 0) (ha : atV g old = .ok n) (hs : Tr.spot g s = .at_ d x) : e = .returned .nilIface ∧ TrL w0 w' tb (Tr.addG g d x n) dom (K + 1) := by
  obtain ⟨he, hr⟩ := h
  rw [h0, errV0] at he
  rcases hr with ⟨-, n', d', x', ha', -, -, hs', h⟩ | ⟨h, -⟩
  · rw [hs] at hs'
    injection hs' with e1 e2
    rw [ha] at ha'
    injection ha' with e3
    subst e1 e2 e3
    exact ⟨he, h⟩
  · exact absurd h0 h
theorem slR_alloc {w : World} {v : Value} {g : Nat} {l : List (List UInt8)} (h : SlR strE w v g l) (o : Obj) : SlR strE (w.alloc o) v g l := by
  rcases h with h | ⟨a, c, e, h1, h2, h3⟩
  · exact .inl h
  · exact .inr ⟨a, c, e, h1, h2, fun i hi r hr => by
      have h4 := h3 i hi r hr
      have h5 : ∃ x, w.cell? ⟨g, a + i * strE.k + r, none⟩ = some x := by
        rw [h4]
        have hr : r < 1 := hr
        obtain rfl : r = 0 := by omega
        exact ⟨_, rfl⟩
      obtain ⟨x, hx⟩ := h5
      rw [← h4, hx]
      exact ((Fr.refl [] w).alloc o).cell hx (by simp)⟩
theorem three_lit (w : World) : SlR strE (w.alloc (.cells #[.string ⟨#[47, 97, 47]⟩, .string ⟨#[47, 97, 47, 120]⟩, .string ⟨#[47, 121]⟩] 9)) (.slice (some ⟨w.heap.size, 0, none⟩) 3 3) w.heap.size [[47, 97, 47], [47, 97, 47, 120], [47, 121]] := by
  refine .inr ⟨0, 3, rfl, by decide, by unfold maxLen; omega, fun i hi r hr => ?_⟩
  have hr : r < 1 := hr
  obtain rfl : r = 0 := by omega
  rw [cell_of_row _ _ _ _ _ _ (heap_alloc_new w _)]
  have hi : i < 3 := hi
  match i, hi with
  | 0, _ => rfl
  | 1, _ => rfl
  | 2, _ => rfl
end Go.Proofs.YtnglhfeialomgaaDoor
/- What is made and dropped was not made; a directory that has something; in plain Lean. -/
namespace Go.Proofs.YtnglhfeialomgaaDoor
namespace Tr

theorem newN_inW {g : G} {dom : Nat → Prop} {c : Nat} {o : Option Nat} (hr : dom g.root) (hcl : ∀ d x e, dom d → kid g d x = some e → dom e) (hc : ¬ dom c) (s : List UInt8) : InW (newN g c o) s ↔ InW g s := by
  constructor
  · rintro ⟨p, b, hpn, hf, rfl⟩
    rw [newN_same hr hcl hc] at hf
    have hb : dom b := fnd_dom hcl p g.root b hr hf
    exact ⟨p, b, hpn, hf, by unfold txt; rw [newN_ne (fun e => hc (by rw [← e]; exact hb))]⟩
  · rintro ⟨p, b, hpn, hf, rfl⟩
    have hb : dom b := fnd_dom hcl p g.root b hr hf
    exact ⟨p, b, hpn, (newN_same hr hcl hc p).trans hf, by unfold txt; rw [newN_ne (fun e => hc (by rw [← e]; exact hb))]⟩
/-- What was made, and what is left when it is dropped. -/
structure MadeP (g : G) (s : List UInt8) (c d : Nat) (x : Nme) (o : Option Nat) : Prop where
  sp : spot (addG (newN g c o) d x c) s = .at_ d x
  kd : kid (addG (newN g c o) d x c) d x = some c
  de : dropErr (addG (newN g c o) d x c) s = 0
  same : ∀ t, InW (dropG (addG (newN g c o) d x c) d x c) t ↔ InW g t
  sp2 : spot (dropG (addG (newN g c o) d x c) d x c) s = .at_ d x
  ae : addErr (dropG (addG (newN g c o) d x c) d x c) s = 0
theorem madeP {g : G} {dom : Nat → Prop} {s : List UInt8} {c d : Nat} {x : Nme} {o : Option Nat} (hO : OK g) (hO1 : OK (addG (newN g c o) d x c)) (hr : dom g.root) (hcl : ∀ d x e, dom d → kid g d x = some e → dom e) (hc : ¬ dom c) (h0 : addErr g s = 0) (hs : spot g s = .at_ d x) : MadeP g s c d x o := by
  obtain ⟨P, hpt, hfd, hds⟩ := spot_at hs
  have hk := addErr_kid h0 hs
  have hdd : dom d := fnd_dom hcl P g.root d hr hfd
  have hne : c ≠ d := fun e => hc (by rw [e]; exact hdd)
  have hOn : OK (newN g c o) := hO.newN hr hcl hc
  have hfn : fnd (newN g c o) (newN g c o).root P = .ok d := (newN_same hr hcl hc P).trans hfd
  have hdn : ((newN g c o).ent d).isSome = true := by rw [newN_ne hne.symm]; exact hds
  have hnP : ¬ ∃ r, P = P ++ x :: r := fun ⟨r, e⟩ => by have := congrArg List.length e; simp at this
  have f3 : fnd (addG (newN g c o) d x c) (addG (newN g c o) d x c).root P = .ok d := (added_far hOn hfn hdn hnP).trans hfn
  have hds1 : ((addG (newN g c o) d x c).ent d).isSome = true := by rw [addG_some]; exact hdn
  have kd : kid (addG (newN g c o) d x c) d x = some c := by rw [added_kid hdn, if_pos ⟨rfl, rfl⟩]
  have lf : Leaf (addG (newN g c o) d x c) c := fun y => by rw [added_kid hdn, if_neg (fun h => hne h.1)]; exact newN_leaf y
  have sp : spot (addG (newN g c o) d x c) s = .at_ d x := spot_of hpt f3 hds1
  have hcg := fnd_congr (g := setE (addG (newN g c o) d x c) d x none) (g' := dropG (addG (newN g c o) d x c) d x c) (fun b => rfl)
  have f4 : fnd (dropG (addG (newN g c o) d x c) d x c) (dropG (addG (newN g c o) d x c) d x c).root P = .ok d := by
    rw [hcg]
    exact (fnd_set_far (hO1.way f3 hds1) x none hnP).trans f3
  have hds2 : ((dropG (addG (newN g c o) d x c) d x c).ent d).isSome = true := by
    show ((setE (addG (newN g c o) d x c) d x none).ent d).isSome = true
    rw [setE_some]; exact hds1
  have sp2 : spot (dropG (addG (newN g c o) d x c) d x c) s = .at_ d x := spot_of hpt f4 hds2
  have kd2 : kid (dropG (addG (newN g c o) d x c) d x c) d x = none := by
    show kid (setE (addG (newN g c o) d x c) d x none) d x = none
    rw [kid_set hds1, if_pos rfl]
  have hm : (dropG (addG (newN g c o) d x c) d x c).many = g.many := by show g.many + 1 - 1 = g.many; omega
  have hm24 : g.many ≠ 24 := fun e => by
    unfold addErr at h0
    rw [hs] at h0
    have h0 : (if (kid g d x).isSome = true then (6 : Int) else if g.many = 24 then 4 else 0) = 0 := h0
    rw [hk, if_neg (by simp), if_pos e] at h0
    exact absurd h0 (by decide)
  refine ⟨sp, kd, ((dropErr_at sp).2 c kd).1 lf, fun t => ?_, sp2, addErr_zero sp2 kd2 (by rw [hm]; exact hm24)⟩
  have h8 := (Pa.parts_ok hpt).2.2.2
  have hnm := Pa.parts_names hpt
  have i1 := made_inW (o := o) hO hr hcl hc hfd hds hk t
  have i2 := drop_inW hO1 f3 hds1 kd lf t
  have i3 : InW (dropG (addG (newN g c o) d x c) d x c) t ↔ InW (setE (addG (newN g c o) d x c) d x none) t := inW_congr (g := setE (addG (newN g c o) d x c) d x none) (g' := dropG (addG (newN g c o) d x c) d x c) rfl (fun b => rfl) t
  have he : ((addG (newN g c o) d x c).ent c).isSome = o.isSome := by
    rw [addG_some, newN_at]; cases o <;> rfl
  rw [he] at i2
  have n1 : ∀ b, ¬ InW g (txtB (P ++ [x]) b) := not_inW hO hnm h8 (fun c => free_none hfd hk [] c)
  have hOd : OK (setE (addG (newN g c o) d x c) d x none) := hO1.drop f3 hds1
  have n2 : ∀ b, ¬ InW (setE (addG (newN g c o) d x c) d x none) (txtB (P ++ [x]) b) := not_inW hOd hnm h8 (fun c => drop_free hO1 f3 hds1 [] c)
  rw [i3]
  by_cases et : t = txtB (P ++ [x]) o.isSome
  · rw [et]
    exact ⟨fun h => absurd h (n2 _), fun h => absurd h (n1 _)⟩
  · constructor
    · intro h
      have := i1.1 (i2.2 (.inl h))
      exact this.resolve_right et
    · intro h
      have := i2.1 (i1.2 (.inl h))
      exact this.resolve_right et
/-- Names followed by a slash, ahead of more: the same names. -/
theorem name_cut : ∀ (x y a b : List UInt8), 47 ∉ x → 47 ∉ y → (b = [] ∨ ∃ b', b = 47 :: b') → x ++ 47 :: a = y ++ b → x = y ∧ 47 :: a = b
  | [], [], a, b, _, _, _, h => ⟨rfl, h⟩
  | [], u :: y, a, b, _, hy, _, h => by
    rw [List.nil_append, List.cons_append] at h
    injection h with h1 _
    exact absurd (by rw [h1]; simp) hy
  | u :: x, [], a, b, hx, _, hb, h => by
    rw [List.nil_append] at h
    rcases hb with rfl | ⟨b', rfl⟩
    · cases h
    · injection h with h1 _
      exact absurd (by rw [h1]; simp) hx
  | u :: x, v :: y, a, b, hx, hy, hb, h => by
    injection h with h1 h2
    obtain ⟨e1, e2⟩ := name_cut x y a b (fun hm => hx (by simp [hm])) (fun hm => hy (by simp [hm])) hb h2
    exact ⟨by rw [h1, e1], e2⟩
theorem flat_head (q : List Nme) (t : List UInt8) (ht : t = [] ∨ t = [47]) : (q.flatMap (fun p => (47 : UInt8) :: p) ++ t) = [] ∨ ∃ b', q.flatMap (fun p => (47 : UInt8) :: p) ++ t = 47 :: b' := by
  cases q with
  | nil => rcases ht with rfl | rfl <;> simp
  | cons y q => exact .inr ⟨y ++ (q.flatMap (fun p => (47 : UInt8) :: p) ++ t), by simp⟩
theorem flat_prefix : ∀ (p q : List Nme), (∀ x ∈ p, Pa.IsName x) → (∀ x ∈ q, Pa.IsName x) → ∀ rest t, rest ≠ [] → (t = [] ∨ t = [47]) → p.flatMap (fun p => (47 : UInt8) :: p) ++ 47 :: rest = q.flatMap (fun p => (47 : UInt8) :: p) ++ t → ∃ y r, q = p ++ y :: r
  | [], [], _, _, rest, t, hr, ht, h => by
    rw [List.flatMap_nil, List.nil_append, List.nil_append] at h
    rcases ht with rfl | rfl
    · cases h
    · injection h with _ h
      exact absurd h hr
  | [], y :: q, _, _, _, _, _, _, _ => ⟨y, q, rfl⟩
  | x :: p, [], hp, _, rest, t, hr, ht, h => by
    rw [List.flatMap_cons, List.flatMap_nil, List.nil_append] at h
    rcases ht with rfl | rfl
    · cases h
    · rw [List.cons_append, List.cons_append] at h
      injection h with _ h
      have := congrArg List.length h
      simp at this
  | x :: p, y :: q, hp, hq, rest, t, hr, ht, h => by
    rw [List.flatMap_cons, List.flatMap_cons, List.cons_append, List.cons_append, List.cons_append, List.cons_append] at h
    injection h with _ h
    rw [List.append_assoc, List.append_assoc] at h
    obtain ⟨b, hb⟩ : ∃ b, p.flatMap (fun p => (47 : UInt8) :: p) ++ 47 :: rest = 47 :: b := by
      cases p with
      | nil => exact ⟨rest, rfl⟩
      | cons z p => exact ⟨z ++ (p.flatMap (fun p => (47 : UInt8) :: p) ++ 47 :: rest), by simp⟩
    rw [hb] at h
    obtain ⟨e1, e2⟩ := name_cut x y b _ (hp x (by simp)).no47 (hq y (by simp)).no47 (flat_head q t ht) h
    rw [← hb] at e2
    obtain ⟨z, r, e3⟩ := flat_prefix p q (fun z hz => hp z (by simp [hz])) (fun z hz => hq z (by simp [hz])) rest t hr ht e2
    exact ⟨z, r, by rw [e1, e3]; rfl⟩
/-- A text that ends in a slash is a directory's. -/
theorem txt_slash {p : List Nme} (hp : ∀ x ∈ p, Pa.IsName x) (hne : p ≠ []) {b : Bool} (h : (txtB p b).getLast? = some 47) : b = true := by
  cases b with
  | true => rfl
  | false =>
    exfalso
    obtain ⟨P, x, rfl⟩ : ∃ P x, p = P ++ [x] := ⟨p.dropLast, p.getLast hne, (List.dropLast_concat_getLast hne).symm⟩
    rw [txtB_file] at h
    have hx := hp x (by simp)
    have hxn : x ≠ [] := fun e => by have := hx.1; rw [e] at this; simp at this
    rw [List.getLast?_append, List.getLast?_eq_some_getLast hxn, Option.some_or] at h
    injection h with h
    exact hx.no47 (h ▸ List.getLast_mem hxn)
/-- A directory that has something is not dropped. -/
theorem drop_full {g : G} (hO : OK g) {a b : List UInt8} (ha : InW g a) (hb : InW g b) (hl : a.getLast? = some 47) (hlen : a.length < b.length) (hpre : b.take a.length = a) : dropErr g a = 7 := by
  obtain ⟨p, c, hpn, hf, rfl⟩ := ha
  obtain ⟨q, c', hqn, hf', rfl⟩ := hb
  have hpN := fnd_names hO p _ c hf
  have hqN := fnd_names hO q _ c' hf'
  have hdir : (g.ent c).isSome = true := txt_slash hpN hpn hl
  obtain ⟨P, x, rfl⟩ : ∃ P x, p = P ++ [x] := ⟨p.dropLast, p.getLast hpn, (List.dropLast_concat_getLast hpn).symm⟩
  obtain ⟨d, m, e, h1, h2, h3, h4⟩ := fnd_front hf
  injection h4 with h4
  subst h4
  have hparts : Pa.parts (txt g (P ++ [x]) e) = (P ++ [x], 0) := parts_txt hpN (hO.short _ e hf) _
  have hsp : spot g (txt g (P ++ [x]) e) = .at_ d x := spot_of hparts h1 (by rw [h2]; rfl)
  have hk : kid g d x = some e := by rw [kid_of h2]; exact h3
  refine ((dropErr_at hsp).2 e hk).2 (fun hleaf => ?_)
  have ea : txt g (P ++ [x]) e = (P ++ [x]).flatMap (fun p => (47 : UInt8) :: p) ++ [47] := by
    unfold txt txtB Pa.shown
    rw [if_neg (by simp), hdir, if_pos rfl]
  have eb : ∃ t, (t = [] ∨ t = [47]) ∧ txt g q c' = q.flatMap (fun p => (47 : UInt8) :: p) ++ t := by
    unfold txt txtB Pa.shown
    rw [if_neg hqn]
    cases (g.ent c').isSome with
    | true => exact ⟨[47], .inr rfl, rfl⟩
    | false => exact ⟨[], .inl rfl, rfl⟩
  obtain ⟨t, ht, eb⟩ := eb
  rw [eb, ea] at hpre
  rw [eb, ea] at hlen
  have hsplit := List.take_append_drop ((P ++ [x]).flatMap (fun p => (47 : UInt8) :: p) ++ [47]).length (q.flatMap (fun p => (47 : UInt8) :: p) ++ t)
  rw [hpre, List.append_assoc] at hsplit
  have hrest : List.drop ((P ++ [x]).flatMap (fun p => (47 : UInt8) :: p) ++ [47]).length (q.flatMap (fun p => (47 : UInt8) :: p) ++ t) ≠ [] := fun e => by
    have := congrArg List.length e
    rw [List.length_drop, List.length_nil] at this
    omega
  obtain ⟨y, r, e2⟩ := flat_prefix (P ++ [x]) q hpN hqN _ t hrest ht hsplit
  rw [e2, fnd_app_ok hf] at hf'
  obtain ⟨e', he', -⟩ := kid_some hf'
  rw [hleaf y] at he'
  cases he'
end Tr
end Go.Proofs.YtnglhfeialomgaaDoor

/- What Walk tells, text by text: its names, its last byte, the directory that lists it; in plain Lean. -/
namespace Go.Proofs.YtnglhfeialomgaaDoor
namespace Tr

structure Tw (g : G) (s : List UInt8) (P : List Nme) (x : Nme) (d c : Nat) (m : Nme → Option Nat) (b : Bool) : Prop where
  parts : Pa.parts s = (P ++ [x], 0)
  txt : s = Pa.shown (P ++ [x]) ++ (if b = true then [47] else [])
  last : s.getLast? = some 47 ↔ b = true
  isD : (g.ent c).isSome = b
  fP : fnd g g.root P = .ok d
  em : g.ent d = some m
  mx : m x = some c
  atP : atV g (Pa.shown P) = .ok d
  atS : atV g s = .ok c
  atX : atV g (Pa.shown (P ++ [x])) = .ok c
  long : Pa.long (P ++ [x]) ≤ 100
  longP : Pa.long P ≤ 100
  len : s.length ≤ 60
  name : Pa.IsName x
theorem txtB_no (p : List Nme) : txtB p false = Pa.shown p := by
  show Pa.shown p ++ (if false = true then [47] else []) = _
  rw [if_neg (by decide), List.append_nil]
theorem tw_of {g : G} (hO : OK g) {s : List UInt8} (h : InW g s) : ∃ P x d c m b, Tw g s P x d c m b := by
  obtain ⟨p, c, hpn, hf, rfl⟩ := h
  have hN := fnd_names hO p _ c hf
  have hL := hO.short p c hf
  obtain ⟨P, x, rfl⟩ : ∃ P x, p = P ++ [x] := ⟨p.dropLast, p.getLast hpn, (List.dropLast_concat_getLast hpn).symm⟩
  obtain ⟨d, m, e, h1, h2, h3, h4⟩ := fnd_front hf
  injection h4 with h4
  subst h4
  have hNP : ∀ y ∈ P, Pa.IsName y := fun y hy => hN y (by simp [hy])
  have hLP : P.length ≤ 8 := by rw [List.length_append] at hL; omega
  have e1 : Pa.parts (txt g (P ++ [x]) e) = (P ++ [x], 0) := parts_txt hN hL _
  have e2 : Pa.parts (Pa.shown P) = (P, 0) := by rw [← txtB_no]; exact parts_txt hNP hLP _
  have e3 : Pa.parts (Pa.shown (P ++ [x])) = (P ++ [x], 0) := by rw [← txtB_no]; exact parts_txt hN hL _
  have l1 := long_names hN
  have l2 := long_names hNP
  refine ⟨P, x, d, e, m, (g.ent e).isSome, e1, rfl, ⟨fun h => txt_slash hN hpn h, fun h => ?_⟩, rfl, h1, h2, h3, atV_of e2 h1, atV_of e1 hf, atV_of e3 hf, by omega, by omega, (Pa.parts_ok e1).1, hN x (by simp)⟩
  show (txtB (P ++ [x]) (g.ent e).isSome).getLast? = some 47
  rw [h, txtB_dir, List.getLast?_append]
  rfl
end Tr
end Go.Proofs.YtnglhfeialomgaaDoor

/- A step of a tree and the list of its names: the law TopPaths' own. -/
namespace Go.Proofs.YtnglhfeialomgaaDoor
open Go.RowKit

/-- A tree, and some list of its names. -/
def TrN (w0 w : World) (tb : Nat) (K : Nat) : Prop := ∃ g dom ns, TrL w0 w tb g dom K ∧ Tr.Ns g ns
/-- What a step leaves. -/
def StepN (w0 : World) (tb K : Nat) (e : Ending) (w' : World) : Prop := (∃ v, e = .returned v) ∧ TrN w0 w' tb K
section
variable {w0 w w' : World} {tb K : Nat} {g : Tr.G} {dom : Nat → Prop} {ns : Tr.Nl}
theorem MakL.named {s : List UInt8} {dir : Bool} {e : Ending} (hL : TrL w0 w tb g dom K) (hN : Tr.Ns g ns) (h : MakL w0 tb g dom K s dir e w') : StepN w0 tb (K + 2) e w' := by
  obtain ⟨he, c, o, hno, -, hr⟩ := h
  obtain ⟨hr1, hcl⟩ := hL.domC
  have hNn : Tr.Ns (Tr.newN g c o) ns := hN.newN hr1 hcl hno
  refine ⟨⟨_, he⟩, ?_⟩
  rcases hr with ⟨h0, d, x, hs, h⟩ | ⟨-, h⟩
  · obtain ⟨P, -, hf, hd⟩ := Tr.spot_at hs
    have hk := Tr.addErr_kid h0 hs
    have hdd : dom d := Tr.fnd_dom hcl P g.root d hr1 hf
    have hne : d ≠ c := fun e => hno (by rw [← e]; exact hdd)
    have hOn : Tr.OK (Tr.newN g c o) := hL.s.ok.newN hr1 hcl hno
    exact ⟨_, _, _, h.mono (by omega), hNn.add hOn ((Tr.newN_same hr1 hcl hno P).trans hf) (by rw [Tr.newN_ne hne]; exact hd) (by rw [Tr.kid_newN hne]; exact hk) hne.symm Tr.newN_leaf⟩
  · exact ⟨_, _, _, h.mono (by omega), hNn⟩
theorem LinkL.named {old s : List UInt8} {e : Ending} (hL : TrL w0 w tb g dom K) (hN : Tr.Ns g ns) (h : LinkL w0 tb g dom K old s e w') : StepN w0 tb (K + 2) e w' := by
  obtain ⟨he, hr⟩ := h
  refine ⟨⟨_, he⟩, ?_⟩
  rcases hr with ⟨-, n, d, x, -, hn, h0, hs, h⟩ | ⟨-, h⟩
  · obtain ⟨P, -, hf, hd⟩ := Tr.spot_at hs
    have hne : n ≠ d := fun e => by rw [← e, hn] at hd; cases hd
    exact ⟨_, _, _, h.mono (by omega), hN.add hL.s.ok hf hd (Tr.addErr_kid h0 hs) hne (fun y => by unfold Tr.kid; rw [hn]; rfl)⟩
  · exact ⟨_, _, _, h.mono (by omega), hN⟩
theorem DropL.named {s : List UInt8} {e : Ending} (hL : TrL w0 w tb g dom K) (hN : Tr.Ns g ns) (h : DropL w0 tb g dom K s e w') : StepN w0 tb (K + 2) e w' := by
  obtain ⟨he, hr⟩ := h
  refine ⟨⟨_, he⟩, ?_⟩
  rcases hr with ⟨-, d, x, n, hs, hk, hl, h⟩ | ⟨-, h⟩
  · obtain ⟨P, -, hf, hd⟩ := Tr.spot_at hs
    exact ⟨_, _, _, h.mono (by omega), hN.drop hL.s.ok hf hd hk hl⟩
  · exact ⟨_, _, _, h.mono (by omega), hN⟩
theorem MoveL.named {old tu : List UInt8} {e : Ending} (hL : TrL w0 w tb g dom K) (hN : Tr.Ns g ns) (h : MoveL w0 tb g dom K old tu e w') : StepN w0 tb (K + 2) e w' := by
  obtain ⟨he, hr⟩ := h
  refine ⟨⟨_, he⟩, ?_⟩
  rcases hr with ⟨-, P, d, x, n, P', d', x', -, -, hm, -, h⟩ | ⟨-, h⟩
  · exact ⟨_, _, _, h, hN.move hm hL.s.ok⟩
  · exact ⟨_, _, _, h.mono (by omega), hN⟩
/-- The five operations, as the law's rounds call them. -/
theorem TrN.dir (h : TrN w0 w tb K) (hK : K ≤ 100000) (s : ByteArray) : Calls Tryd.prog 17 #[.pointer (some ⟨tb, 0, none⟩), .string s] w (StepN w0 tb (K + 2)) := by
  obtain ⟨g, dom, ns, hL, hN⟩ := h
  exact (trl_Dir hL hK s).mono fun _ _ h => h.named hL hN
theorem TrN.file (h : TrN w0 w tb K) (hK : K ≤ 100000) (s : ByteArray) : Calls Tryd.prog 16 #[.pointer (some ⟨tb, 0, none⟩), .string s] w (StepN w0 tb (K + 2)) := by
  obtain ⟨g, dom, ns, hL, hN⟩ := h
  exact (trl_File hL hK s).mono fun _ _ h => h.named hL hN
theorem TrN.drop (h : TrN w0 w tb K) (hK : K ≤ 100000) (s : ByteArray) : Calls Tryd.prog 13 #[.pointer (some ⟨tb, 0, none⟩), .string s] w (StepN w0 tb (K + 2)) := by
  obtain ⟨g, dom, ns, hL, hN⟩ := h
  exact (trl_Drop hL hK s).mono fun _ _ h => h.named hL hN
theorem TrN.link (h : TrN w0 w tb K) (hK : K ≤ 100000) (a s : ByteArray) : Calls Tryd.prog 12 #[.pointer (some ⟨tb, 0, none⟩), .string a, .string s] w (StepN w0 tb (K + 2)) := by
  obtain ⟨g, dom, ns, hL, hN⟩ := h
  exact (trl_Link hL hK a s).mono fun _ _ h => h.named hL hN
theorem TrN.move (h : TrN w0 w tb K) (hK : K ≤ 100000) (a s : ByteArray) : Calls Tryd.prog 14 #[.pointer (some ⟨tb, 0, none⟩), .string a, .string s] w (StepN w0 tb (K + 2)) := by
  obtain ⟨g, dom, ns, hL, hN⟩ := h
  exact (trl_Move hL hK a s).mono fun _ _ h => h.named hL hN
theorem TrN.step (h : TrN w0 w tb K) (hf : Fr [] w w') : TrN w0 w' tb K := by
  obtain ⟨g, dom, ns, hL, hN⟩ := h
  exact ⟨g, dom, ns, hL.step hf, hN⟩
theorem TrN.mono {K' : Nat} (h : TrN w0 w tb K) (hK : K ≤ K') : TrN w0 w tb K' := by
  obtain ⟨g, dom, ns, hL, hN⟩ := h
  exact ⟨g, dom, ns, hL.mono hK, hN⟩
theorem TrN.fr (h : TrN w0 w tb K) : Fr [] w0 w := by
  obtain ⟨g, dom, ns, hL, hN⟩ := h
  exact hL.fr
end
/-- What New hands the law. -/
theorem trn_new {w0 w : World} (hf : Fr [] w0 w) : Calls Tryd.prog 22 #[] w fun e w' => ∃ tb, e = .returned (.pointer (some ⟨tb, 0, none⟩)) ∧ TrN w0 w' tb 0 :=
  (trl_new hf).mono fun _ _ ⟨tb, n, m, he, hL⟩ => ⟨tb, he, _, _, [], hL, Tr.Ns.new n m⟩
end Go.Proofs.YtnglhfeialomgaaDoor
