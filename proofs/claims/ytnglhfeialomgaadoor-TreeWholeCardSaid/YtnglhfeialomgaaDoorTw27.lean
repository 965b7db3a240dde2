/- What is made and dropped was not made; a directory that has something; in plain Lean. -/

import Derived.Test.YtnglhfeialomgaaDoorTw21
import Derived.Test.YtnglhfeialomgaaDoorTw26
namespace Go.Proofs.YtnglhfeialomgaaDoor
namespace Tr

theorem newN_inW {g : G} {dom : Nat → Prop} {c : Nat} {o : Option Nat} (hr : dom g.root) (hcl : ∀ d x e, dom d → kid g d x = some e → dom e) (hc : ¬ dom c) (s : List UInt8) : InW (newN g c o) s ↔ InW g s := by
  constructor
  · rintro ⟨p, b, hpn, hf, rfl⟩
    rw [newN_same hr hcl hc] at hf
    have hb : dom b := fnd_dom hcl p g.root b hr hf
    exact ⟨p, b, hpn, hf, by unfold txt; rw [newN_ne (fun e => hc (by rw [← e]; exact hb))]⟩
  · rintro ⟨p, b, hpn, hf, rfl⟩
    have hb : dom b := fnd_dom hcl p g.root b hr hf
    exact ⟨p, b, hpn, (newN_same hr hcl hc p).trans hf, by unfold txt; rw [newN_ne (fun e => hc (by rw [← e]; exact hb))]⟩
/-- What was made, and what is left when it is dropped. -/
structure MadeP (g : G) (s : List UInt8) (c d : Nat) (x : Nme) (o : Option Nat) : Prop where
  sp : spot (addG (newN g c o) d x c) s = .at_ d x
  kd : kid (addG (newN g c o) d x c) d x = some c
  de : dropErr (addG (newN g c o) d x c) s = 0
  same : ∀ t, InW (dropG (addG (newN g c o) d x c) d x c) t ↔ InW g t
  sp2 : spot (dropG (addG (newN g c o) d x c) d x c) s = .at_ d x
  ae : addErr (dropG (addG (newN g c o) d x c) d x c) s = 0
theorem madeP {g : G} {dom : Nat → Prop} {s : List UInt8} {c d : Nat} {x : Nme} {o : Option Nat} (hO : OK g) (hO1 : OK (addG (newN g c o) d x c)) (hr : dom g.root) (hcl : ∀ d x e, dom d → kid g d x = some e → dom e) (hc : ¬ dom c) (h0 : addErr g s = 0) (hs : spot g s = .at_ d x) : MadeP g s c d x o := by
  obtain ⟨P, hpt, hfd, hds⟩ := spot_at hs
  have hk := addErr_kid h0 hs
  have hdd : dom d := fnd_dom hcl P g.root d hr hfd
  have hne : c ≠ d := fun e => hc (by rw [e]; exact hdd)
  have hOn : OK (newN g c o) := hO.newN hr hcl hc
  have hfn : fnd (newN g c o) (newN g c o).root P = .ok d := (newN_same hr hcl hc P).trans hfd
  have hdn : ((newN g c o).ent d).isSome = true := by rw [newN_ne hne.symm]; exact hds
  have hnP : ¬ ∃ r, P = P ++ x :: r := fun ⟨r, e⟩ => by have := congrArg List.length e; simp at this
  have f3 : fnd (addG (newN g c o) d x c) (addG (newN g c o) d x c).root P = .ok d := (added_far hOn hfn hdn hnP).trans hfn
  have hds1 : ((addG (newN g c o) d x c).ent d).isSome = true := by rw [addG_some]; exact hdn
  have kd : kid (addG (newN g c o) d x c) d x = some c := by rw [added_kid hdn, if_pos ⟨rfl, rfl⟩]
  have lf : Leaf (addG (newN g c o) d x c) c := fun y => by rw [added_kid hdn, if_neg (fun h => hne h.1)]; exact newN_leaf y
  have sp : spot (addG (newN g c o) d x c) s = .at_ d x := spot_of hpt f3 hds1
  have hcg := fnd_congr (g := setE (addG (newN g c o) d x c) d x none) (g' := dropG (addG (newN g c o) d x c) d x c) (fun b => rfl)
  have f4 : fnd (dropG (addG (newN g c o) d x c) d x c) (dropG (addG (newN g c o) d x c) d x c).root P = .ok d := by
    rw [hcg]
    exact (fnd_set_far (hO1.way f3 hds1) x none hnP).trans f3
  have hds2 : ((dropG (addG (newN g c o) d x c) d x c).ent d).isSome = true := by
    show ((setE (addG (newN g c o) d x c) d x none).ent d).isSome = true
    rw [setE_some]; exact hds1
  have sp2 : spot (dropG (addG (newN g c o) d x c) d x c) s = .at_ d x := spot_of hpt f4 hds2
  have kd2 : kid (dropG (addG (newN g c o) d x c) d x c) d x = none := by
    show kid (setE (addG (newN g c o) d x c) d x none) d x = none
    rw [kid_set hds1, if_pos rfl]
  have hm : (dropG (addG (newN g c o) d x c) d x c).many = g.many := by show g.many + 1 - 1 = g.many; omega
  have hm24 : g.many ≠ 24 := fun e => by
    unfold addErr at h0
    rw [hs] at h0
    have h0 : (if (kid g d x).isSome = true then (6 : Int) else if g.many = 24 then 4 else 0) = 0 := h0
    rw [hk, if_neg (by simp), if_pos e] at h0
    exact absurd h0 (by decide)
  refine ⟨sp, kd, ((dropErr_at sp).2 c kd).1 lf, fun t => ?_, sp2, addErr_zero sp2 kd2 (by rw [hm]; exact hm24)⟩
  have h8 := (Pa.parts_ok hpt).2.2.2
  have hnm := Pa.parts_names hpt
  have i1 := made_inW (o := o) hO hr hcl hc hfd hds hk t
  have i2 := drop_inW hO1 f3 hds1 kd lf t
  have i3 : InW (dropG (addG (newN g c o) d x c) d x c) t ↔ InW (setE (addG (newN g c o) d x c) d x none) t := inW_congr (g := setE (addG (newN g c o) d x c) d x none) (g' := dropG (addG (newN g c o) d x c) d x c) rfl (fun b => rfl) t
  have he : ((addG (newN g c o) d x c).ent c).isSome = o.isSome := by
    rw [addG_some, newN_at]; cases o <;> rfl
  rw [he] at i2
  have n1 : ∀ b, ¬ InW g (txtB (P ++ [x]) b) := not_inW hO hnm h8 (fun c => free_none hfd hk [] c)
  have hOd : OK (setE (addG (newN g c o) d x c) d x none) := hO1.drop f3 hds1
  have n2 : ∀ b, ¬ InW (setE (addG (newN g c o) d x c) d x none) (txtB (P ++ [x]) b) := not_inW hOd hnm h8 (fun c => drop_free hO1 f3 hds1 [] c)
  rw [i3]
  by_cases et : t = txtB (P ++ [x]) o.isSome
  · rw [et]
    exact ⟨fun h => absurd h (n2 _), fun h => absurd h (n1 _)⟩
  · constructor
    · intro h
      have := i1.1 (i2.2 (.inl h))
      exact this.resolve_right et
    · intro h
      have := i2.1 (i1.2 (.inl h))
      exact this.resolve_right et
/-- Names followed by a slash, ahead of more: the same names. -/
theorem name_cut : ∀ (x y a b : List UInt8), 47 ∉ x → 47 ∉ y → (b = [] ∨ ∃ b', b = 47 :: b') → x ++ 47 :: a = y ++ b → x = y ∧ 47 :: a = b
  | [], [], a, b, _, _, _, h => ⟨rfl, h⟩
  | [], u :: y, a, b, _, hy, _, h => by
    rw [List.nil_append, List.cons_append] at h
    injection h with h1 _
    exact absurd (by rw [h1]; simp) hy
  | u :: x, [], a, b, hx, _, hb, h => by
    rw [List.nil_append] at h
    rcases hb with rfl | ⟨b', rfl⟩
    · cases h
    · injection h with h1 _
      exact absurd (by rw [h1]; simp) hx
  | u :: x, v :: y, a, b, hx, hy, hb, h => by
    injection h with h1 h2
    obtain ⟨e1, e2⟩ := name_cut x y a b (fun hm => hx (by simp [hm])) (fun hm => hy (by simp [hm])) hb h2
    exact ⟨by rw [h1, e1], e2⟩
theorem flat_head (q : List Nme) (t : List UInt8) (ht : t = [] ∨ t = [47]) : (q.flatMap (fun p => (47 : UInt8) :: p) ++ t) = [] ∨ ∃ b', q.flatMap (fun p => (47 : UInt8) :: p) ++ t = 47 :: b' := by
  cases q with
  | nil => rcases ht with rfl | rfl <;> simp
  | cons y q => exact .inr ⟨y ++ (q.flatMap (fun p => (47 : UInt8) :: p) ++ t), by simp⟩
theorem flat_prefix : ∀ (p q : List Nme), (∀ x ∈ p, Pa.IsName x) → (∀ x ∈ q, Pa.IsName x) → ∀ rest t, rest ≠ [] → (t = [] ∨ t = [47]) → p.flatMap (fun p => (47 : UInt8) :: p) ++ 47 :: rest = q.flatMap (fun p => (47 : UInt8) :: p) ++ t → ∃ y r, q = p ++ y :: r
  | [], [], _, _, rest, t, hr, ht, h => by
    rw [List.flatMap_nil, List.nil_append, List.nil_append] at h
    rcases ht with rfl | rfl
    · cases h
    · injection h with _ h
      exact absurd h hr
  | [], y :: q, _, _, _, _, _, _, _ => ⟨y, q, rfl⟩
  | x :: p, [], hp, _, rest, t, hr, ht, h => by
    rw [List.flatMap_cons, List.flatMap_nil, List.nil_append] at h
    rcases ht with rfl | rfl
    · cases h
    · rw [List.cons_append, List.cons_append] at h
      injection h with _ h
      have := congrArg List.length h
      simp at this
  | x :: p, y :: q, hp, hq, rest, t, hr, ht, h => by
    rw [List.flatMap_cons, List.flatMap_cons, List.cons_append, List.cons_append, List.cons_append, List.cons_append] at h
    injection h with _ h
    rw [List.append_assoc, List.append_assoc] at h
    obtain ⟨b, hb⟩ : ∃ b, p.flatMap (fun p => (47 : UInt8) :: p) ++ 47 :: rest = 47 :: b := by
      cases p with
      | nil => exact ⟨rest, rfl⟩
      | cons z p => exact ⟨z ++ (p.flatMap (fun p => (47 : UInt8) :: p) ++ 47 :: rest), by simp⟩
    rw [hb] at h
    obtain ⟨e1, e2⟩ := name_cut x y b _ (hp x (by simp)).no47 (hq y (by simp)).no47 (flat_head q t ht) h
    rw [← hb] at e2
    obtain ⟨z, r, e3⟩ := flat_prefix p q (fun z hz => hp z (by simp [hz])) (fun z hz => hq z (by simp [hz])) rest t hr ht e2
    exact ⟨z, r, by rw [e1, e3]; rfl⟩
/-- A text that ends in a slash is a directory's. -/
theorem txt_slash {p : List Nme} (hp : ∀ x ∈ p, Pa.IsName x) (hne : p ≠ []) {b : Bool} (h : (txtB p b).getLast? = some 47) : b = true := by
  cases b with
  | true => rfl
  | false =>
    exfalso
    obtain ⟨P, x, rfl⟩ : ∃ P x, p = P ++ [x] := ⟨p.dropLast, p.getLast hne, (List.dropLast_concat_getLast hne).symm⟩
    rw [txtB_file] at h
    have hx := hp x (by simp)
    have hxn : x ≠ [] := fun e => by have := hx.1; rw [e] at this; simp at this
    rw [List.getLast?_append, List.getLast?_eq_some_getLast hxn, Option.some_or] at h
    injection h with h
    exact hx.no47 (h ▸ List.getLast_mem hxn)
/-- A directory that has something is not dropped. -/
theorem drop_full {g : G} (hO : OK g) {a b : List UInt8} (ha : InW g a) (hb : InW g b) (hl : a.getLast? = some 47) (hlen : a.length < b.length) (hpre : b.take a.length = a) : dropErr g a = 7 := by
  obtain ⟨p, c, hpn, hf, rfl⟩ := ha
  obtain ⟨q, c', hqn, hf', rfl⟩ := hb
  have hpN := fnd_names hO p _ c hf
  have hqN := fnd_names hO q _ c' hf'
  have hdir : (g.ent c).isSome = true := txt_slash hpN hpn hl
  obtain ⟨P, x, rfl⟩ : ∃ P x, p = P ++ [x] := ⟨p.dropLast, p.getLast hpn, (List.dropLast_concat_getLast hpn).symm⟩
  obtain ⟨d, m, e, h1, h2, h3, h4⟩ := fnd_front hf
  injection h4 with h4
  subst h4
  have hparts : Pa.parts (txt g (P ++ [x]) e) = (P ++ [x], 0) := parts_txt hpN (hO.short _ e hf) _
  have hsp : spot g (txt g (P ++ [x]) e) = .at_ d x := spot_of hparts h1 (by rw [h2]; rfl)
  have hk : kid g d x = some e := by rw [kid_of h2]; exact h3
  refine ((dropErr_at hsp).2 e hk).2 (fun hleaf => ?_)
  have ea : txt g (P ++ [x]) e = (P ++ [x]).flatMap (fun p => (47 : UInt8) :: p) ++ [47] := by
    unfold txt txtB Pa.shown
    rw [if_neg (by simp), hdir, if_pos rfl]
  have eb : ∃ t, (t = [] ∨ t = [47]) ∧ txt g q c' = q.flatMap (fun p => (47 : UInt8) :: p) ++ t := by
    unfold txt txtB Pa.shown
    rw [if_neg hqn]
    cases (g.ent c').isSome with
    | true => exact ⟨[47], .inr rfl, rfl⟩
    | false => exact ⟨[], .inl rfl, rfl⟩
  obtain ⟨t, ht, eb⟩ := eb
  rw [eb, ea] at hpre
  rw [eb, ea] at hlen
  have hsplit := List.take_append_drop ((P ++ [x]).flatMap (fun p => (47 : UInt8) :: p) ++ [47]).length (q.flatMap (fun p => (47 : UInt8) :: p) ++ t)
  rw [hpre, List.append_assoc] at hsplit
  have hrest : List.drop ((P ++ [x]).flatMap (fun p => (47 : UInt8) :: p) ++ [47]).length (q.flatMap (fun p => (47 : UInt8) :: p) ++ t) ≠ [] := fun e => by
    have := congrArg List.length e
    rw [List.length_drop, List.length_nil] at this
    omega
  obtain ⟨y, r, e2⟩ := flat_prefix (P ++ [x]) q hpN hqN _ t hrest ht hsplit
  rw [e2, fnd_app_ok hf] at hf'
  obtain ⟨e', he', -⟩ := kid_some hf'
  rw [hleaf y] at he'
  cases he'
end Tr
end Go.Proofs.YtnglhfeialomgaaDoor
/- What Walk tells, text by text: its names, its last byte, the directory that lists it; in plain Lean. -/
namespace Go.Proofs.YtnglhfeialomgaaDoor
namespace Tr

structure Tw (g : G) (s : List UInt8) (P : List Nme) (x : Nme) (d c : Nat) (m : Nme → Option Nat) (b : Bool) : Prop where
  parts : Pa.parts s = (P ++ [x], 0)
  txt : s = Pa.shown (P ++ [x]) ++ (if b = true then [47] else [])
  last : s.getLast? = some 47 ↔ b = true
  isD : (g.ent c).isSome = b
  fP : fnd g g.root P = .ok d
  em : g.ent d = some m
  mx : m x = some c
  atP : atV g (Pa.shown P) = .ok d
  atS : atV g s = .ok c
  atX : atV g (Pa.shown (P ++ [x])) = .ok c
  long : Pa.long (P ++ [x]) ≤ 100
  longP : Pa.long P ≤ 100
  len : s.length ≤ 60
  name : Pa.IsName x
theorem txtB_no (p : List Nme) : txtB p false = Pa.shown p := by
  show Pa.shown p ++ (if false = true then [47] else []) = _
  rw [if_neg (by decide), List.append_nil]
theorem tw_of {g : G} (hO : OK g) {s : List UInt8} (h : InW g s) : ∃ P x d c m b, Tw g s P x d c m b := by
  obtain ⟨p, c, hpn, hf, rfl⟩ := h
  have hN := fnd_names hO p _ c hf
  have hL := hO.short p c hf
  obtain ⟨P, x, rfl⟩ : ∃ P x, p = P ++ [x] := ⟨p.dropLast, p.getLast hpn, (List.dropLast_concat_getLast hpn).symm⟩
  obtain ⟨d, m, e, h1, h2, h3, h4⟩ := fnd_front hf
  injection h4 with h4
  subst h4
  have hNP : ∀ y ∈ P, Pa.IsName y := fun y hy => hN y (by simp [hy])
  have hLP : P.length ≤ 8 := by rw [List.length_append] at hL; omega
  have e1 : Pa.parts (txt g (P ++ [x]) e) = (P ++ [x], 0) := parts_txt hN hL _
  have e2 : Pa.parts (Pa.shown P) = (P, 0) := by rw [← txtB_no]; exact parts_txt hNP hLP _
  have e3 : Pa.parts (Pa.shown (P ++ [x])) = (P ++ [x], 0) := by rw [← txtB_no]; exact parts_txt hN hL _
  have l1 := long_names hN
  have l2 := long_names hNP
  refine ⟨P, x, d, e, m, (g.ent e).isSome, e1, rfl, ⟨fun h => txt_slash hN hpn h, fun h => ?_⟩, rfl, h1, h2, h3, atV_of e2 h1, atV_of e1 hf, atV_of e3 hf, by omega, by omega, (Pa.parts_ok e1).1, hN x (by simp)⟩
  show (txtB (P ++ [x]) (g.ent e).isSome).getLast? = some 47
  rw [h, txtB_dir, List.getLast?_append]
  rfl
end Tr
end Go.Proofs.YtnglhfeialomgaaDoor

/- A text's last byte; a text's beginning. -/
namespace Go.Proofs.YtnglhfeialomgaaDoor
theorem last_byte {a : List UInt8} (ha : a ≠ []) : ∃ (n : Nat) (h : n < (Pa.mk a).size) (x : Int), ((Pa.mk a).size : Int) - 1 = n ∧ ((((Pa.mk a)[n]'h).toNat : Nat) : Int) = x ∧ (x = 47 ↔ a.getLast? = some 47) := by
  have hl : 0 < a.length := List.length_pos_iff.2 ha
  have hs := Pa.mk_size a
  have hn : a.length - 1 < (Pa.mk a).size := by omega
  have hn' : a.length - 1 < a.length := by omega
  refine ⟨a.length - 1, hn, _, by omega, rfl, ?_⟩
  have e : (Pa.mk a)[a.length - 1]'hn = a[a.length - 1]'hn' := by
    have : (Pa.mk a).data.toList[a.length - 1]? = a[a.length - 1]? := by rw [Pa.mk_list]
    have h1 : (Pa.mk a)[a.length - 1]'hn = (Pa.mk a).data.toList[a.length - 1]'(by rw [Pa.mk_list]; exact hn') := rfl
    rw [h1]
    apply Option.some.inj
    rw [← List.getElem?_eq_getElem, ← List.getElem?_eq_getElem]
    exact this
  rw [e, List.getLast?_eq_getElem?, List.getElem?_eq_getElem hn']
  constructor
  · intro h
    congr 1
    apply UInt8.toNat_inj.1
    show _ = 47
    omega
  · intro h
    rw [Option.some.inj h]; rfl
theorem mk_head (b : List UInt8) (n : Nat) : (Pa.mk b).extract 0 n = Pa.mk (b.take n) := by
  have := Lib.extract_eq (Pa.mk b) 0 n
  rw [Pa.mk_list, List.drop_zero, Nat.sub_zero] at this
  exact this
end Go.Proofs.YtnglhfeialomgaaDoor
