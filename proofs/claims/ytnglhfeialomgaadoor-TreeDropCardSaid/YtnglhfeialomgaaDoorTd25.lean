/- What is made and dropped was not made; a directory that has something; in plain Lean. -/
import Derived.LaidEql
import Derived.Stop.Asserts
import Derived.RowKitTokens
import Derived.Test.YtnglhfeialomgaaDoorTd04
import Derived.Test.YtnglhfeialomgaaDoorTd21
import Derived.Test.YtnglhfeialomgaaDoorTd24
namespace Go.Proofs.YtnglhfeialomgaaDoor
namespace Tr

theorem newN_inW {g : G} {dom : Nat → Prop} {c : Nat} {o : Option Nat} (hr : dom g.root) (hcl : ∀ d x e, dom d → kid g d x = some e → dom e) (hc : ¬ dom c) (s : List UInt8) : InW (newN g c o) s ↔ InW g s := by
  constructor
  · rintro ⟨p, b, hpn, hf, rfl⟩
    rw [newN_same hr hcl hc] at hf
    have hb : dom b := fnd_dom hcl p g.root b hr hf
    exact ⟨p, b, hpn, hf, by unfold txt; rw [newN_ne (fun e => hc (by rw [← e]; exact hb))]⟩
  · rintro ⟨p, b, hpn, hf, rfl⟩
    have hb : dom b := fnd_dom hcl p g.root b hr hf
    exact ⟨p, b, hpn, (newN_same hr hcl hc p).trans hf, by unfold txt; rw [newN_ne (fun e => hc (by rw [← e]; exact hb))]⟩
/-- What was made, and what is left when it is dropped. -/
structure MadeP (g : G) (s : List UInt8) (c d : Nat) (x : Nme) (o : Option Nat) : Prop where
  sp : spot (addG (newN g c o) d x c) s = .at_ d x
  kd : kid (addG (newN g c o) d x c) d x = some c
  de : dropErr (addG (newN g c o) d x c) s = 0
  same : ∀ t, InW (dropG (addG (newN g c o) d x c) d x c) t ↔ InW g t
  sp2 : spot (dropG (addG (newN g c o) d x c) d x c) s = .at_ d x
  ae : addErr (dropG (addG (newN g c o) d x c) d x c) s = 0
theorem madeP {g : G} {dom : Nat → Prop} {s : List UInt8} {c d : Nat} {x : Nme} {o : Option Nat} (hO : OK g) (hO1 : OK (addG (newN g c o) d x c)) (hr : dom g.root) (hcl : ∀ d x e, dom d → kid g d x = some e → dom e) (hc : ¬ dom c) (h0 : addErr g s = 0) (hs : spot g s = .at_ d x) : MadeP g s c d x o := by
  obtain ⟨P, hpt, hfd, hds⟩ := spot_at hs
  have hk := addErr_kid h0 hs
  have hdd : dom d := fnd_dom hcl P g.root d hr hfd
  have hne : c ≠ d := fun e => hc (by rw [e]; exact hdd)
  have hOn : OK (newN g c o) := hO.newN hr hcl hc
  have hfn : fnd (newN g c o) (newN g c o).root P = .ok d := (newN_same hr hcl hc P).trans hfd
  have hdn : ((newN g c o).ent d).isSome = true := by rw [newN_ne hne.symm]; exact hds
  have hnP : ¬ ∃ r, P = P ++ x :: r := fun ⟨r, e⟩ => by have := congrArg List.length e; simp at this
  have f3 : fnd (addG (newN g c o) d x c) (addG (newN g c o) d x c).root P = .ok d := (added_far hOn hfn hdn hnP).trans hfn
  have hds1 : ((addG (newN g c o) d x c).ent d).isSome = true := by rw [addG_some]; exact hdn
  have kd : kid (addG (newN g c o) d x c) d x = some c := by rw [added_kid hdn, if_pos ⟨rfl, rfl⟩]
  have lf : Leaf (addG (newN g c o) d x c) c := fun y => by rw [added_kid hdn, if_neg (fun h => hne h.1)]; exact newN_leaf y
  have sp : spot (addG (newN g c o) d x c) s = .at_ d x := spot_of hpt f3 hds1
  have hcg := fnd_congr (g := setE (addG (newN g c o) d x c) d x none) (g' := dropG (addG (newN g c o) d x c) d x c) (fun b => rfl)
  have f4 : fnd (dropG (addG (newN g c o) d x c) d x c) (dropG (addG (newN g c o) d x c) d x c).root P = .ok d := by
    rw [hcg]
    exact (fnd_set_far (hO1.way f3 hds1) x none hnP).trans f3
  have hds2 : ((dropG (addG (newN g c o) d x c) d x c).ent d).isSome = true := by
    show ((setE (addG (newN g c o) d x c) d x none).ent d).isSome = true
    rw [setE_some]; exact hds1
  have sp2 : spot (dropG (addG (newN g c o) d x c) d x c) s = .at_ d x := spot_of hpt f4 hds2
  have kd2 : kid (dropG (addG (newN g c o) d x c) d x c) d x = none := by
    show kid (setE (addG (newN g c o) d x c) d x none) d x = none
    rw [kid_set hds1, if_pos rfl]
  have hm : (dropG (addG (newN g c o) d x c) d x c).many = g.many := by show g.many + 1 - 1 = g.many; omega
  have hm24 : g.many ≠ 24 := fun e => by
    unfold addErr at h0
    rw [hs] at h0
    have h0 : (if (kid g d x).isSome = true then (6 : Int) else if g.many = 24 then 4 else 0) = 0 := h0
    rw [hk, if_neg (by simp), if_pos e] at h0
    exact absurd h0 (by decide)
  refine ⟨sp, kd, ((dropErr_at sp).2 c kd).1 lf, fun t => ?_, sp2, addErr_zero sp2 kd2 (by rw [hm]; exact hm24)⟩
  have h8 := (Pa.parts_ok hpt).2.2.2
  have hnm := Pa.parts_names hpt
  have i1 := made_inW (o := o) hO hr hcl hc hfd hds hk t
  have i2 := drop_inW hO1 f3 hds1 kd lf t
  have i3 : InW (dropG (addG (newN g c o) d x c) d x c) t ↔ InW (setE (addG (newN g c o) d x c) d x none) t := inW_congr (g := setE (addG (newN g c o) d x c) d x none) (g' := dropG (addG (newN g c o) d x c) d x c) rfl (fun b => rfl) t
  have he : ((addG (newN g c o) d x c).ent c).isSome = o.isSome := by
    rw [addG_some, newN_at]; cases o <;> rfl
  rw [he] at i2
  have n1 : ∀ b, ¬ InW g (txtB (P ++ [x]) b) := not_inW hO hnm h8 (fun c => free_none hfd hk [] c)
  have hOd : OK (setE (addG (newN g c o) d x c) d x none) := hO1.drop f3 hds1
  have n2 : ∀ b, ¬ InW (setE (addG (newN g c o) d x c) d x none) (txtB (P ++ [x]) b) := not_inW hOd hnm h8 (fun c => drop_free hO1 f3 hds1 [] c)
  rw [i3]
  by_cases et : t = txtB (P ++ [x]) o.isSome
  · rw [et]
    exact ⟨fun h => absurd h (n2 _), fun h => absurd h (n1 _)⟩
  · constructor
    · intro h
      have := i1.1 (i2.2 (.inl h))
      exact this.resolve_right et
    · intro h
      have := i2.1 (i1.2 (.inl h))
      exact this.resolve_right et
/-- Names followed by a slash, ahead of more: the same names. -/
theorem name_cut : ∀ (x y a b : List UInt8), 47 ∉ x → 47 ∉ y → (b = [] ∨ ∃ b', b = 47 :: b') → x ++ 47 :: a = y ++ b → x = y ∧ 47 :: a = b
  | [], [], a, b, _, _, _, h => ⟨rfl, h⟩
  | [], u :: y, a, b, _, hy, _, h => by
    rw [List.nil_append, List.cons_append] at h
    injection h with h1 _
    exact absurd (by rw [h1]; simp) hy
  | u :: x, [], a, b, hx, _, hb, h => by
    rw [List.nil_append] at h
    rcases hb with rfl | ⟨b', rfl⟩
    · cases h
    · injection h with h1 _
      exact absurd (by rw [h1]; simp) hx
  | u :: x, v :: y, a, b, hx, hy, hb, h => by
    injection h with h1 h2
    obtain ⟨e1, e2⟩ := name_cut x y a b (fun hm => hx (by simp [hm])) (fun hm => hy (by simp [hm])) hb h2
    exact ⟨by rw [h1, e1], e2⟩
theorem flat_head (q : List Nme) (t : List UInt8) (ht : t = [] ∨ t = [47]) : (q.flatMap (fun p => (47 : UInt8) :: p) ++ t) = [] ∨ ∃ b', q.flatMap (fun p => (47 : UInt8) :: p) ++ t = 47 :: b' := by
  cases q with
  | nil => rcases ht with rfl | rfl <;> simp
  | cons y q => exact .inr ⟨y ++ (q.flatMap (fun p => (47 : UInt8) :: p) ++ t), by simp⟩
theorem flat_prefix : ∀ (p q : List Nme), (∀ x ∈ p, Pa.IsName x) → (∀ x ∈ q, Pa.IsName x) → ∀ rest t, rest ≠ [] → (t = [] ∨ t = [47]) → p.flatMap (fun p => (47 : UInt8) :: p) ++ 47 :: rest = q.flatMap (fun p => (47 : UInt8) :: p) ++ t → ∃ y r, q = p ++ y :: r
  | [], [], _, _, rest, t, hr, ht, h => by
    rw [List.flatMap_nil, List.nil_append, List.nil_append] at h
    rcases ht with rfl | rfl
    · cases h
    · injection h with _ h
      exact absurd h hr
  | [], y :: q, _, _, _, _, _, _, _ => ⟨y, q, rfl⟩
  | x :: p, [], hp, _, rest, t, hr, ht, h => by
    rw [List.flatMap_cons, List.flatMap_nil, List.nil_append] at h
    rcases ht with rfl | rfl
    · cases h
    · rw [List.cons_append, List.cons_append] at h
      injection h with _ h
      have := congrArg List.length h
      simp at this
  | x :: p, y :: q, hp, hq, rest, t, hr, ht, h => by
    rw [List.flatMap_cons, List.flatMap_cons, List.cons_append, List.cons_append, List.cons_append, List.cons_append] at h
    injection h with _ h
    rw [List.append_assoc, List.append_assoc] at h
    obtain ⟨b, hb⟩ : ∃ b, p.flatMap (fun p => (47 : UInt8) :: p) ++ 47 :: rest = 47 :: b := by
      cases p with
      | nil => exact ⟨rest, rfl⟩
      | cons z p => exact ⟨z ++ (p.flatMap (fun p => (47 : UInt8) :: p) ++ 47 :: rest), by simp⟩
    rw [hb] at h
    obtain ⟨e1, e2⟩ := name_cut x y b _ (hp x (by simp)).no47 (hq y (by simp)).no47 (flat_head q t ht) h
    rw [← hb] at e2
    obtain ⟨z, r, e3⟩ := flat_prefix p q (fun z hz => hp z (by simp [hz])) (fun z hz => hq z (by simp [hz])) rest t hr ht e2
    exact ⟨z, r, by rw [e1, e3]; rfl⟩
/-- A text that ends in a slash is a directory's. -/
theorem txt_slash {p : List Nme} (hp : ∀ x ∈ p, Pa.IsName x) (hne : p ≠ []) {b : Bool} (h : (txtB p b).getLast? = some 47) : b = true := by
  cases b with
  | true => rfl
  | false =>
    exfalso
    obtain ⟨P, x, rfl⟩ : ∃ P x, p = P ++ [x] := ⟨p.dropLast, p.getLast hne, (List.dropLast_concat_getLast hne).symm⟩
    rw [txtB_file] at h
    have hx := hp x (by simp)
    have hxn : x ≠ [] := fun e => by have := hx.1; rw [e] at this; simp at this
    rw [List.getLast?_append, List.getLast?_eq_some_getLast hxn, Option.some_or] at h
    injection h with h
    exact hx.no47 (h ▸ List.getLast_mem hxn)
/-- A directory that has something is not dropped. -/
theorem drop_full {g : G} (hO : OK g) {a b : List UInt8} (ha : InW g a) (hb : InW g b) (hl : a.getLast? = some 47) (hlen : a.length < b.length) (hpre : b.take a.length = a) : dropErr g a = 7 := by
  obtain ⟨p, c, hpn, hf, rfl⟩ := ha
  obtain ⟨q, c', hqn, hf', rfl⟩ := hb
  have hpN := fnd_names hO p _ c hf
  have hqN := fnd_names hO q _ c' hf'
  have hdir : (g.ent c).isSome = true := txt_slash hpN hpn hl
  obtain ⟨P, x, rfl⟩ : ∃ P x, p = P ++ [x] := ⟨p.dropLast, p.getLast hpn, (List.dropLast_concat_getLast hpn).symm⟩
  obtain ⟨d, m, e, h1, h2, h3, h4⟩ := fnd_front hf
  injection h4 with h4
  subst h4
  have hparts : Pa.parts (txt g (P ++ [x]) e) = (P ++ [x], 0) := parts_txt hpN (hO.short _ e hf) _
  have hsp : spot g (txt g (P ++ [x]) e) = .at_ d x := spot_of hparts h1 (by rw [h2]; rfl)
  have hk : kid g d x = some e := by rw [kid_of h2]; exact h3
  refine ((dropErr_at hsp).2 e hk).2 (fun hleaf => ?_)
  have ea : txt g (P ++ [x]) e = (P ++ [x]).flatMap (fun p => (47 : UInt8) :: p) ++ [47] := by
    unfold txt txtB Pa.shown
    rw [if_neg (by simp), hdir, if_pos rfl]
  have eb : ∃ t, (t = [] ∨ t = [47]) ∧ txt g q c' = q.flatMap (fun p => (47 : UInt8) :: p) ++ t := by
    unfold txt txtB Pa.shown
    rw [if_neg hqn]
    cases (g.ent c').isSome with
    | true => exact ⟨[47], .inr rfl, rfl⟩
    | false => exact ⟨[], .inl rfl, rfl⟩
  obtain ⟨t, ht, eb⟩ := eb
  rw [eb, ea] at hpre
  rw [eb, ea] at hlen
  have hsplit := List.take_append_drop ((P ++ [x]).flatMap (fun p => (47 : UInt8) :: p) ++ [47]).length (q.flatMap (fun p => (47 : UInt8) :: p) ++ t)
  rw [hpre, List.append_assoc] at hsplit
  have hrest : List.drop ((P ++ [x]).flatMap (fun p => (47 : UInt8) :: p) ++ [47]).length (q.flatMap (fun p => (47 : UInt8) :: p) ++ t) ≠ [] := fun e => by
    have := congrArg List.length e
    rw [List.length_drop, List.length_nil] at this
    omega
  obtain ⟨y, r, e2⟩ := flat_prefix (P ++ [x]) q hpN hqN _ t hrest ht hsplit
  rw [e2, fnd_app_ok hf] at hf'
  obtain ⟨e', he', -⟩ := kid_some hf'
  rw [hleaf y] at he'
  cases he'
end Tr
end Go.Proofs.YtnglhfeialomgaaDoor
/- errors.As at the project's own error type, by Go's text of it and the model's entries for internal/reflectlite (after the guide's worked example for such a target); the contracts of Told and of the laws' own Error. -/
namespace Go.Proofs.YtnglhfeialomgaaDoor
open Go.RowKit Go.Extern.Stop Go.Stop Go.Extern

/-- What the variable errors.errorType holds: the type error. -/
def ErrType (w : World) : Prop := w.cell? ⟨1, 0, none⟩ = some (.iface 129 (.agg #[.pointer (some ⟨4, 27, none⟩)]))
theorem ErrType.below {w w' : World} {B : Nat} (h : ErrType w) (hb : Below B w w') (hB : 1 < B) : ErrType w' := (hb.cell (p := ⟨1, 0, none⟩) hB).trans h
theorem ErrType.fr {w w' : World} {S : List Nat} (h : ErrType w) (hf : Fr S w w') (hS : 1 ∉ S) : ErrType w' := hf.cell h hS

theorem as_nil (t : Value) (w : World) :
    Calls Tryd.prog 46 #[.nilIface, t] w fun e w' => e = .returned (.bool false) ∧ w = w' := by
  go_enter Tryd.func46, Tryd.ntmps46
  go_wp2
  go_ret
  exact ⟨rfl, rfl⟩

theorem rl.valueOfP (t : Addr) (w : World) : (ReflectliteValue.unpack (.iface 81 (.pointer (some t)))).run Tryd.prog w
    = .ok (.agg #[.pointer (some ⟨4, 81, none⟩), .pointer (some ⟨w.heap.size, 0, none⟩), .int .u64 150]) (w.alloc (.cells #[.pointer (some t)] 81)) := by kernel_rfl
theorem rl.typeP (a : Addr) (w : World) : (ReflectliteValue.methodAny (ReflectliteValue.valueError "reflectlite.Value.Type" 0) (fun t _ _ _ => ReflectliteType.toType t) #[.agg #[.pointer (some ⟨4, 81, none⟩), .pointer (some a), .int .u64 150]]).run Tryd.prog w
    = .ok (.iface 129 (.agg #[.pointer (some ⟨4, 81, none⟩)])) w := by kernel_rfl
theorem rl.methodKind (h : Value) (w : World) : (Go.method 290 129 (.agg #[h]) "Kind").run Tryd.prog w = .ok (126, h) w := by kernel_rfl
theorem rl.kindP (w : World) : ((ReflectliteType.abiMethod fun t => (fun a : Nat => Value.int IntKind.u8 (a : Int)) <$> Rtype.kind t) #[.pointer (some ⟨4, 81, none⟩)]).run Tryd.prog w = .ok (.int .u8 22) w := by kernel_rfl
theorem rl.kindE (w : World) : ((ReflectliteType.abiMethod fun t => (fun a : Nat => Value.int IntKind.u8 (a : Int)) <$> Rtype.kind t) #[.pointer (some ⟨4, 57, none⟩)]).run Tryd.prog w = .ok (.int .u8 2) w := by kernel_rfl
theorem rlm (z : Sem Value) (f : TypeId → Addr → Nat → Nat → Sem Value) (v : Value) :
    ReflectliteValue.method z f #[v] = (do match ← ReflectliteValue.parts v with | none => z | some (t, a, fl) => f t a fl (fl % 32)) := rfl
theorem rl.partsP (a : Addr) (w : World) : (ReflectliteValue.parts (.agg #[.pointer (some ⟨4, 81, none⟩), .pointer (some a), .int .u64 150])).run Tryd.prog w = .ok (some (81, a, 150)) w := by kernel_rfl
theorem rl.isNilP (a p : Addr) (W : World) (ha : W.cell? a = some (.pointer (some p))) :
    (ReflectliteValue.method (ReflectliteValue.valueError "reflectlite.Value.IsNil" 0) ReflectliteValue.isNil #[.agg #[.pointer (some ⟨4, 81, none⟩), .pointer (some a), .int .u64 150]]).run Tryd.prog W = .ok (.bool false) W := by
  rw [rlm]
  simp only [Sem.run_bind, rl.partsP, Result.andThen]
  simp [ReflectliteValue.isNil, loadVar, isAgg, underlying, Tryd.underlying81, ha, Result.andThen]
theorem rl.methodElem (h : Value) (w : World) : (Go.method 290 129 (.agg #[h]) "Elem").run Tryd.prog w = .ok (137, .agg #[h]) w := by kernel_rfl
theorem rl.methodImplements (h : Value) (w : World) : (Go.method 290 129 (.agg #[h]) "Implements").run Tryd.prog w = .ok (138, .agg #[h]) w := by kernel_rfl
theorem rl.methodAssignableTo (h : Value) (w : World) : (Go.method 290 129 (.agg #[h]) "AssignableTo").run Tryd.prog w = .ok (135, .agg #[h]) w := by kernel_rfl
theorem rl.elemP (w : World) : (ReflectliteType.method ReflectliteType.elem #[.agg #[.pointer (some ⟨4, 81, none⟩)]]).run Tryd.prog w = .ok (.iface 129 (.agg #[.pointer (some ⟨4, 57, none⟩)])) w := by kernel_rfl
theorem rl.implementsE (w : World) : (ReflectliteType.relation "Implements" ReflectliteType.implements_ #[.agg #[.pointer (some ⟨4, 57, none⟩)], .iface 129 (.agg #[.pointer (some ⟨4, 27, none⟩)])]).run Tryd.prog w = .ok (.bool true) w := by kernel_rfl
theorem rl.typeOfE (v : Value) (w : World) : (ReflectliteType.typeOf #[.iface 57 v]).run Tryd.prog w = .ok (.iface 129 (.agg #[.pointer (some ⟨4, 57, none⟩)])) w := by kernel_rfl
theorem rl.assignableE (w : World) : (ReflectliteType.relation "AssignableTo" ReflectliteType.assignableTo #[.agg #[.pointer (some ⟨4, 57, none⟩)], .iface 129 (.agg #[.pointer (some ⟨4, 57, none⟩)])]).run Tryd.prog w = .ok (.bool true) w := by kernel_rfl
theorem rl.valueOfE (n : Int) (w : World) : (ReflectliteValue.unpack (.iface 57 (.int .i64 n))).run Tryd.prog w
    = .ok (.agg #[.pointer (some ⟨4, 57, none⟩), .pointer (some ⟨w.heap.size, 0, none⟩), .int .u64 130]) (w.alloc (.cells #[.int .i64 n] 57)) := by kernel_rfl
theorem rl.elemOfP (w : World) : (Rtype.elem? 81).run Tryd.prog w = .ok (some 57) w := by kernel_rfl
theorem rl.mkE (p : Addr) (w : World) : (ReflectliteValue.mk 57 p ReflectliteValue.flagAddr).run Tryd.prog w = .ok (.agg #[.pointer (some ⟨4, 57, none⟩), .pointer (some p), .int .u64 386]) w := by kernel_rfl
theorem rl.elemVP (a p : Addr) (W : World) (ha : W.cell? a = some (.pointer (some p))) :
    (ReflectliteValue.method (ReflectliteValue.valueError "reflectlite.Value.Elem" 0) ReflectliteValue.elem #[.agg #[.pointer (some ⟨4, 81, none⟩), .pointer (some a), .int .u64 150]]).run Tryd.prog W
      = .ok (.agg #[.pointer (some ⟨4, 57, none⟩), .pointer (some p), .int .u64 386]) W := by
  rw [rlm]
  simp only [Sem.run_bind, rl.partsP, Result.andThen]
  simp [ReflectliteValue.elem, loadVar, isAgg, underlying, Tryd.underlying81, ha, Result.andThen, rl.elemOfP, rl.mkE]
theorem rls (v x : Value) : ReflectliteValue.set #[v, x] = (do
    let (some (dst, a, fl), some (src, b, _)) := (← ReflectliteValue.parts v, ← ReflectliteValue.parts x)
      | unsupported (.noEntry "extern/(internal/reflectlite.Value).Set.zeroValue")
    if fl / ReflectliteValue.flagAddr % 2 == 0 then unsupported (.noEntry "extern/(internal/reflectlite.Value).Set.unaddressable")
    let val ← loadVar src b
    if ← Rtype.directlyAssignable dst src then storeVar dst a val
    else if ← Rtype.implements dst src then
      if (← Rtype.kind src) == 20 then
        match val with
        | .nilIface => unsupported (.noEntry "extern/reflectlite: a nil value of one interface type handed on as a value of another")
        | _ => storeVar dst a val
      else storeVar dst a (.iface src val)
    else panicString ("reflectlite.Set: value of type " ++ (← Rtype.spelt src) ++ " is not assignable to type " ++ (← Rtype.spelt dst))
    pure (.tuple #[])) := rfl
theorem rl.partsEa (a : Addr) (w : World) : (ReflectliteValue.parts (.agg #[.pointer (some ⟨4, 57, none⟩), .pointer (some a), .int .u64 386])).run Tryd.prog w = .ok (some (57, a, 386)) w := by kernel_rfl
theorem rl.partsE (a : Addr) (w : World) : (ReflectliteValue.parts (.agg #[.pointer (some ⟨4, 57, none⟩), .pointer (some a), .int .u64 130])).run Tryd.prog w = .ok (some (57, a, 130)) w := by kernel_rfl
theorem rl.directE (w : World) : (Rtype.directlyAssignable 57 57).run Tryd.prog w = .ok true w := by kernel_rfl
theorem rl.sizeE (w : World) : (sizeOf 57).run Tryd.prog w = .ok 1 w := by kernel_rfl
theorem rl.setE (ta b : Addr) (n : Int) (old : Value) (W : World) (hb : W.cell? b = some (.int .i64 n)) (ht : W.cell? ta = some old) (hf : W.frozen? ta = false) :
    (ReflectliteValue.set #[.agg #[.pointer (some ⟨4, 57, none⟩), .pointer (some ta), .int .u64 386], .agg #[.pointer (some ⟨4, 57, none⟩), .pointer (some b), .int .u64 130]]).run Tryd.prog W
      = .ok (.tuple #[]) (W.setCell ta (.int .i64 n)) := by
  rw [rls]
  simp only [Sem.run_bind, rl.partsEa, rl.partsE, Result.andThen]
  simp [ReflectliteValue.flagAddr, loadVar, isAgg, underlying, Tryd.underlying57, hb, Result.andThen, rl.directE, storeVar, Value.cells, storeCells, Addr.add]
  rw [run_store Tryd.prog W ta _ _ (by rfl)]
  simp [ht, hf]

set_option maxRecDepth 100000 in
set_option maxHeartbeats 4000000 in
theorem as_hit (n : Int) (t : Addr) (old : Value) (w : World) (hg : ErrType w) (ht0 : w.cell? t = some old) (hf0 : w.frozen? t = false) :
    Calls Tryd.prog 46 #[.iface 57 (.int .i64 n), .iface 81 (.pointer (some t))] w fun ev w' => ev = .returned (.bool true) ∧ w' = ((((w.alloc (.cells #[.pointer (some t)] 81)).alloc (.cells #[.pointer (some ⟨4, 81, none⟩), .pointer (some ⟨w.heap.size, 0, none⟩), .int .u64 150] 108)).alloc (.cells #[.pointer (some ⟨4, 81, none⟩), .pointer (some ⟨w.heap.size, 0, none⟩), .int .u64 150] 108)).alloc (.cells #[.int .i64 n] 57)).setCell t (.int .i64 n) := by
  unfold ErrType at hg
  have h6 := @run_callFunc_extern Tryd.prog 68 _ (fun args => ReflectliteValue.unpack (args.getD 0 (.tuple #[]))) Tryd.func68 (by kernel_rfl) (by kernel_rfl) (by kernel_rfl) (by kernel_rfl)
  have h7 := @run_callFunc_extern Tryd.prog 69 _ (ReflectliteValue.methodAny (ReflectliteValue.valueError "reflectlite.Value.Type" 0) (fun t _ _ _ => ReflectliteType.toType t)) Tryd.func69 (by kernel_rfl) (by kernel_rfl) (by kernel_rfl) (by kernel_rfl)
  have h8 := @run_callFunc_extern Tryd.prog 70 _ (ReflectliteValue.method (ReflectliteValue.valueError "reflectlite.Value.IsNil" 0) ReflectliteValue.isNil) Tryd.func70 (by kernel_rfl) (by kernel_rfl) (by kernel_rfl) (by kernel_rfl)
  have h27 := @run_callFunc_extern Tryd.prog 126 _ (ReflectliteType.abiMethod fun t => do pure (.int .u8 (← Rtype.kind t))) Tryd.func126 (by kernel_rfl) (by kernel_rfl) (by kernel_rfl) (by kernel_rfl)
  have h37 := @run_callFunc_extern Tryd.prog 137 _ (ReflectliteType.method ReflectliteType.elem) Tryd.func137 (by kernel_rfl) (by kernel_rfl) (by kernel_rfl) (by kernel_rfl)
  have h38 := @run_callFunc_extern Tryd.prog 138 _ (ReflectliteType.relation "Implements" ReflectliteType.implements_) Tryd.func138 (by kernel_rfl) (by kernel_rfl) (by kernel_rfl) (by kernel_rfl)
  have h10 := @run_callFunc_extern Tryd.prog 84 _ ReflectliteType.typeOf Tryd.func84 (by kernel_rfl) (by kernel_rfl) (by kernel_rfl) (by kernel_rfl)
  have h35 := @run_callFunc_extern Tryd.prog 135 _ (ReflectliteType.relation "AssignableTo" ReflectliteType.assignableTo) Tryd.func135 (by kernel_rfl) (by kernel_rfl) (by kernel_rfl) (by kernel_rfl)
  have h11 := @run_callFunc_extern Tryd.prog 85 _ (ReflectliteValue.method (ReflectliteValue.valueError "reflectlite.Value.Elem" 0) ReflectliteValue.elem) Tryd.func85 (by kernel_rfl) (by kernel_rfl) (by kernel_rfl) (by kernel_rfl)
  have h12 := @run_callFunc_extern Tryd.prog 86 _ ReflectliteValue.set Tryd.func86 (by kernel_rfl) (by kernel_rfl) (by kernel_rfl) (by kernel_rfl)
  have tO := rl.typeOfE
  have mA := rl.methodAssignableTo
  have a25 := rl.assignableE
  have v25 := rl.valueOfE
  have f6 := rl.valueOfP
  have f7 := rl.typeP
  have mK := rl.methodKind
  have mE := rl.methodElem
  have mI := rl.methodImplements
  have k27 := rl.kindP
  have k25 := rl.kindE
  have e27 := rl.elemP
  have i25 := rl.implementsE
  have n8 := rl.isNilP ⟨w.heap.size, 0, none⟩ t ((w.alloc (.cells #[.pointer (some t)] 81)).alloc (.cells #[.pointer (some ⟨4, 81, none⟩), .pointer (some ⟨w.heap.size, 0, none⟩), .int .u64 150] 108)) (by simp)
  have hlt : 1 < w.heap.size := block_lt_of_cell hg
  have hg2 : ((w.alloc (.cells #[.pointer (some t)] 81)).alloc (.cells #[.pointer (some ⟨4, 81, none⟩), .pointer (some ⟨w.heap.size, 0, none⟩), .int .u64 150] 108)).cell? ⟨1, 0, none⟩ = some (.iface 129 (.agg #[.pointer (some ⟨4, 27, none⟩)])) := by
    rw [World.cell?_alloc_lt _ _ ⟨1, 0, none⟩ (by simp <;> omega), World.cell?_alloc_lt _ _ ⟨1, 0, none⟩ hlt]; exact hg
  have htl : t.block < w.heap.size := by
    rcases Nat.lt_or_ge t.block w.heap.size with h | h
    · exact h
    · simp [World.cell?, Array.getElem?_eq_none h] at ht0
  have el := rl.elemVP ⟨w.heap.size, 0, none⟩ t (((w.alloc (.cells #[.pointer (some t)] 81)).alloc (.cells #[.pointer (some ⟨4, 81, none⟩), .pointer (some ⟨w.heap.size, 0, none⟩), .int .u64 150] 108)).alloc (.cells #[.pointer (some ⟨4, 81, none⟩), .pointer (some ⟨w.heap.size, 0, none⟩), .int .u64 150] 108)) (by rw [World.cell?_alloc_lt _ _ ⟨w.heap.size, 0, none⟩ (by simp; omega)]; simp)
  have st := rl.setE t ⟨w.heap.size + 1 + 1 + 1, 0, none⟩ n old ((((w.alloc (.cells #[.pointer (some t)] 81)).alloc (.cells #[.pointer (some ⟨4, 81, none⟩), .pointer (some ⟨w.heap.size, 0, none⟩), .int .u64 150] 108)).alloc (.cells #[.pointer (some ⟨4, 81, none⟩), .pointer (some ⟨w.heap.size, 0, none⟩), .int .u64 150] 108)).alloc (.cells #[.int .i64 n] 57))
    (by rw [World.cell?_alloc_at _ _ _ _ (by simp)]; rfl)
    (by rw [World.cell?_alloc_lt _ _ t (by simp; omega), World.cell?_alloc_lt _ _ t (by simp; omega), World.cell?_alloc_lt _ _ t (by simp; omega), World.cell?_alloc_lt _ _ t htl]; exact ht0)
    (by rw [World.frozen?_alloc_old _ _ t (by simp; omega), World.frozen?_alloc_old _ _ t (by simp; omega), World.frozen?_alloc_old _ _ t (by simp; omega), World.frozen?_alloc_old _ _ t (Nat.ne_of_lt htl)]; exact hf0)
  go_enter Tryd.func46, Tryd.ntmps46
  go_wp2
  refine wp_loop_rounds 1 ?_
  rw [rounds_succ]
  go_wp2
  go_ret
  exact ⟨rfl, rfl⟩
end Go.Proofs.YtnglhfeialomgaaDoor
