/- What a closed fact makes, in plain Lean. -/

import Derived.Test.YtnglhfeialomgaaDoorTq20
namespace Go.Proofs.YtnglhfeialomgaaDoor
namespace Tr

section
variable {g : G} {dom : Nat → Prop} {c d : Nat} {o : Option Nat} {x : Nme} {P : List Nme}
/-- A node that was made is added: one way more. -/
theorem made_inW (h : OK g) (hr : dom g.root) (hcl : ∀ d x e, dom d → kid g d x = some e → dom e) (hc : ¬ dom c) (hp : fnd g g.root P = .ok d) (hd : (g.ent d).isSome = true) (hk : kid g d x = none) (s : List UInt8) :
    InW (addG (newN g c o) d x c) s ↔ InW g s ∨ s = txtB (P ++ [x]) o.isSome := by
  have hdd : dom d := fnd_dom hcl P g.root d hr hp
  have hne : c ≠ d := fun e => hc (e ▸ hdd)
  have hp' : fnd (newN g c o) (newN g c o).root P = .ok d := (newN_same hr hcl hc P).trans hp
  have h1 := add_inW (g := newN g c o) (c := c) (P := P) (x := x) (d := d) (h.newN hr hcl hc) hp' (by rw [newN_ne hne.symm]; exact hd) (by rw [kid_newN hne.symm]; exact hk) hne newN_leaf s
  have h2 : InW (addG (newN g c o) d x c) s ↔ InW (setE (newN g c o) d x (some c)) s := inW_congr (g := setE (newN g c o) d x (some c)) (g' := addG (newN g c o) d x c) rfl (fun b => rfl) s
  have h3 : InW (newN g c o) s ↔ InW g s := by
    have hroot : (newN g c o).root = g.root := rfl
    constructor
    · rintro ⟨p, b, hpn, hf, rfl⟩
      rw [newN_same hr hcl hc] at hf
      have hb : dom b := fnd_dom hcl p g.root b hr hf
      exact ⟨p, b, hpn, hf, by unfold txt; rw [newN_ne (fun e => hc (by rw [← e]; exact hb))]⟩
    · rintro ⟨p, b, hpn, hf, rfl⟩
      have hb : dom b := fnd_dom hcl p g.root b hr hf
      exact ⟨p, b, hpn, (newN_same hr hcl hc p).trans hf, by unfold txt; rw [newN_ne (fun e => hc (by rw [← e]; exact hb))]⟩
  have h4 : ((newN g c o).ent c).isSome = o.isSome := by rw [newN_at]; cases o <;> rfl
  rw [h2, h1, h3, h4]
end
theorem addErr_zero {g : G} {s : List UInt8} {d : Nat} {x : Nme} (hs : spot g s = .at_ d x) (hk : kid g d x = none) (hm : g.many ≠ 24) : addErr g s = 0 := by
  unfold addErr
  rw [hs]
  show (if (kid g d x).isSome = true then (6 : Int) else if g.many = 24 then 4 else 0) = 0
  rw [hk, if_neg (by simp), if_neg hm]
theorem added_fnd {g : G} {d c : Nat} {P : List Nme} {x : Nme} (h : OK g) (hp : fnd g g.root P = .ok d) (hd : (g.ent d).isSome = true) (r : List Nme) : fnd (addG g d x c) g.root (P ++ x :: r) = fnd (addG g d x c) c r := by
  obtain ⟨m, hm⟩ := Option.isSome_iff_exists.1 hd
  have hf := fnd_congr (g := setE g d x (some c)) (g' := addG g d x c) (fun b => rfl)
  rw [hf, hf]
  exact fnd_set_at (h.way hp hd) hm x (some c) r
theorem added_far {g : G} {d c : Nat} {P : List Nme} {x : Nme} (h : OK g) (hp : fnd g g.root P = .ok d) (hd : (g.ent d).isSome = true) {p : List Nme} (hh : ¬ ∃ r, p = P ++ x :: r) : fnd (addG g d x c) g.root p = fnd g g.root p := by
  have hf := fnd_congr (g := setE g d x (some c)) (g' := addG g d x c) (fun b => rfl)
  rw [hf]
  exact fnd_set_far (h.way hp hd) x (some c) hh
theorem added_kid {g : G} {d c : Nat} {x : Nme} (hd : (g.ent d).isSome = true) (b : Nat) (y : Nme) : kid (addG g d x c) b y = if b = d ∧ y = x then some c else kid g b y := by
  show kid (setE g d x (some c)) b y = _
  by_cases e : b = d
  · subst e
    rw [kid_set hd]
    by_cases e2 : y = x
    · rw [if_pos e2, if_pos ⟨rfl, e2⟩]
    · rw [if_neg e2, if_neg (fun h => e2 h.2)]
  · rw [kid_set_ne e, if_neg (fun h => e h.1)]
theorem addG_some {g : G} {d c b : Nat} {x : Nme} : ((addG g d x c).ent b).isSome = (g.ent b).isSome := by rw [addG_ent, setE_some]
theorem new_inW (n m : Nat) (s : List UInt8) : ¬ InW (G.new n m) s := by
  rintro ⟨p, c, hp, hf, -⟩
  have hr : (G.new n m).ent n = some (fun _ => none) := if_pos rfl
  have hleaf : Leaf (G.new n m) n := fun x => by rw [kid_of hr]
  exact hp (fnd_leaf hleaf hf).1
theorem parts_a : Pa.parts [47, 97] = ([] ++ [[97]], 0) := by decide +kernel
theorem parts_ax : Pa.parts [47, 97, 47, 120] = ([[97]] ++ [[120]], 0) := by decide +kernel
theorem parts_y : Pa.parts [47, 121] = ([] ++ [[121]], 0) := by decide +kernel
theorem new_ent (n m : Nat) : (G.new n m).ent n = some (fun _ => none) := if_pos rfl
theorem fact_1 (n m : Nat) : spot (G.new n m) [47, 97] = .at_ n [97] ∧ addErr (G.new n m) [47, 97] = 0 := by
  have h1 : spot (G.new n m) [47, 97] = .at_ n [97] := spot_of parts_a rfl (by rw [new_ent]; rfl)
  exact ⟨h1, addErr_zero h1 (by rw [kid_of (new_ent n m)]) (by show (0 : Int) ≠ 24; decide)⟩
/-- The tree with /a. -/
def fg1 (n m c : Nat) (o : Option Nat) : G := addG (newN (G.new n m) c o) n [97] c
theorem fact_2 {n m c : Nat} {o : Option Nat} (hc : ¬ c = n) (ho : o.isSome = true) (hO : OK (fg1 n m c o)) : spot (fg1 n m c o) [47, 97, 47, 120] = .at_ c [120] ∧ addErr (fg1 n m c o) [47, 97, 47, 120] = 0 ∧ fnd (fg1 n m c o) (fg1 n m c o).root [[97]] = .ok c ∧ ((fg1 n m c o).ent c).isSome = true ∧ kid (fg1 n m c o) c [120] = none ∧ kid (fg1 n m c o) n [121] = none := by
  have hn : ((newN (G.new n m) c o).ent n).isSome = true := by rw [newN_ne (fun e => hc e.symm), new_ent]; rfl
  have hO1 : OK (newN (G.new n m) c o) := (new_ok n m).newN (dom := (· = n)) rfl (fun d x e hd hk => by
    have hd : d = n := hd
    subst hd
    rw [kid_of (new_ent d m)] at hk
    cases hk) hc
  have h1 : fnd (fg1 n m c o) (fg1 n m c o).root [[97]] = .ok c := added_fnd (P := []) (d := n) hO1 rfl hn []
  have h2 : ((fg1 n m c o).ent c).isSome = true := by
    unfold fg1
    rw [addG_some, newN_at]
    cases o with
    | none => cases ho
    | some k => rfl
  have h3 : ∀ y, kid (fg1 n m c o) c y = none := fun y => by
    unfold fg1
    rw [added_kid hn, if_neg (fun h => hc h.1)]
    exact newN_leaf y
  have h4 : kid (fg1 n m c o) n [121] = none := by
    unfold fg1
    rw [added_kid hn, if_neg (fun h => absurd h.2 (by decide)), kid_newN (fun e => hc e.symm), kid_of (new_ent n m)]
  have h5 : spot (fg1 n m c o) [47, 97, 47, 120] = .at_ c [120] := spot_of parts_ax h1 h2
  exact ⟨h5, addErr_zero h5 (h3 _) (by show (0 : Int) + 1 ≠ 24; decide), h1, h2, h3 _, h4⟩
/-- The tree with /a and /a/x. -/
def fg2 (n m c : Nat) (o : Option Nat) (c2 : Nat) (o2 : Option Nat) : G := addG (newN (fg1 n m c o) c2 o2) c [120] c2
theorem fact_3 {n m c : Nat} {o : Option Nat} {dom : Nat → Prop} {c2 : Nat} {o2 : Option Nat} (hc : ¬ c = n) (ho : o.isSome = true) (hO : OK (fg1 n m c o)) (hr : dom n) (hcl : ∀ d x e, dom d → kid (fg1 n m c o) d x = some e → dom e) (hc2 : ¬ dom c2) (ho2 : o2.isSome = false) (hO2 : OK (fg2 n m c o c2 o2)) :
    atV (fg2 n m c o c2 o2) [47, 97, 47, 120] = .ok c2 ∧ (fg2 n m c o c2 o2).ent c2 = none ∧ spot (fg2 n m c o c2 o2) [47, 121] = .at_ n [121] ∧ linkErr (fg2 n m c o c2 o2) [47, 97, 47, 120] [47, 121] = 0 ∧ (fg2 n m c o c2 o2).nms c2 = 1 := by
  obtain ⟨-, -, h1, h2, h3, h4⟩ := fact_2 hc ho hO
  have hdc : dom c := fnd_dom hcl [[97]] n c hr h1
  have hne : c ≠ c2 := fun e => hc2 (by rw [← e]; exact hdc)
  have hnn : n ≠ c2 := fun e => hc2 (by rw [← e]; exact hr)
  have h1' : fnd (newN (fg1 n m c o) c2 o2) (newN (fg1 n m c o) c2 o2).root [[97]] = .ok c := (newN_same (dom := dom) hr hcl hc2 _).trans h1
  have h2' : ((newN (fg1 n m c o) c2 o2).ent c).isSome = true := by rw [newN_ne hne]; exact h2
  have hO1 : OK (newN (fg1 n m c o) c2 o2) := hO.newN (dom := dom) hr hcl hc2
  have e1 : fnd (fg2 n m c o c2 o2) (fg2 n m c o c2 o2).root ([[97]] ++ [[120]]) = .ok c2 := added_fnd (P := [[97]]) (x := [120]) hO1 h1' h2' []
  have e2 : (fg2 n m c o c2 o2).ent c2 = none := by
    unfold fg2
    rw [addG_ent, setE_ne hne.symm, newN_at]
    cases o2 with
    | none => rfl
    | some k => cases ho2
  have e3 : kid (fg2 n m c o c2 o2) n [121] = none := by
    unfold fg2
    rw [added_kid h2', if_neg (fun h => hc h.1.symm), kid_newN hnn]
    exact h4
  have hroot : (fg2 n m c o c2 o2).root = n := rfl
  have e4 : spot (fg2 n m c o c2 o2) [47, 121] = .at_ n [121] := spot_of parts_y (by rw [hroot]; rfl) (by rw [← hroot]; exact hO2.root)
  have e5 : atV (fg2 n m c o c2 o2) [47, 97, 47, 120] = .ok c2 := by
    unfold atV
    rw [parts_ax, if_pos rfl]
    exact e1
  refine ⟨e5, e2, e4, ?_, ?_⟩
  · unfold linkErr
    rw [e5]
    show (if ((fg2 n m c o c2 o2).ent c2).isSome = true then (3 : Int) else addErr (fg2 n m c o c2 o2) [47, 121]) = 0
    rw [e2, if_neg (by simp)]
    exact addErr_zero e4 e3 (by show (0 : Int) + 1 + 1 ≠ 24; decide)
  · show (if c2 = c2 then (newN (fg1 n m c o) c2 o2).nms c2 + 1 else _) = 1
    rw [if_pos rfl]
    show (if c2 = c2 then (0 : Int) else _) + 1 = 1
    rw [if_pos rfl]; rfl
/-- .. and /y. -/
theorem fact_4 {n m c : Nat} {o : Option Nat} {dom : Nat → Prop} {c2 : Nat} {o2 : Option Nat} (hc : ¬ c = n) (ho : o.isSome = true) (hO : OK (fg1 n m c o)) (hr : dom n) (hcl : ∀ d x e, dom d → kid (fg1 n m c o) d x = some e → dom e) (hc2 : ¬ dom c2) (ho2 : o2.isSome = false) (hO2 : OK (fg2 n m c o c2 o2)) :
    namesV (addG (fg2 n m c o c2 o2) n [121] c2) [47, 121] = .tuple #[.int .i64 2, .nilIface] ∧ ∀ l, WalkIs (addG (fg2 n m c o c2 o2) n [121] c2) l → l = [[47, 97, 47], [47, 97, 47, 120], [47, 121]] := by
  obtain ⟨e5, e2, e4, -, e6⟩ := fact_3 hc ho hO hr hcl hc2 ho2 hO2
  obtain ⟨-, -, h1, h2, h3, h4⟩ := fact_2 hc ho hO
  have hroot : (fg2 n m c o c2 o2).root = n := rfl
  have hdc : dom c := fnd_dom hcl [[97]] n c hr h1
  have hne : c ≠ c2 := fun e => hc2 (by rw [← e]; exact hdc)
  have hnn : n ≠ c2 := fun e => hc2 (by rw [← e]; exact hr)
  have hds : ((fg2 n m c o c2 o2).ent n).isSome = true := by rw [← hroot]; exact hO2.root
  have hk : kid (fg2 n m c o c2 o2) n [121] = none := by
    unfold fg2
    rw [added_kid (by rw [newN_ne hne]; exact h2), if_neg (fun h => hc h.1.symm), kid_newN hnn]
    exact h4
  have hent : (addG (fg2 n m c o c2 o2) n [121] c2).ent c2 = none := by rw [addG_ent, setE_ne hnn.symm]; exact e2
  have hat : atV (addG (fg2 n m c o c2 o2) n [121] c2) [47, 121] = .ok c2 := by
    unfold atV
    rw [parts_y, if_pos rfl]
    exact added_fnd (P := []) (x := [121]) hO2 rfl hds []
  refine ⟨?_, fun l hl => ?_⟩
  · unfold namesV
    rw [hat]
    show Value.tuple #[.int .i64 (if ((addG (fg2 n m c o c2 o2) n [121] c2).ent c2).isSome = true then 0 else (addG (fg2 n m c o c2 o2) n [121] c2).nms c2), .nilIface] = _
    rw [hent, if_neg (by simp)]
    have : (addG (fg2 n m c o c2 o2) n [121] c2).nms c2 = 2 := by
      show (if c2 = c2 then (fg2 n m c o c2 o2).nms c2 + 1 else _) = 2
      rw [if_pos rfl, e6]; rfl
    rw [this]
  · refine lt_eq hl.1 (by decide +kernel) (fun s => ?_)
    have i1 : InW (fg1 n m c o) s ↔ InW (G.new n m) s ∨ s = txtB ([] ++ [[97]]) o.isSome := made_inW (dom := (· = n)) (new_ok n m) rfl (fun d x e hd hk => by
      have hd : d = n := hd
      subst hd
      rw [kid_of (new_ent d m)] at hk
      cases hk) hc rfl (by rw [new_ent]; rfl) (by rw [kid_of (new_ent n m)]) s
    have i2 : InW (fg2 n m c o c2 o2) s ↔ InW (fg1 n m c o) s ∨ s = txtB ([[97]] ++ [[120]]) o2.isSome := made_inW (dom := dom) hO hr hcl hc2 h1 h2 h3 s
    have i3 : InW (addG (fg2 n m c o c2 o2) n [121] c2) s ↔ InW (setE (fg2 n m c o c2 o2) n [121] (some c2)) s := inW_congr (g := setE (fg2 n m c o c2 o2) n [121] (some c2)) (g' := addG (fg2 n m c o c2 o2) n [121] c2) rfl (fun b => rfl) s
    have i4 := add_inW (d := n) (P := []) hO2 rfl hds hk hnn.symm (fun y => by unfold kid; rw [e2]; rfl) s
    rw [hl.2, i3, i4, i2, i1, ho, ho2, e2]
    have t1 : txtB ([] ++ [[97]]) true = [47, 97, 47] := by decide +kernel
    have t2 : txtB ([[97]] ++ [[120]]) false = [47, 97, 47, 120] := by decide +kernel
    have t3 : txtB ([] ++ [[121]]) (none : Option (Nme → Option Nat)).isSome = [47, 121] := by decide +kernel
    rw [t1, t2, t3]
    simp only [new_inW, false_or, List.mem_cons, List.not_mem_nil, or_false]
    exact or_assoc
end Tr
end Go.Proofs.YtnglhfeialomgaaDoor
