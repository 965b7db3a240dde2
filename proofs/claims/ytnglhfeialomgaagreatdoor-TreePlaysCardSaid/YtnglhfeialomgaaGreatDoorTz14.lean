/- What a closed fact makes, in plain Lean. -/

import Derived.Test.YtnglhfeialomgaaGreatDoorTz10
import Derived.Test.YtnglhfeialomgaaGreatDoorTz13
namespace Go.Proofs.YtnglhfeialomgaaGreatDoor
namespace Tr

section
variable {g : G} {dom : Nat → Prop} {c d : Nat} {o : Option Nat} {x : Nme} {P : List Nme}
/-- A node that was made is added: one way more. -/
theorem made_inW (h : OK g) (hr : dom g.root) (hcl : ∀ d x e, dom d → kid g d x = some e → dom e) (hc : ¬ dom c) (hp : fnd g g.root P = .ok d) (hd : (g.ent d).isSome = true) (hk : kid g d x = none) (s : List UInt8) :
    InW (addG (newN g c o) d x c) s ↔ InW g s ∨ s = txtB (P ++ [x]) o.isSome := by
  have hdd : dom d := fnd_dom hcl P g.root d hr hp
  have hne : c ≠ d := fun e => hc (e ▸ hdd)
  have hp' : fnd (newN g c o) (newN g c o).root P = .ok d := (newN_same hr hcl hc P).trans hp
  have h1 := add_inW (g := newN g c o) (c := c) (P := P) (x := x) (d := d) (h.newN hr hcl hc) hp' (by rw [newN_ne hne.symm]; exact hd) (by rw [kid_newN hne.symm]; exact hk) hne newN_leaf s
  have h2 : InW (addG (newN g c o) d x c) s ↔ InW (setE (newN g c o) d x (some c)) s := inW_congr (g := setE (newN g c o) d x (some c)) (g' := addG (newN g c o) d x c) rfl (fun b => rfl) s
  have h3 : InW (newN g c o) s ↔ InW g s := by
    have hroot : (newN g c o).root = g.root := rfl
    constructor
    · rintro ⟨p, b, hpn, hf, rfl⟩
      rw [newN_same hr hcl hc] at hf
      have hb : dom b := fnd_dom hcl p g.root b hr hf
      exact ⟨p, b, hpn, hf, by unfold txt; rw [newN_ne (fun e => hc (by rw [← e]; exact hb))]⟩
    · rintro ⟨p, b, hpn, hf, rfl⟩
      have hb : dom b := fnd_dom hcl p g.root b hr hf
      exact ⟨p, b, hpn, (newN_same hr hcl hc p).trans hf, by unfold txt; rw [newN_ne (fun e => hc (by rw [← e]; exact hb))]⟩
  have h4 : ((newN g c o).ent c).isSome = o.isSome := by rw [newN_at]; cases o <;> rfl
  rw [h2, h1, h3, h4]
end
theorem addErr_zero {g : G} {s : List UInt8} {d : Nat} {x : Nme} (hs : spot g s = .at_ d x) (hk : kid g d x = none) (hm : g.many ≠ 24) : addErr g s = 0 := by
  unfold addErr
  rw [hs]
  show (if (kid g d x).isSome = true then (6 : Int) else if g.many = 24 then 4 else 0) = 0
  rw [hk, if_neg (by simp), if_neg hm]
theorem added_fnd {g : G} {d c : Nat} {P : List Nme} {x : Nme} (h : OK g) (hp : fnd g g.root P = .ok d) (hd : (g.ent d).isSome = true) (r : List Nme) : fnd (addG g d x c) g.root (P ++ x :: r) = fnd (addG g d x c) c r := by
  obtain ⟨m, hm⟩ := Option.isSome_iff_exists.1 hd
  have hf := fnd_congr (g := setE g d x (some c)) (g' := addG g d x c) (fun b => rfl)
  rw [hf, hf]
  exact fnd_set_at (h.way hp hd) hm x (some c) r
theorem added_far {g : G} {d c : Nat} {P : List Nme} {x : Nme} (h : OK g) (hp : fnd g g.root P = .ok d) (hd : (g.ent d).isSome = true) {p : List Nme} (hh : ¬ ∃ r, p = P ++ x :: r) : fnd (addG g d x c) g.root p = fnd g g.root p := by
  have hf := fnd_congr (g := setE g d x (some c)) (g' := addG g d x c) (fun b => rfl)
  rw [hf]
  exact fnd_set_far (h.way hp hd) x (some c) hh
theorem added_kid {g : G} {d c : Nat} {x : Nme} (hd : (g.ent d).isSome = true) (b : Nat) (y : Nme) : kid (addG g d x c) b y = if b = d ∧ y = x then some c else kid g b y := by
  show kid (setE g d x (some c)) b y = _
  by_cases e : b = d
  · subst e
    rw [kid_set hd]
    by_cases e2 : y = x
    · rw [if_pos e2, if_pos ⟨rfl, e2⟩]
    · rw [if_neg e2, if_neg (fun h => e2 h.2)]
  · rw [kid_set_ne e, if_neg (fun h => e h.1)]
theorem addG_some {g : G} {d c b : Nat} {x : Nme} : ((addG g d x c).ent b).isSome = (g.ent b).isSome := by rw [addG_ent, setE_some]
theorem new_inW (n m : Nat) (s : List UInt8) : ¬ InW (G.new n m) s := by
  rintro ⟨p, c, hp, hf, -⟩
  have hr : (G.new n m).ent n = some (fun _ => none) := if_pos rfl
  have hleaf : Leaf (G.new n m) n := fun x => by rw [kid_of hr]
  exact hp (fnd_leaf hleaf hf).1
theorem parts_a : Pa.parts [47, 97] = ([] ++ [[97]], 0) := by decide +kernel
theorem parts_ax : Pa.parts [47, 97, 47, 120] = ([[97]] ++ [[120]], 0) := by decide +kernel
theorem parts_y : Pa.parts [47, 121] = ([] ++ [[121]], 0) := by decide +kernel
theorem new_ent (n m : Nat) : (G.new n m).ent n = some (fun _ => none) := if_pos rfl
theorem fact_1 (n m : Nat) : spot (G.new n m) [47, 97] = .at_ n [97] ∧ addErr (G.new n m) [47, 97] = 0 := by
  have h1 : spot (G.new n m) [47, 97] = .at_ n [97] := spot_of parts_a rfl (by rw [new_ent]; rfl)
  exact ⟨h1, addErr_zero h1 (by rw [kid_of (new_ent n m)]) (by show (0 : Int) ≠ 24; decide)⟩
/-- The tree with /a. -/
def fg1 (n m c : Nat) (o : Option Nat) : G := addG (newN (G.new n m) c o) n [97] c
theorem fact_2 {n m c : Nat} {o : Option Nat} (hc : ¬ c = n) (ho : o.isSome = true) (hO : OK (fg1 n m c o)) : spot (fg1 n m c o) [47, 97, 47, 120] = .at_ c [120] ∧ addErr (fg1 n m c o) [47, 97, 47, 120] = 0 ∧ fnd (fg1 n m c o) (fg1 n m c o).root [[97]] = .ok c ∧ ((fg1 n m c o).ent c).isSome = true ∧ kid (fg1 n m c o) c [120] = none ∧ kid (fg1 n m c o) n [121] = none := by
  have hn : ((newN (G.new n m) c o).ent n).isSome = true := by rw [newN_ne (fun e => hc e.symm), new_ent]; rfl
  have hO1 : OK (newN (G.new n m) c o) := (new_ok n m).newN (dom := (· = n)) rfl (fun d x e hd hk => by
    have hd : d = n := hd
    subst hd
    rw [kid_of (new_ent d m)] at hk
    cases hk) hc
  have h1 : fnd (fg1 n m c o) (fg1 n m c o).root [[97]] = .ok c := added_fnd (P := []) (d := n) hO1 rfl hn []
  have h2 : ((fg1 n m c o).ent c).isSome = true := by
    unfold fg1
    rw [addG_some, newN_at]
    cases o with
    | none => cases ho
    | some k => rfl
  have h3 : ∀ y, kid (fg1 n m c o) c y = none := fun y => by
    unfold fg1
    rw [added_kid hn, if_neg (fun h => hc h.1)]
    exact newN_leaf y
  have h4 : kid (fg1 n m c o) n [121] = none := by
    unfold fg1
    rw [added_kid hn, if_neg (fun h => absurd h.2 (by decide)), kid_newN (fun e => hc e.symm), kid_of (new_ent n m)]
  have h5 : spot (fg1 n m c o) [47, 97, 47, 120] = .at_ c [120] := spot_of parts_ax h1 h2
  exact ⟨h5, addErr_zero h5 (h3 _) (by show (0 : Int) + 1 ≠ 24; decide), h1, h2, h3 _, h4⟩
/-- The tree with /a and /a/x. -/
def fg2 (n m c : Nat) (o : Option Nat) (c2 : Nat) (o2 : Option Nat) : G := addG (newN (fg1 n m c o) c2 o2) c [120] c2
theorem fact_3 {n m c : Nat} {o : Option Nat} {dom : Nat → Prop} {c2 : Nat} {o2 : Option Nat} (hc : ¬ c = n) (ho : o.isSome = true) (hO : OK (fg1 n m c o)) (hr : dom n) (hcl : ∀ d x e, dom d → kid (fg1 n m c o) d x = some e → dom e) (hc2 : ¬ dom c2) (ho2 : o2.isSome = false) (hO2 : OK (fg2 n m c o c2 o2)) :
    atV (fg2 n m c o c2 o2) [47, 97, 47, 120] = .ok c2 ∧ (fg2 n m c o c2 o2).ent c2 = none ∧ spot (fg2 n m c o c2 o2) [47, 121] = .at_ n [121] ∧ linkErr (fg2 n m c o c2 o2) [47, 97, 47, 120] [47, 121] = 0 ∧ (fg2 n m c o c2 o2).nms c2 = 1 := by
  obtain ⟨-, -, h1, h2, h3, h4⟩ := fact_2 hc ho hO
  have hdc : dom c := fnd_dom hcl [[97]] n c hr h1
  have hne : c ≠ c2 := fun e => hc2 (by rw [← e]; exact hdc)
  have hnn : n ≠ c2 := fun e => hc2 (by rw [← e]; exact hr)
  have h1' : fnd (newN (fg1 n m c o) c2 o2) (newN (fg1 n m c o) c2 o2).root [[97]] = .ok c := (newN_same (dom := dom) hr hcl hc2 _).trans h1
  have h2' : ((newN (fg1 n m c o) c2 o2).ent c).isSome = true := by rw [newN_ne hne]; exact h2
  have hO1 : OK (newN (fg1 n m c o) c2 o2) := hO.newN (dom := dom) hr hcl hc2
  have e1 : fnd (fg2 n m c o c2 o2) (fg2 n m c o c2 o2).root ([[97]] ++ [[120]]) = .ok c2 := added_fnd (P := [[97]]) (x := [120]) hO1 h1' h2' []
  have e2 : (fg2 n m c o c2 o2).ent c2 = none := by
    unfold fg2
    rw [addG_ent, setE_ne hne.symm, newN_at]
    cases o2 with
    | none => rfl
    | some k => cases ho2
  have e3 : kid (fg2 n m c o c2 o2) n [121] = none := by
    unfold fg2
    rw [added_kid h2', if_neg (fun h => hc h.1.symm), kid_newN hnn]
    exact h4
  have hroot : (fg2 n m c o c2 o2).root = n := rfl
  have e4 : spot (fg2 n m c o c2 o2) [47, 121] = .at_ n [121] := spot_of parts_y (by rw [hroot]; rfl) (by rw [← hroot]; exact hO2.root)
  have e5 : atV (fg2 n m c o c2 o2) [47, 97, 47, 120] = .ok c2 := by
    unfold atV
    rw [parts_ax, if_pos rfl]
    exact e1
  refine ⟨e5, e2, e4, ?_, ?_⟩
  · unfold linkErr
    rw [e5]
    show (if ((fg2 n m c o c2 o2).ent c2).isSome = true then (3 : Int) else addErr (fg2 n m c o c2 o2) [47, 121]) = 0
    rw [e2, if_neg (by simp)]
    exact addErr_zero e4 e3 (by show (0 : Int) + 1 + 1 ≠ 24; decide)
  · show (if c2 = c2 then (newN (fg1 n m c o) c2 o2).nms c2 + 1 else _) = 1
    rw [if_pos rfl]
    show (if c2 = c2 then (0 : Int) else _) + 1 = 1
    rw [if_pos rfl]; rfl
/-- .. and /y. -/
theorem fact_4 {n m c : Nat} {o : Option Nat} {dom : Nat → Prop} {c2 : Nat} {o2 : Option Nat} (hc : ¬ c = n) (ho : o.isSome = true) (hO : OK (fg1 n m c o)) (hr : dom n) (hcl : ∀ d x e, dom d → kid (fg1 n m c o) d x = some e → dom e) (hc2 : ¬ dom c2) (ho2 : o2.isSome = false) (hO2 : OK (fg2 n m c o c2 o2)) :
    namesV (addG (fg2 n m c o c2 o2) n [121] c2) [47, 121] = .tuple #[.int .i64 2, .nilIface] ∧ ∀ l, WalkIs (addG (fg2 n m c o c2 o2) n [121] c2) l → l = [[47, 97, 47], [47, 97, 47, 120], [47, 121]] := by
  obtain ⟨e5, e2, e4, -, e6⟩ := fact_3 hc ho hO hr hcl hc2 ho2 hO2
  obtain ⟨-, -, h1, h2, h3, h4⟩ := fact_2 hc ho hO
  have hroot : (fg2 n m c o c2 o2).root = n := rfl
  have hdc : dom c := fnd_dom hcl [[97]] n c hr h1
  have hne : c ≠ c2 := fun e => hc2 (by rw [← e]; exact hdc)
  have hnn : n ≠ c2 := fun e => hc2 (by rw [← e]; exact hr)
  have hds : ((fg2 n m c o c2 o2).ent n).isSome = true := by rw [← hroot]; exact hO2.root
  have hk : kid (fg2 n m c o c2 o2) n [121] = none := by
    unfold fg2
    rw [added_kid (by rw [newN_ne hne]; exact h2), if_neg (fun h => hc h.1.symm), kid_newN hnn]
    exact h4
  have hent : (addG (fg2 n m c o c2 o2) n [121] c2).ent c2 = none := by rw [addG_ent, setE_ne hnn.symm]; exact e2
  have hat : atV (addG (fg2 n m c o c2 o2) n [121] c2) [47, 121] = .ok c2 := by
    unfold atV
    rw [parts_y, if_pos rfl]
    exact added_fnd (P := []) (x := [121]) hO2 rfl hds []
  refine ⟨?_, fun l hl => ?_⟩
  · unfold namesV
    rw [hat]
    show Value.tuple #[.int .i64 (if ((addG (fg2 n m c o c2 o2) n [121] c2).ent c2).isSome = true then 0 else (addG (fg2 n m c o c2 o2) n [121] c2).nms c2), .nilIface] = _
    rw [hent, if_neg (by simp)]
    have : (addG (fg2 n m c o c2 o2) n [121] c2).nms c2 = 2 := by
      show (if c2 = c2 then (fg2 n m c o c2 o2).nms c2 + 1 else _) = 2
      rw [if_pos rfl, e6]; rfl
    rw [this]
  · refine lt_eq hl.1 (by decide +kernel) (fun s => ?_)
    have i1 : InW (fg1 n m c o) s ↔ InW (G.new n m) s ∨ s = txtB ([] ++ [[97]]) o.isSome := made_inW (dom := (· = n)) (new_ok n m) rfl (fun d x e hd hk => by
      have hd : d = n := hd
      subst hd
      rw [kid_of (new_ent d m)] at hk
      cases hk) hc rfl (by rw [new_ent]; rfl) (by rw [kid_of (new_ent n m)]) s
    have i2 : InW (fg2 n m c o c2 o2) s ↔ InW (fg1 n m c o) s ∨ s = txtB ([[97]] ++ [[120]]) o2.isSome := made_inW (dom := dom) hO hr hcl hc2 h1 h2 h3 s
    have i3 : InW (addG (fg2 n m c o c2 o2) n [121] c2) s ↔ InW (setE (fg2 n m c o c2 o2) n [121] (some c2)) s := inW_congr (g := setE (fg2 n m c o c2 o2) n [121] (some c2)) (g' := addG (fg2 n m c o c2 o2) n [121] c2) rfl (fun b => rfl) s
    have i4 := add_inW (d := n) (P := []) hO2 rfl hds hk hnn.symm (fun y => by unfold kid; rw [e2]; rfl) s
    rw [hl.2, i3, i4, i2, i1, ho, ho2, e2]
    have t1 : txtB ([] ++ [[97]]) true = [47, 97, 47] := by decide +kernel
    have t2 : txtB ([[97]] ++ [[120]]) false = [47, 97, 47, 120] := by decide +kernel
    have t3 : txtB ([] ++ [[121]]) (none : Option (Nme → Option Nat)).isSome = [47, 121] := by decide +kernel
    rw [t1, t2, t3]
    simp only [new_inW, false_or, List.mem_cons, List.not_mem_nil, or_false]
    exact or_assoc
end Tr
end Go.Proofs.YtnglhfeialomgaaGreatDoor
/- Trees of directories: a tree that a law has made. -/
namespace Go.Proofs.YtnglhfeialomgaaGreatDoor
open Go.RowKit

namespace Tr
theorem addErr_kid {g : G} {s : List UInt8} {d : Nat} {x : Nme} (h : addErr g s = 0) (hs : spot g s = .at_ d x) : kid g d x = none := by
  unfold addErr at h
  rw [hs] at h
  have h : (if (kid g d x).isSome = true then (6 : Int) else if g.many = 24 then 4 else 0) = 0 := h
  cases hk : kid g d x with
  | none => rfl
  | some c =>
    rw [hk] at h
    exact absurd ((if_pos (show (some c).isSome = true from rfl)).symm.trans h) (by decide)
theorem Cn.addS {g : G} {s : List UInt8} {d c : Nat} {x : Nme} (hn : Cn g) (h : OK g) (hs : spot g s = .at_ d x) (h0 : addErr g s = 0) (hc : c ≠ d) (hl : Leaf g c) : Cn (addG g d x c) := by
  obtain ⟨P, -, hf, hd⟩ := spot_at hs
  exact hn.add h hf hd (addErr_kid h0 hs) hc hl
end Tr
structure TrL (w0 w : World) (tb : Nat) (g : Tr.G) (dom : Nat → Prop) (K : Nat) : Prop where
  s : TrS w tb g dom K
  cn : Tr.Cn g
  lo : ∀ k, TrP tb g dom k → w0.heap.size ≤ k
  fr : Fr [] w0 w
section
variable {w0 w w' : World} {tb K K' c d n : Nat} {g g' : Tr.G} {dom dom' : Nat → Prop} {x : Tr.Nme}
theorem TrL.step (h : TrL w0 w tb g dom K) (hf : Fr [] w w') : TrL w0 w' tb g dom K := ⟨h.s.step hf, h.cn, h.lo, h.fr.trans hf⟩
theorem TrL.mono (h : TrL w0 w tb g dom K) (hK : K ≤ K') : TrL w0 w tb g dom K' := ⟨h.s.mono hK, h.cn, h.lo, h.fr⟩
theorem TrL.next (h : TrL w0 w tb g dom K) (hf : FrP (TrP tb g dom) w w') (hs : TrS w' tb g' dom' K') (hc : Tr.Cn g') (hp : ∀ k, TrP tb g' dom' k → TrP tb g dom k ∨ w.heap.size ≤ k) : TrL w0 w' tb g' dom' K' := by
  refine ⟨hs, hc, fun k hk => ?_, ?_⟩
  · rcases hp k hk with hk | hk
    · exact h.lo k hk
    · exact Nat.le_trans h.fr.size hk
  · exact ⟨hf.os.trans h.fr.os, hf.tape.trans h.fr.tape, hf.output.trans h.fr.output, Nat.le_trans h.fr.size hf.size, fun k hk hn => (hf.block k (by have := h.fr.size; omega) (fun hp => by have := h.lo k hp; omega)).trans (h.fr.block k hk hn)⟩
theorem TrL.domC (h : TrL w0 w tb g dom K) : dom g.root ∧ ∀ d x e, dom d → Tr.kid g d x = some e → dom e := ⟨h.s.rootD, h.s.closed⟩
theorem trP_same (hm : ∀ b, g'.mb b = g.mb b) (he : ∀ b, (g'.ent b).isSome = (g.ent b).isSome) {k : Nat} (h : TrP tb g' dom k) : TrP tb g dom k := by
  rcases h with h | h | ⟨b, h1, h2, h3⟩
  · exact .inl h
  · exact .inr (.inl h)
  · exact .inr (.inr ⟨b, h1, by rw [← he]; exact h2, by rw [← hm]; exact h3⟩)
end
/-- What New hands a law. -/
def NewL (w0 : World) (e : Ending) (w' : World) : Prop := ∃ tb n m, e = .returned (.pointer (some ⟨tb, 0, none⟩)) ∧ TrL w0 w' tb (Tr.G.new n m) (· = n) 0
theorem trl_new {w0 w : World} (hf : Fr [] w0 w) : Calls Tryz.prog 4 #[] w (NewL w0) :=
  (tr_New w).mono fun e w' ⟨tb, n, m, he, hs, h1, h2⟩ => ⟨tb, n, m, he, hs, Tr.Cn.new n m, fun k hk => Nat.le_trans hf.size (h2 k hk), hf.trans h1⟩
/-- A node made, and added or not. -/
def MakL (w0 : World) (tb : Nat) (g : Tr.G) (dom : Nat → Prop) (K : Nat) (s : List UInt8) (dir : Bool) (e : Ending) (w' : World) : Prop :=
  e = .returned (errV (Tr.addErr g s)) ∧ ∃ c o, ¬ dom c ∧ Option.isSome o = dir ∧
    ((Tr.addErr g s = 0 ∧ ∃ d x, Tr.spot g s = .at_ d x ∧ TrL w0 w' tb (Tr.addG (Tr.newN g c o) d x c) (fun b => dom b ∨ b = c) (K + 1)) ∨ (Tr.addErr g s ≠ 0 ∧ TrL w0 w' tb (Tr.newN g c o) (fun b => dom b ∨ b = c) K))
theorem MakL.of {w0 w w' : World} {tb K : Nat} {g : Tr.G} {dom : Nat → Prop} {s : List UInt8} {dir : Bool} {e : Ending} (h : TrL w0 w tb g dom K) (ha : MakA tb g dom K s dir w e w') : MakL w0 tb g dom K s dir e w' := by
  obtain ⟨he, hf, c, o, hc, ho, hno, hP, hr⟩ := ha
  obtain ⟨hr1, hcl⟩ := h.domC
  have hcn : Tr.Cn (Tr.newN g c o) := h.cn.newN hr1 hcl hno
  refine ⟨he, c, o, hno, ho, ?_⟩
  rcases hr with ⟨h0, d, x, hs, hS⟩ | ⟨h0, hS⟩
  · refine .inl ⟨h0, d, x, hs, h.next hf hS ?_ (fun k hk => hP k (trP_same (g := Tr.newN g c o) (g' := Tr.addG (Tr.newN g c o) d x c) (fun b => rfl) (fun b => by rw [Tr.addG_ent, Tr.setE_some]) hk))⟩
    have hne : c ≠ d := fun e => hno (e ▸ Tr.spot_dom hr1 hcl hs)
    exact hcn.addS (h.s.ok.newN hr1 hcl hno) (by rw [Tr.spot_newN hr1 hcl hno]; exact hs) (by rw [Tr.addErr_newN hr1 hcl hno]; exact h0) hne Tr.newN_leaf
  · exact .inr ⟨h0, h.next hf hS hcn hP⟩
theorem trl_DirF {w0 w : World} {tb K : Nat} {g : Tr.G} {dom : Nat → Prop} (h : TrL w0 w tb g dom K) (hK : K ≤ 100000) (s : ByteArray) :
    Calls Tryz.prog 27 #[.pointer (some ⟨tb, 0, none⟩), .string s] w (fun e w' => MakL w0 tb g dom K s.data.toList true e w' ∧ FrP (TrP tb g dom) w w') :=
  (tr_Dir w tb g dom K s h.s hK).mono fun _ _ ha => ⟨MakL.of h ha, ha.2.1⟩
theorem trl_Dir {w0 w : World} {tb K : Nat} {g : Tr.G} {dom : Nat → Prop} (h : TrL w0 w tb g dom K) (hK : K ≤ 100000) (s : ByteArray) :
    Calls Tryz.prog 27 #[.pointer (some ⟨tb, 0, none⟩), .string s] w (MakL w0 tb g dom K s.data.toList true) := (trl_DirF h hK s).mono fun _ _ h => h.1
theorem trl_FileF {w0 w : World} {tb K : Nat} {g : Tr.G} {dom : Nat → Prop} (h : TrL w0 w tb g dom K) (hK : K ≤ 100000) (s : ByteArray) :
    Calls Tryz.prog 28 #[.pointer (some ⟨tb, 0, none⟩), .string s] w (fun e w' => MakL w0 tb g dom K s.data.toList false e w' ∧ FrP (TrP tb g dom) w w') :=
  (tr_File w tb g dom K s h.s hK).mono fun _ _ ha => ⟨MakL.of h ha, ha.2.1⟩
theorem trl_File {w0 w : World} {tb K : Nat} {g : Tr.G} {dom : Nat → Prop} (h : TrL w0 w tb g dom K) (hK : K ≤ 100000) (s : ByteArray) :
    Calls Tryz.prog 28 #[.pointer (some ⟨tb, 0, none⟩), .string s] w (MakL w0 tb g dom K s.data.toList false) := (trl_FileF h hK s).mono fun _ _ h => h.1
/-- A file named once more, or not. -/
def LinkL (w0 : World) (tb : Nat) (g : Tr.G) (dom : Nat → Prop) (K : Nat) (old s : List UInt8) (e : Ending) (w' : World) : Prop :=
  e = .returned (errV (Tr.linkErr g old s)) ∧ ((Tr.linkErr g old s = 0 ∧ ∃ n d x, atV g old = .ok n ∧ g.ent n = none ∧ Tr.addErr g s = 0 ∧ Tr.spot g s = .at_ d x ∧ TrL w0 w' tb (Tr.addG g d x n) dom (K + 1)) ∨ (Tr.linkErr g old s ≠ 0 ∧ TrL w0 w' tb g dom K))
theorem trl_LinkF {w0 w : World} {tb K : Nat} {g : Tr.G} {dom : Nat → Prop} (h : TrL w0 w tb g dom K) (hK : K ≤ 100000) (old s : ByteArray) :
    Calls Tryz.prog 30 #[.pointer (some ⟨tb, 0, none⟩), .string old, .string s] w (fun e w' => LinkL w0 tb g dom K old.data.toList s.data.toList e w' ∧ FrP (TrP tb g dom) w w') :=
  (tr_Link w tb g dom K old s h.s hK).mono fun e w' ⟨he, hf, hr⟩ => ⟨⟨he, by
    rcases hr with ⟨h0, n, d, x, h1, h2, h3, h4, hS⟩ | ⟨h0, hfr⟩
    · refine .inl ⟨h0, n, d, x, h1, h2, h3, h4, h.next hf hS ?_ (fun k hk => .inl (trP_same (g := g) (g' := Tr.addG g d x n) (fun b => rfl) (fun b => by rw [Tr.addG_ent, Tr.setE_some]) hk))⟩
      refine h.cn.addS h.s.ok h4 h3 (fun e => ?_) (fun y => by unfold Tr.kid; rw [h2]; rfl)
      obtain ⟨P, -, -, hd⟩ := Tr.spot_at h4
      rw [← e, h2] at hd
      cases hd
    · exact .inr ⟨h0, h.step hfr⟩⟩, hf⟩
theorem trl_Link {w0 w : World} {tb K : Nat} {g : Tr.G} {dom : Nat → Prop} (h : TrL w0 w tb g dom K) (hK : K ≤ 100000) (old s : ByteArray) :
    Calls Tryz.prog 30 #[.pointer (some ⟨tb, 0, none⟩), .string old, .string s] w (LinkL w0 tb g dom K old.data.toList s.data.toList) := (trl_LinkF h hK old s).mono fun _ _ h => h.1
/-- A name struck, or not. -/
def DropL (w0 : World) (tb : Nat) (g : Tr.G) (dom : Nat → Prop) (K : Nat) (s : List UInt8) (e : Ending) (w' : World) : Prop :=
  e = .returned (errV (Tr.dropErr g s)) ∧ ((Tr.dropErr g s = 0 ∧ ∃ d x n, Tr.spot g s = .at_ d x ∧ Tr.kid g d x = some n ∧ Tr.Leaf g n ∧ TrL w0 w' tb (Tr.dropG g d x n) dom (K + 1)) ∨ (Tr.dropErr g s ≠ 0 ∧ TrL w0 w' tb g dom K))
theorem trl_DropF {w0 w : World} {tb K : Nat} {g : Tr.G} {dom : Nat → Prop} (h : TrL w0 w tb g dom K) (hK : K ≤ 100000) (s : ByteArray) :
    Calls Tryz.prog 29 #[.pointer (some ⟨tb, 0, none⟩), .string s] w (fun e w' => DropL w0 tb g dom K s.data.toList e w' ∧ FrP (TrP tb g dom) w w') :=
  (tr_drop w tb g dom K s h.s hK h.cn).mono fun e w' ⟨he, hf, hr⟩ => ⟨⟨he, by
    rcases hr with ⟨h0, d, x, n, h1, h2, h3, hS⟩ | ⟨h0, hfr⟩
    · refine .inl ⟨h0, d, x, n, h1, h2, h3, h.next hf hS ?_ (fun k hk => .inl (trP_same (g := g) (g' := Tr.dropG g d x n) (fun b => rfl) (fun b => (Tr.setE_some : ((Tr.setE g d x none).ent b).isSome = _)) hk))⟩
      obtain ⟨P, -, hfd, hd⟩ := Tr.spot_at h1
      exact h.cn.drop h.s.ok hfd hd h2 h3
    · exact .inr ⟨h0, h.step hfr⟩⟩, hf⟩
theorem trl_Drop {w0 w : World} {tb K : Nat} {g : Tr.G} {dom : Nat → Prop} (h : TrL w0 w tb g dom K) (hK : K ≤ 100000) (s : ByteArray) :
    Calls Tryz.prog 29 #[.pointer (some ⟨tb, 0, none⟩), .string s] w (DropL w0 tb g dom K s.data.toList) := (trl_DropF h hK s).mono fun _ _ h => h.1
/-- A move, or none. -/
def MoveL (w0 : World) (tb : Nat) (g : Tr.G) (dom : Nat → Prop) (K : Nat) (old tu : List UInt8) (e : Ending) (w' : World) : Prop :=
  e = .returned (errV (Tr.moveErr g old tu)) ∧
    ((Tr.moveErr g old tu = 0 ∧ ∃ P d x n P' d' x', Pa.parts old = (P ++ [x], 0) ∧ Pa.parts tu = (P' ++ [x'], 0) ∧ Tr.Mv g P d x n P' d' x' ∧ (∀ r c, Tr.fnd g n r = .ok c → P'.length + 1 + r.length ≤ 8) ∧ TrL w0 w' tb (Tr.movE g d x d' x' n) dom (K + 2)) ∨ (Tr.moveErr g old tu ≠ 0 ∧ TrL w0 w' tb g dom K))
theorem trl_MoveF {w0 w : World} {tb K : Nat} {g : Tr.G} {dom : Nat → Prop} (h : TrL w0 w tb g dom K) (hK : K ≤ 100000) (old tu : ByteArray) :
    Calls Tryz.prog 31 #[.pointer (some ⟨tb, 0, none⟩), .string old, .string tu] w (fun e w' => MoveL w0 tb g dom K old.data.toList tu.data.toList e w' ∧ FrP (TrP tb g dom) w w') :=
  (tr_move w tb g dom K old tu h.s hK).mono fun e w' ⟨he, hf, hr⟩ => ⟨⟨he, by
    rcases hr with ⟨h0, P, d, x, n, P', d', x', h1, h2, h3, h4, hS⟩ | ⟨h0, hfr⟩
    · exact .inl ⟨h0, P, d, x, n, P', d', x', h1, h2, h3, h4, h.next hf hS (h.cn.move h3 h.s.ok) (fun k hk => .inl (trP_same (g := g) (g' := Tr.movE g d x d' x' n) (fun b => rfl) (fun b => Tr.Mv.isD b) hk))⟩
    · exact .inr ⟨h0, h.step hfr⟩⟩, hf⟩
theorem trl_Move {w0 w : World} {tb K : Nat} {g : Tr.G} {dom : Nat → Prop} (h : TrL w0 w tb g dom K) (hK : K ≤ 100000) (old tu : ByteArray) :
    Calls Tryz.prog 31 #[.pointer (some ⟨tb, 0, none⟩), .string old, .string tu] w (MoveL w0 tb g dom K old.data.toList tu.data.toList) := (trl_MoveF h hK old tu).mono fun _ _ h => h.1
/-- How many names. -/
theorem trl_Names {w0 w : World} {tb K : Nat} {g : Tr.G} {dom : Nat → Prop} (h : TrL w0 w tb g dom K) (s : ByteArray) :
    Calls Tryz.prog 16 #[.pointer (some ⟨tb, 0, none⟩), .string s] w fun e w' => e = .returned (namesV g s.data.toList) ∧ TrL w0 w' tb g dom K ∧ Fr [] w w' :=
  (tr_Names w tb g dom K s h.s).mono fun e w' ⟨he, hf⟩ => ⟨he, h.step hf, hf⟩
end Go.Proofs.YtnglhfeialomgaaGreatDoor

/- One more name, and one less; in plain Lean. -/
namespace Go.Proofs.YtnglhfeialomgaaGreatDoor
namespace Tr

theorem atV_path {g : G} {s : List UInt8} {n : Nat} (h : atV g s = .ok n) : ∃ p, Pa.parts s = (p, 0) ∧ fnd g g.root p = .ok n := by
  unfold atV at h
  split at h
  · rename_i h0
    exact ⟨(Pa.parts s).1, by rw [← h0], h⟩
  · cases h
theorem atV_of {g : G} {s : List UInt8} {p : List Nme} {n : Nat} (hp : Pa.parts s = (p, 0)) (hf : fnd g g.root p = .ok n) : atV g s = .ok n := by
  unfold atV
  rw [hp, if_pos rfl]
  exact hf
theorem namesV_file {g : G} {s : List UInt8} {n : Nat} (h : atV g s = .ok n) (he : g.ent n = none) : namesV g s = .tuple #[.int .i64 (g.nms n), .nilIface] := by
  unfold namesV
  rw [h]
  show Value.tuple #[.int .i64 (if (g.ent n).isSome = true then 0 else g.nms n), .nilIface] = _
  rw [he]; rfl
structure LinkP (g : G) (st tt : List UInt8) (n d : Nat) (x : Nme) : Prop where
  n1 : namesV (addG g d x n) st = .tuple #[.int .i64 (g.nms n + 1), .nilIface]
  n2 : namesV (addG g d x n) tt = .tuple #[.int .i64 (g.nms n + 1), .nilIface]
  sp : spot (addG g d x n) tt = .at_ d x
  kd : kid (addG g d x n) d x = some n
  lf : Leaf (addG g d x n) n
  de : dropErr (addG g d x n) tt = 0
  n3 : namesV (dropG (addG g d x n) d x n) st = .tuple #[.int .i64 (g.nms n), .nilIface]
theorem linkP {g : G} {st tt : List UInt8} {n d : Nat} {x : Nme} (hO : OK g) (hO1 : OK (addG g d x n)) (ha : atV g st = .ok n) (he : g.ent n = none) (h0 : addErr g tt = 0) (hs : spot g tt = .at_ d x) : LinkP g st tt n d x := by
  obtain ⟨p, hp, hf⟩ := atV_path ha
  obtain ⟨P, hpt, hfd, hds⟩ := spot_at hs
  have hk := addErr_kid h0 hs
  have hne : n ≠ d := fun e => by rw [← e, he] at hds; cases hds
  have hfar : ¬ ∃ r, p = P ++ x :: r := fun ⟨r, e⟩ => by rw [e] at hf; exact free_none hfd hk r n hf
  have e1 : (addG g d x n).ent n = none := by rw [addG_ent, setE_ne hne]; exact he
  have f1 : fnd (addG g d x n) (addG g d x n).root p = .ok n := (added_far hO hfd hds hfar).trans hf
  have f2 : fnd (addG g d x n) (addG g d x n).root (P ++ [x]) = .ok n := added_fnd (x := x) hO hfd hds []
  have f3 : fnd (addG g d x n) (addG g d x n).root P = .ok d := (added_far hO hfd hds (fun ⟨r, e⟩ => by have := congrArg List.length e; simp at this)).trans hfd
  have hds1 : ((addG g d x n).ent d).isSome = true := by rw [addG_some]; exact hds
  have kd : kid (addG g d x n) d x = some n := by rw [added_kid hds, if_pos ⟨rfl, rfl⟩]
  have lf : Leaf (addG g d x n) n := fun y => by unfold kid; rw [e1]; rfl
  have sp : spot (addG g d x n) tt = .at_ d x := spot_of hpt f3 hds1
  have nm : (addG g d x n).nms n = g.nms n + 1 := if_pos rfl
  refine ⟨by rw [namesV_file (atV_of hp f1) e1, nm], by rw [namesV_file (atV_of hpt f2) e1, nm], sp, kd, lf, ((dropErr_at sp).2 n kd).1 lf, ?_⟩
  have e2 : (dropG (addG g d x n) d x n).ent n = none := (setE_ne hne x none).trans e1
  have f4 : fnd (dropG (addG g d x n) d x n) (dropG (addG g d x n) d x n).root p = .ok n := by
    have hc := fnd_congr (g := setE (addG g d x n) d x none) (g' := dropG (addG g d x n) d x n) (fun b => rfl)
    rw [hc]
    exact (fnd_set_far (hO1.way f3 hds1) x none hfar).trans f1
  have nm2 : (dropG (addG g d x n) d x n).nms n = g.nms n := by
    show (if n = n then (addG g d x n).nms n - 1 else _) = _
    rw [if_pos rfl, nm]; omega
  rw [namesV_file (atV_of hp f4) e2, nm2]
end Tr
end Go.Proofs.YtnglhfeialomgaaGreatDoor
