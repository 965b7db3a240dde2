/- Trees of directories: a tree that a law has made. -/

import Derived.Test.YtnglhfeialomgaaDoorTq15
import Derived.Test.YtnglhfeialomgaaDoorTq20
import Derived.Test.YtnglhfeialomgaaDoorTq21
namespace Go.Proofs.YtnglhfeialomgaaDoor
open Go.RowKit

namespace Tr
theorem addErr_kid {g : G} {s : List UInt8} {d : Nat} {x : Nme} (h : addErr g s = 0) (hs : spot g s = .at_ d x) : kid g d x = none := by
  unfold addErr at h
  rw [hs] at h
  have h : (if (kid g d x).isSome = true then (6 : Int) else if g.many = 24 then 4 else 0) = 0 := h
  cases hk : kid g d x with
  | none => rfl
  | some c =>
    rw [hk] at h
    exact absurd ((if_pos (show (some c).isSome = true from rfl)).symm.trans h) (by decide)
theorem Cn.addS {g : G} {s : List UInt8} {d c : Nat} {x : Nme} (hn : Cn g) (h : OK g) (hs : spot g s = .at_ d x) (h0 : addErr g s = 0) (hc : c ≠ d) (hl : Leaf g c) : Cn (addG g d x c) := by
  obtain ⟨P, -, hf, hd⟩ := spot_at hs
  exact hn.add h hf hd (addErr_kid h0 hs) hc hl
end Tr
structure TrL (w0 w : World) (tb : Nat) (g : Tr.G) (dom : Nat → Prop) (K : Nat) : Prop where
  s : TrS w tb g dom K
  cn : Tr.Cn g
  lo : ∀ k, TrP tb g dom k → w0.heap.size ≤ k
  fr : Fr [] w0 w
section
variable {w0 w w' : World} {tb K K' c d n : Nat} {g g' : Tr.G} {dom dom' : Nat → Prop} {x : Tr.Nme}
theorem TrL.step (h : TrL w0 w tb g dom K) (hf : Fr [] w w') : TrL w0 w' tb g dom K := ⟨h.s.step hf, h.cn, h.lo, h.fr.trans hf⟩
theorem TrL.mono (h : TrL w0 w tb g dom K) (hK : K ≤ K') : TrL w0 w tb g dom K' := ⟨h.s.mono hK, h.cn, h.lo, h.fr⟩
theorem TrL.next (h : TrL w0 w tb g dom K) (hf : FrP (TrP tb g dom) w w') (hs : TrS w' tb g' dom' K') (hc : Tr.Cn g') (hp : ∀ k, TrP tb g' dom' k → TrP tb g dom k ∨ w.heap.size ≤ k) : TrL w0 w' tb g' dom' K' := by
  refine ⟨hs, hc, fun k hk => ?_, ?_⟩
  · rcases hp k hk with hk | hk
    · exact h.lo k hk
    · exact Nat.le_trans h.fr.size hk
  · exact ⟨hf.os.trans h.fr.os, hf.tape.trans h.fr.tape, hf.output.trans h.fr.output, Nat.le_trans h.fr.size hf.size, fun k hk hn => (hf.block k (by have := h.fr.size; omega) (fun hp => by have := h.lo k hp; omega)).trans (h.fr.block k hk hn)⟩
theorem TrL.domC (h : TrL w0 w tb g dom K) : dom g.root ∧ ∀ d x e, dom d → Tr.kid g d x = some e → dom e := ⟨h.s.rootD, h.s.closed⟩
theorem trP_same (hm : ∀ b, g'.mb b = g.mb b) (he : ∀ b, (g'.ent b).isSome = (g.ent b).isSome) {k : Nat} (h : TrP tb g' dom k) : TrP tb g dom k := by
  rcases h with h | h | ⟨b, h1, h2, h3⟩
  · exact .inl h
  · exact .inr (.inl h)
  · exact .inr (.inr ⟨b, h1, by rw [← he]; exact h2, by rw [← hm]; exact h3⟩)
end
/-- What New hands a law. -/
def NewL (w0 : World) (e : Ending) (w' : World) : Prop := ∃ tb n m, e = .returned (.pointer (some ⟨tb, 0, none⟩)) ∧ TrL w0 w' tb (Tr.G.new n m) (· = n) 0
theorem trl_new {w0 w : World} (hf : Fr [] w0 w) : Calls Tryd.prog 22 #[] w (NewL w0) :=
  (tr_New w).mono fun e w' ⟨tb, n, m, he, hs, h1, h2⟩ => ⟨tb, n, m, he, hs, Tr.Cn.new n m, fun k hk => Nat.le_trans hf.size (h2 k hk), hf.trans h1⟩
/-- A node made, and added or not. -/
def MakL (w0 : World) (tb : Nat) (g : Tr.G) (dom : Nat → Prop) (K : Nat) (s : List UInt8) (dir : Bool) (e : Ending) (w' : World) : Prop :=
  e = .returned (errV (Tr.addErr g s)) ∧ ∃ c o, ¬ dom c ∧ Option.isSome o = dir ∧
    ((Tr.addErr g s = 0 ∧ ∃ d x, Tr.spot g s = .at_ d x ∧ TrL w0 w' tb (Tr.addG (Tr.newN g c o) d x c) (fun b => dom b ∨ b = c) (K + 1)) ∨ (Tr.addErr g s ≠ 0 ∧ TrL w0 w' tb (Tr.newN g c o) (fun b => dom b ∨ b = c) K))
theorem MakL.of {w0 w w' : World} {tb K : Nat} {g : Tr.G} {dom : Nat → Prop} {s : List UInt8} {dir : Bool} {e : Ending} (h : TrL w0 w tb g dom K) (ha : MakA tb g dom K s dir w e w') : MakL w0 tb g dom K s dir e w' := by
  obtain ⟨he, hf, c, o, hc, ho, hno, hP, hr⟩ := ha
  obtain ⟨hr1, hcl⟩ := h.domC
  have hcn : Tr.Cn (Tr.newN g c o) := h.cn.newN hr1 hcl hno
  refine ⟨he, c, o, hno, ho, ?_⟩
  rcases hr with ⟨h0, d, x, hs, hS⟩ | ⟨h0, hS⟩
  · refine .inl ⟨h0, d, x, hs, h.next hf hS ?_ (fun k hk => hP k (trP_same (g := Tr.newN g c o) (g' := Tr.addG (Tr.newN g c o) d x c) (fun b => rfl) (fun b => by rw [Tr.addG_ent, Tr.setE_some]) hk))⟩
    have hne : c ≠ d := fun e => hno (e ▸ Tr.spot_dom hr1 hcl hs)
    exact hcn.addS (h.s.ok.newN hr1 hcl hno) (by rw [Tr.spot_newN hr1 hcl hno]; exact hs) (by rw [Tr.addErr_newN hr1 hcl hno]; exact h0) hne Tr.newN_leaf
  · exact .inr ⟨h0, h.next hf hS hcn hP⟩
theorem trl_DirF {w0 w : World} {tb K : Nat} {g : Tr.G} {dom : Nat → Prop} (h : TrL w0 w tb g dom K) (hK : K ≤ 100000) (s : ByteArray) :
    Calls Tryd.prog 17 #[.pointer (some ⟨tb, 0, none⟩), .string s] w (fun e w' => MakL w0 tb g dom K s.data.toList true e w' ∧ FrP (TrP tb g dom) w w') :=
  (tr_Dir w tb g dom K s h.s hK).mono fun _ _ ha => ⟨MakL.of h ha, ha.2.1⟩
theorem trl_Dir {w0 w : World} {tb K : Nat} {g : Tr.G} {dom : Nat → Prop} (h : TrL w0 w tb g dom K) (hK : K ≤ 100000) (s : ByteArray) :
    Calls Tryd.prog 17 #[.pointer (some ⟨tb, 0, none⟩), .string s] w (MakL w0 tb g dom K s.data.toList true) := (trl_DirF h hK s).mono fun _ _ h => h.1
theorem trl_FileF {w0 w : World} {tb K : Nat} {g : Tr.G} {dom : Nat → Prop} (h : TrL w0 w tb g dom K) (hK : K ≤ 100000) (s : ByteArray) :
    Calls Tryd.prog 16 #[.pointer (some ⟨tb, 0, none⟩), .string s] w (fun e w' => MakL w0 tb g dom K s.data.toList false e w' ∧ FrP (TrP tb g dom) w w') :=
  (tr_File w tb g dom K s h.s hK).mono fun _ _ ha => ⟨MakL.of h ha, ha.2.1⟩
theorem trl_File {w0 w : World} {tb K : Nat} {g : Tr.G} {dom : Nat → Prop} (h : TrL w0 w tb g dom K) (hK : K ≤ 100000) (s : ByteArray) :
    Calls Tryd.prog 16 #[.pointer (some ⟨tb, 0, none⟩), .string s] w (MakL w0 tb g dom K s.data.toList false) := (trl_FileF h hK s).mono fun _ _ h => h.1
/-- A file named once more, or not. -/
def LinkL (w0 : World) (tb : Nat) (g : Tr.G) (dom : Nat → Prop) (K : Nat) (old s : List UInt8) (e : Ending) (w' : World) : Prop :=
  e = .returned (errV (Tr.linkErr g old s)) ∧ ((Tr.linkErr g old s = 0 ∧ ∃ n d x, atV g old = .ok n ∧ g.ent n = none ∧ Tr.addErr g s = 0 ∧ Tr.spot g s = .at_ d x ∧ TrL w0 w' tb (Tr.addG g d x n) dom (K + 1)) ∨ (Tr.linkErr g old s ≠ 0 ∧ TrL w0 w' tb g dom K))
theorem trl_LinkF {w0 w : World} {tb K : Nat} {g : Tr.G} {dom : Nat → Prop} (h : TrL w0 w tb g dom K) (hK : K ≤ 100000) (old s : ByteArray) :
    Calls Tryd.prog 12 #[.pointer (some ⟨tb, 0, none⟩), .string old, .string s] w (fun e w' => LinkL w0 tb g dom K old.data.toList s.data.toList e w' ∧ FrP (TrP tb g dom) w w') :=
  (tr_Link w tb g dom K old s h.s hK).mono fun e w' ⟨he, hf, hr⟩ => ⟨⟨he, by
    rcases hr with ⟨h0, n, d, x, h1, h2, h3, h4, hS⟩ | ⟨h0, hfr⟩
    · refine .inl ⟨h0, n, d, x, h1, h2, h3, h4, h.next hf hS ?_ (fun k hk => .inl (trP_same (g := g) (g' := Tr.addG g d x n) (fun b => rfl) (fun b => by rw [Tr.addG_ent, Tr.setE_some]) hk))⟩
      refine h.cn.addS h.s.ok h4 h3 (fun e => ?_) (fun y => by unfold Tr.kid; rw [h2]; rfl)
      obtain ⟨P, -, -, hd⟩ := Tr.spot_at h4
      rw [← e, h2] at hd
      cases hd
    · exact .inr ⟨h0, h.step hfr⟩⟩, hf⟩
theorem trl_Link {w0 w : World} {tb K : Nat} {g : Tr.G} {dom : Nat → Prop} (h : TrL w0 w tb g dom K) (hK : K ≤ 100000) (old s : ByteArray) :
    Calls Tryd.prog 12 #[.pointer (some ⟨tb, 0, none⟩), .string old, .string s] w (LinkL w0 tb g dom K old.data.toList s.data.toList) := (trl_LinkF h hK old s).mono fun _ _ h => h.1
/-- A name struck, or not. -/
def DropL (w0 : World) (tb : Nat) (g : Tr.G) (dom : Nat → Prop) (K : Nat) (s : List UInt8) (e : Ending) (w' : World) : Prop :=
  e = .returned (errV (Tr.dropErr g s)) ∧ ((Tr.dropErr g s = 0 ∧ ∃ d x n, Tr.spot g s = .at_ d x ∧ Tr.kid g d x = some n ∧ Tr.Leaf g n ∧ TrL w0 w' tb (Tr.dropG g d x n) dom (K + 1)) ∨ (Tr.dropErr g s ≠ 0 ∧ TrL w0 w' tb g dom K))
theorem trl_DropF {w0 w : World} {tb K : Nat} {g : Tr.G} {dom : Nat → Prop} (h : TrL w0 w tb g dom K) (hK : K ≤ 100000) (s : ByteArray) :
    Calls Tryd.prog 13 #[.pointer (some ⟨tb, 0, none⟩), .string s] w (fun e w' => DropL w0 tb g dom K s.data.toList e w' ∧ FrP (TrP tb g dom) w w') :=
  (tr_drop w tb g dom K s h.s hK h.cn).mono fun e w' ⟨he, hf, hr⟩ => ⟨⟨he, by
    rcases hr with ⟨h0, d, x, n, h1, h2, h3, hS⟩ | ⟨h0, hfr⟩
    · refine .inl ⟨h0, d, x, n, h1, h2, h3, h.next hf hS ?_ (fun k hk => .inl (trP_same (g := g) (g' := Tr.dropG g d x n) (fun b => rfl) (fun b => (Tr.setE_some : ((Tr.setE g d x none).ent b).isSome = _)) hk))⟩
      obtain ⟨P, -, hfd, hd⟩ := Tr.spot_at h1
      exact h.cn.drop h.s.ok hfd hd h2 h3
    · exact .inr ⟨h0, h.step hfr⟩⟩, hf⟩
theorem trl_Drop {w0 w : World} {tb K : Nat} {g : Tr.G} {dom : Nat → Prop} (h : TrL w0 w tb g dom K) (hK : K ≤ 100000) (s : ByteArray) :
    Calls Tryd.prog 13 #[.pointer (some ⟨tb, 0, none⟩), .string s] w (DropL w0 tb g dom K s.data.toList) := (trl_DropF h hK s).mono fun _ _ h => h.1
/-- A move, or none. -/
def MoveL (w0 : World) (tb : Nat) (g : Tr.G) (dom : Nat → Prop) (K : Nat) (old tu : List UInt8) (e : Ending) (w' : World) : Prop :=
  e = .returned (errV (Tr.moveErr g old tu)) ∧
    ((Tr.moveErr g old tu = 0 ∧ ∃ P d x n P' d' x', Pa.parts old = (P ++ [x], 0) ∧ Pa.parts tu = (P' ++ [x'], 0) ∧ Tr.Mv g P d x n P' d' x' ∧ (∀ r c, Tr.fnd g n r = .ok c → P'.length + 1 + r.length ≤ 8) ∧ TrL w0 w' tb (Tr.movE g d x d' x' n) dom (K + 2)) ∨ (Tr.moveErr g old tu ≠ 0 ∧ TrL w0 w' tb g dom K))
theorem trl_MoveF {w0 w : World} {tb K : Nat} {g : Tr.G} {dom : Nat → Prop} (h : TrL w0 w tb g dom K) (hK : K ≤ 100000) (old tu : ByteArray) :
    Calls Tryd.prog 14 #[.pointer (some ⟨tb, 0, none⟩), .string old, .string tu] w (fun e w' => MoveL w0 tb g dom K old.data.toList tu.data.toList e w' ∧ FrP (TrP tb g dom) w w') :=
  (tr_move w tb g dom K old tu h.s hK).mono fun e w' ⟨he, hf, hr⟩ => ⟨⟨he, by
    rcases hr with ⟨h0, P, d, x, n, P', d', x', h1, h2, h3, h4, hS⟩ | ⟨h0, hfr⟩
    · exact .inl ⟨h0, P, d, x, n, P', d', x', h1, h2, h3, h4, h.next hf hS (h.cn.move h3 h.s.ok) (fun k hk => .inl (trP_same (g := g) (g' := Tr.movE g d x d' x' n) (fun b => rfl) (fun b => Tr.Mv.isD b) hk))⟩
    · exact .inr ⟨h0, h.step hfr⟩⟩, hf⟩
theorem trl_Move {w0 w : World} {tb K : Nat} {g : Tr.G} {dom : Nat → Prop} (h : TrL w0 w tb g dom K) (hK : K ≤ 100000) (old tu : ByteArray) :
    Calls Tryd.prog 14 #[.pointer (some ⟨tb, 0, none⟩), .string old, .string tu] w (MoveL w0 tb g dom K old.data.toList tu.data.toList) := (trl_MoveF h hK old tu).mono fun _ _ h => h.1
/-- How many names. -/
theorem trl_Names {w0 w : World} {tb K : Nat} {g : Tr.G} {dom : Nat → Prop} (h : TrL w0 w tb g dom K) (s : ByteArray) :
    Calls Tryd.prog 10 #[.pointer (some ⟨tb, 0, none⟩), .string s] w fun e w' => e = .returned (namesV g s.data.toList) ∧ TrL w0 w' tb g dom K ∧ Fr [] w w' :=
  (tr_Names w tb g dom K s h.s).mono fun e w' ⟨he, hf⟩ => ⟨he, h.step hf, hf⟩
end Go.Proofs.YtnglhfeialomgaaDoor
/- One more name, and one less; in plain Lean. -/
namespace Go.Proofs.YtnglhfeialomgaaDoor
namespace Tr

theorem atV_path {g : G} {s : List UInt8} {n : Nat} (h : atV g s = .ok n) : ∃ p, Pa.parts s = (p, 0) ∧ fnd g g.root p = .ok n := by
  unfold atV at h
  split at h
  · rename_i h0
    exact ⟨(Pa.parts s).1, by rw [← h0], h⟩
  · cases h
theorem atV_of {g : G} {s : List UInt8} {p : List Nme} {n : Nat} (hp : Pa.parts s = (p, 0)) (hf : fnd g g.root p = .ok n) : atV g s = .ok n := by
  unfold atV
  rw [hp, if_pos rfl]
  exact hf
theorem namesV_file {g : G} {s : List UInt8} {n : Nat} (h : atV g s = .ok n) (he : g.ent n = none) : namesV g s = .tuple #[.int .i64 (g.nms n), .nilIface] := by
  unfold namesV
  rw [h]
  show Value.tuple #[.int .i64 (if (g.ent n).isSome = true then 0 else g.nms n), .nilIface] = _
  rw [he]; rfl
structure LinkP (g : G) (st tt : List UInt8) (n d : Nat) (x : Nme) : Prop where
  n1 : namesV (addG g d x n) st = .tuple #[.int .i64 (g.nms n + 1), .nilIface]
  n2 : namesV (addG g d x n) tt = .tuple #[.int .i64 (g.nms n + 1), .nilIface]
  sp : spot (addG g d x n) tt = .at_ d x
  kd : kid (addG g d x n) d x = some n
  lf : Leaf (addG g d x n) n
  de : dropErr (addG g d x n) tt = 0
  n3 : namesV (dropG (addG g d x n) d x n) st = .tuple #[.int .i64 (g.nms n), .nilIface]
theorem linkP {g : G} {st tt : List UInt8} {n d : Nat} {x : Nme} (hO : OK g) (hO1 : OK (addG g d x n)) (ha : atV g st = .ok n) (he : g.ent n = none) (h0 : addErr g tt = 0) (hs : spot g tt = .at_ d x) : LinkP g st tt n d x := by
  obtain ⟨p, hp, hf⟩ := atV_path ha
  obtain ⟨P, hpt, hfd, hds⟩ := spot_at hs
  have hk := addErr_kid h0 hs
  have hne : n ≠ d := fun e => by rw [← e, he] at hds; cases hds
  have hfar : ¬ ∃ r, p = P ++ x :: r := fun ⟨r, e⟩ => by rw [e] at hf; exact free_none hfd hk r n hf
  have e1 : (addG g d x n).ent n = none := by rw [addG_ent, setE_ne hne]; exact he
  have f1 : fnd (addG g d x n) (addG g d x n).root p = .ok n := (added_far hO hfd hds hfar).trans hf
  have f2 : fnd (addG g d x n) (addG g d x n).root (P ++ [x]) = .ok n := added_fnd (x := x) hO hfd hds []
  have f3 : fnd (addG g d x n) (addG g d x n).root P = .ok d := (added_far hO hfd hds (fun ⟨r, e⟩ => by have := congrArg List.length e; simp at this)).trans hfd
  have hds1 : ((addG g d x n).ent d).isSome = true := by rw [addG_some]; exact hds
  have kd : kid (addG g d x n) d x = some n := by rw [added_kid hds, if_pos ⟨rfl, rfl⟩]
  have lf : Leaf (addG g d x n) n := fun y => by unfold kid; rw [e1]; rfl
  have sp : spot (addG g d x n) tt = .at_ d x := spot_of hpt f3 hds1
  have nm : (addG g d x n).nms n = g.nms n + 1 := if_pos rfl
  refine ⟨by rw [namesV_file (atV_of hp f1) e1, nm], by rw [namesV_file (atV_of hpt f2) e1, nm], sp, kd, lf, ((dropErr_at sp).2 n kd).1 lf, ?_⟩
  have e2 : (dropG (addG g d x n) d x n).ent n = none := (setE_ne hne x none).trans e1
  have f4 : fnd (dropG (addG g d x n) d x n) (dropG (addG g d x n) d x n).root p = .ok n := by
    have hc := fnd_congr (g := setE (addG g d x n) d x none) (g' := dropG (addG g d x n) d x n) (fun b => rfl)
    rw [hc]
    exact (fnd_set_far (hO1.way f3 hds1) x none hfar).trans f1
  have nm2 : (dropG (addG g d x n) d x n).nms n = g.nms n := by
    show (if n = n then (addG g d x n).nms n - 1 else _) = _
    rw [if_pos rfl, nm]; omega
  rw [namesV_file (atV_of hp f4) e2, nm2]
end Tr
end Go.Proofs.YtnglhfeialomgaaDoor
