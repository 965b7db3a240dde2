/- Trees of directories: a tree that a law has made. -/

import Derived.Test.YtnglhfeialomgaaDoorTw11
import Derived.Test.YtnglhfeialomgaaDoorTw15
import Derived.Test.YtnglhfeialomgaaDoorTw16
import Derived.Test.YtnglhfeialomgaaDoorTw20
namespace Go.Proofs.YtnglhfeialomgaaDoor
open Go.RowKit

namespace Tr
theorem addErr_kid {g : G} {s : List UInt8} {d : Nat} {x : Nme} (h : addErr g s = 0) (hs : spot g s = .at_ d x) : kid g d x = none := by
  unfold addErr at h
  rw [hs] at h
  have h : (if (kid g d x).isSome = true then (6 : Int) else if g.many = 24 then 4 else 0) = 0 := h
  cases hk : kid g d x with
  | none => rfl
  | some c =>
    rw [hk] at h
    exact absurd ((if_pos (show (some c).isSome = true from rfl)).symm.trans h) (by decide)
theorem Cn.addS {g : G} {s : List UInt8} {d c : Nat} {x : Nme} (hn : Cn g) (h : OK g) (hs : spot g s = .at_ d x) (h0 : addErr g s = 0) (hc : c ≠ d) (hl : Leaf g c) : Cn (addG g d x c) := by
  obtain ⟨P, -, hf, hd⟩ := spot_at hs
  exact hn.add h hf hd (addErr_kid h0 hs) hc hl
end Tr
structure TrL (w0 w : World) (tb : Nat) (g : Tr.G) (dom : Nat → Prop) (K : Nat) : Prop where
  s : TrS w tb g dom K
  cn : Tr.Cn g
  lo : ∀ k, TrP tb g dom k → w0.heap.size ≤ k
  fr : Fr [] w0 w
section
variable {w0 w w' : World} {tb K K' c d n : Nat} {g g' : Tr.G} {dom dom' : Nat → Prop} {x : Tr.Nme}
theorem TrL.step (h : TrL w0 w tb g dom K) (hf : Fr [] w w') : TrL w0 w' tb g dom K := ⟨h.s.step hf, h.cn, h.lo, h.fr.trans hf⟩
theorem TrL.mono (h : TrL w0 w tb g dom K) (hK : K ≤ K') : TrL w0 w tb g dom K' := ⟨h.s.mono hK, h.cn, h.lo, h.fr⟩
theorem TrL.next (h : TrL w0 w tb g dom K) (hf : FrP (TrP tb g dom) w w') (hs : TrS w' tb g' dom' K') (hc : Tr.Cn g') (hp : ∀ k, TrP tb g' dom' k → TrP tb g dom k ∨ w.heap.size ≤ k) : TrL w0 w' tb g' dom' K' := by
  refine ⟨hs, hc, fun k hk => ?_, ?_⟩
  · rcases hp k hk with hk | hk
    · exact h.lo k hk
    · exact Nat.le_trans h.fr.size hk
  · exact ⟨hf.os.trans h.fr.os, hf.tape.trans h.fr.tape, hf.output.trans h.fr.output, Nat.le_trans h.fr.size hf.size, fun k hk hn => (hf.block k (by have := h.fr.size; omega) (fun hp => by have := h.lo k hp; omega)).trans (h.fr.block k hk hn)⟩
theorem TrL.domC (h : TrL w0 w tb g dom K) : dom g.root ∧ ∀ d x e, dom d → Tr.kid g d x = some e → dom e := ⟨h.s.rootD, h.s.closed⟩
theorem trP_same (hm : ∀ b, g'.mb b = g.mb b) (he : ∀ b, (g'.ent b).isSome = (g.ent b).isSome) {k : Nat} (h : TrP tb g' dom k) : TrP tb g dom k := by
  rcases h with h | h | ⟨b, h1, h2, h3⟩
  · exact .inl h
  · exact .inr (.inl h)
  · exact .inr (.inr ⟨b, h1, by rw [← he]; exact h2, by rw [← hm]; exact h3⟩)
end
/-- What New hands a law. -/
def NewL (w0 : World) (e : Ending) (w' : World) : Prop := ∃ tb n m, e = .returned (.pointer (some ⟨tb, 0, none⟩)) ∧ TrL w0 w' tb (Tr.G.new n m) (· = n) 0
theorem trl_new {w0 w : World} (hf : Fr [] w0 w) : Calls Tryd.prog 22 #[] w (NewL w0) :=
  (tr_New w).mono fun e w' ⟨tb, n, m, he, hs, h1, h2⟩ => ⟨tb, n, m, he, hs, Tr.Cn.new n m, fun k hk => Nat.le_trans hf.size (h2 k hk), hf.trans h1⟩
/-- A node made, and added or not. -/
def MakL (w0 : World) (tb : Nat) (g : Tr.G) (dom : Nat → Prop) (K : Nat) (s : List UInt8) (dir : Bool) (e : Ending) (w' : World) : Prop :=
  e = .returned (errV (Tr.addErr g s)) ∧ ∃ c o, ¬ dom c ∧ Option.isSome o = dir ∧
    ((Tr.addErr g s = 0 ∧ ∃ d x, Tr.spot g s = .at_ d x ∧ TrL w0 w' tb (Tr.addG (Tr.newN g c o) d x c) (fun b => dom b ∨ b = c) (K + 1)) ∨ (Tr.addErr g s ≠ 0 ∧ TrL w0 w' tb (Tr.newN g c o) (fun b => dom b ∨ b = c) K))
theorem MakL.of {w0 w w' : World} {tb K : Nat} {g : Tr.G} {dom : Nat → Prop} {s : List UInt8} {dir : Bool} {e : Ending} (h : TrL w0 w tb g dom K) (ha : MakA tb g dom K s dir w e w') : MakL w0 tb g dom K s dir e w' := by
  obtain ⟨he, hf, c, o, hc, ho, hno, hP, hr⟩ := ha
  obtain ⟨hr1, hcl⟩ := h.domC
  have hcn : Tr.Cn (Tr.newN g c o) := h.cn.newN hr1 hcl hno
  refine ⟨he, c, o, hno, ho, ?_⟩
  rcases hr with ⟨h0, d, x, hs, hS⟩ | ⟨h0, hS⟩
  · refine .inl ⟨h0, d, x, hs, h.next hf hS ?_ (fun k hk => hP k (trP_same (g := Tr.newN g c o) (g' := Tr.addG (Tr.newN g c o) d x c) (fun b => rfl) (fun b => by rw [Tr.addG_ent, Tr.setE_some]) hk))⟩
    have hne : c ≠ d := fun e => hno (e ▸ Tr.spot_dom hr1 hcl hs)
    exact hcn.addS (h.s.ok.newN hr1 hcl hno) (by rw [Tr.spot_newN hr1 hcl hno]; exact hs) (by rw [Tr.addErr_newN hr1 hcl hno]; exact h0) hne Tr.newN_leaf
  · exact .inr ⟨h0, h.next hf hS hcn hP⟩
theorem trl_DirF {w0 w : World} {tb K : Nat} {g : Tr.G} {dom : Nat → Prop} (h : TrL w0 w tb g dom K) (hK : K ≤ 100000) (s : ByteArray) :
    Calls Tryd.prog 17 #[.pointer (some ⟨tb, 0, none⟩), .string s] w (fun e w' => MakL w0 tb g dom K s.data.toList true e w' ∧ FrP (TrP tb g dom) w w') :=
  (tr_Dir w tb g dom K s h.s hK).mono fun _ _ ha => ⟨MakL.of h ha, ha.2.1⟩
theorem trl_Dir {w0 w : World} {tb K : Nat} {g : Tr.G} {dom : Nat → Prop} (h : TrL w0 w tb g dom K) (hK : K ≤ 100000) (s : ByteArray) :
    Calls Tryd.prog 17 #[.pointer (some ⟨tb, 0, none⟩), .string s] w (MakL w0 tb g dom K s.data.toList true) := (trl_DirF h hK s).mono fun _ _ h => h.1
theorem trl_FileF {w0 w : World} {tb K : Nat} {g : Tr.G} {dom : Nat → Prop} (h : TrL w0 w tb g dom K) (hK : K ≤ 100000) (s : ByteArray) :
    Calls Tryd.prog 16 #[.pointer (some ⟨tb, 0, none⟩), .string s] w (fun e w' => MakL w0 tb g dom K s.data.toList false e w' ∧ FrP (TrP tb g dom) w w') :=
  (tr_File w tb g dom K s h.s hK).mono fun _ _ ha => ⟨MakL.of h ha, ha.2.1⟩
theorem trl_File {w0 w : World} {tb K : Nat} {g : Tr.G} {dom : Nat → Prop} (h : TrL w0 w tb g dom K) (hK : K ≤ 100000) (s : ByteArray) :
    Calls Tryd.prog 16 #[.pointer (some ⟨tb, 0, none⟩), .string s] w (MakL w0 tb g dom K s.data.toList false) := (trl_FileF h hK s).mono fun _ _ h => h.1
/-- A file named once more, or not. -/
def LinkL (w0 : World) (tb : Nat) (g : Tr.G) (dom : Nat → Prop) (K : Nat) (old s : List UInt8) (e : Ending) (w' : World) : Prop :=
  e = .returned (errV (Tr.linkErr g old s)) ∧ ((Tr.linkErr g old s = 0 ∧ ∃ n d x, atV g old = .ok n ∧ g.ent n = none ∧ Tr.addErr g s = 0 ∧ Tr.spot g s = .at_ d x ∧ TrL w0 w' tb (Tr.addG g d x n) dom (K + 1)) ∨ (Tr.linkErr g old s ≠ 0 ∧ TrL w0 w' tb g dom K))
theorem trl_LinkF {w0 w : World} {tb K : Nat} {g : Tr.G} {dom : Nat → Prop} (h : TrL w0 w tb g dom K) (hK : K ≤ 100000) (old s : ByteArray) :
    Calls Tryd.prog 12 #[.pointer (some ⟨tb, 0, none⟩), .string old, .string s] w (fun e w' => LinkL w0 tb g dom K old.data.toList s.data.toList e w' ∧ FrP (TrP tb g dom) w w') :=
  (tr_Link w tb g dom K old s h.s hK).mono fun e w' ⟨he, hf, hr⟩ => ⟨⟨he, by
    rcases hr with ⟨h0, n, d, x, h1, h2, h3, h4, hS⟩ | ⟨h0, hfr⟩
    · refine .inl ⟨h0, n, d, x, h1, h2, h3, h4, h.next hf hS ?_ (fun k hk => .inl (trP_same (g := g) (g' := Tr.addG g d x n) (fun b => rfl) (fun b => by rw [Tr.addG_ent, Tr.setE_some]) hk))⟩
      refine h.cn.addS h.s.ok h4 h3 (fun e => ?_) (fun y => by unfold Tr.kid; rw [h2]; rfl)
      obtain ⟨P, -, -, hd⟩ := Tr.spot_at h4
      rw [← e, h2] at hd
      cases hd
    · exact .inr ⟨h0, h.step hfr⟩⟩, hf⟩
theorem trl_Link {w0 w : World} {tb K : Nat} {g : Tr.G} {dom : Nat → Prop} (h : TrL w0 w tb g dom K) (hK : K ≤ 100000) (old s : ByteArray) :
    Calls Tryd.prog 12 #[.pointer (some ⟨tb, 0, none⟩), .string old, .string s] w (LinkL w0 tb g dom K old.data.toList s.data.toList) := (trl_LinkF h hK old s).mono fun _ _ h => h.1
/-- A name struck, or not. -/
def DropL (w0 : World) (tb : Nat) (g : Tr.G) (dom : Nat → Prop) (K : Nat) (s : List UInt8) (e : Ending) (w' : World) : Prop :=
  e = .returned (errV (Tr.dropErr g s)) ∧ ((Tr.dropErr g s = 0 ∧ ∃ d x n, Tr.spot g s = .at_ d x ∧ Tr.kid g d x = some n ∧ Tr.Leaf g n ∧ TrL w0 w' tb (Tr.dropG g d x n) dom (K + 1)) ∨ (Tr.dropErr g s ≠ 0 ∧ TrL w0 w' tb g dom K))
theorem trl_DropF {w0 w : World} {tb K : Nat} {g : Tr.G} {dom : Nat → Prop} (h : TrL w0 w tb g dom K) (hK : K ≤ 100000) (s : ByteArray) :
    Calls Tryd.prog 13 #[.pointer (some ⟨tb, 0, none⟩), .string s] w (fun e w' => DropL w0 tb g dom K s.data.toList e w' ∧ FrP (TrP tb g dom) w w') :=
  (tr_drop w tb g dom K s h.s hK h.cn).mono fun e w' ⟨he, hf, hr⟩ => ⟨⟨he, by
    rcases hr with ⟨h0, d, x, n, h1, h2, h3, hS⟩ | ⟨h0, hfr⟩
    · refine .inl ⟨h0, d, x, n, h1, h2, h3, h.next hf hS ?_ (fun k hk => .inl (trP_same (g := g) (g' := Tr.dropG g d x n) (fun b => rfl) (fun b => (Tr.setE_some : ((Tr.setE g d x none).ent b).isSome = _)) hk))⟩
      obtain ⟨P, -, hfd, hd⟩ := Tr.spot_at h1
      exact h.cn.drop h.s.ok hfd hd h2 h3
    · exact .inr ⟨h0, h.step hfr⟩⟩, hf⟩
theorem trl_Drop {w0 w : World} {tb K : Nat} {g : Tr.G} {dom : Nat → Prop} (h : TrL w0 w tb g dom K) (hK : K ≤ 100000) (s : ByteArray) :
    Calls Tryd.prog 13 #[.pointer (some ⟨tb, 0, none⟩), .string s] w (DropL w0 tb g dom K s.data.toList) := (trl_DropF h hK s).mono fun _ _ h => h.1
/-- A move, or none. -/
def MoveL (w0 : World) (tb : Nat) (g : Tr.G) (dom : Nat → Prop) (K : Nat) (old tu : List UInt8) (e : Ending) (w' : World) : Prop :=
  e = .returned (errV (Tr.moveErr g old tu)) ∧
    ((Tr.moveErr g old tu = 0 ∧ ∃ P d x n P' d' x', Pa.parts old = (P ++ [x], 0) ∧ Pa.parts tu = (P' ++ [x'], 0) ∧ Tr.Mv g P d x n P' d' x' ∧ (∀ r c, Tr.fnd g n r = .ok c → P'.length + 1 + r.length ≤ 8) ∧ TrL w0 w' tb (Tr.movE g d x d' x' n) dom (K + 2)) ∨ (Tr.moveErr g old tu ≠ 0 ∧ TrL w0 w' tb g dom K))
theorem trl_MoveF {w0 w : World} {tb K : Nat} {g : Tr.G} {dom : Nat → Prop} (h : TrL w0 w tb g dom K) (hK : K ≤ 100000) (old tu : ByteArray) :
    Calls Tryd.prog 14 #[.pointer (some ⟨tb, 0, none⟩), .string old, .string tu] w (fun e w' => MoveL w0 tb g dom K old.data.toList tu.data.toList e w' ∧ FrP (TrP tb g dom) w w') :=
  (tr_move w tb g dom K old tu h.s hK).mono fun e w' ⟨he, hf, hr⟩ => ⟨⟨he, by
    rcases hr with ⟨h0, P, d, x, n, P', d', x', h1, h2, h3, h4, hS⟩ | ⟨h0, hfr⟩
    · exact .inl ⟨h0, P, d, x, n, P', d', x', h1, h2, h3, h4, h.next hf hS (h.cn.move h3 h.s.ok) (fun k hk => .inl (trP_same (g := g) (g' := Tr.movE g d x d' x' n) (fun b => rfl) (fun b => Tr.Mv.isD b) hk))⟩
    · exact .inr ⟨h0, h.step hfr⟩⟩, hf⟩
theorem trl_Move {w0 w : World} {tb K : Nat} {g : Tr.G} {dom : Nat → Prop} (h : TrL w0 w tb g dom K) (hK : K ≤ 100000) (old tu : ByteArray) :
    Calls Tryd.prog 14 #[.pointer (some ⟨tb, 0, none⟩), .string old, .string tu] w (MoveL w0 tb g dom K old.data.toList tu.data.toList) := (trl_MoveF h hK old tu).mono fun _ _ h => h.1
/-- How many names. -/
theorem trl_Names {w0 w : World} {tb K : Nat} {g : Tr.G} {dom : Nat → Prop} (h : TrL w0 w tb g dom K) (s : ByteArray) :
    Calls Tryd.prog 10 #[.pointer (some ⟨tb, 0, none⟩), .string s] w fun e w' => e = .returned (namesV g s.data.toList) ∧ TrL w0 w' tb g dom K ∧ Fr [] w w' :=
  (tr_Names w tb g dom K s h.s).mono fun e w' ⟨he, hf⟩ => ⟨he, h.step hf, hf⟩
end Go.Proofs.YtnglhfeialomgaaDoor
/- Texts put together. -/
namespace Go.Proofs.YtnglhfeialomgaaDoor
theorem mk_append (a b : List UInt8) : Pa.mk a ++ Pa.mk b = Pa.mk (a ++ b) := by
  apply ByteArray.ext
  simp [Pa.mk]
end Go.Proofs.YtnglhfeialomgaaDoor

/- What Walk gathers, in plain Lean. -/
namespace Go.Proofs.YtnglhfeialomgaaDoor
namespace Tr

/-- The text of what lies at a way. -/
def txtG (g : G) (q : List Nme) : List UInt8 := match fnd g g.root q with
  | .ok c => txt g q c
  | .err _ => []
theorem txtG_ok {g : G} {q : List Nme} {c : Nat} (h : fnd g g.root q = .ok c) : txtG g q = txt g q c := by unfold txtG; rw [h]
/-- What stands ahead of a name in a directory. -/
def atT (p : List Nme) : List UInt8 := p.flatMap (fun p => (47 : UInt8) :: p) ++ [47]
theorem atT_nil : atT [] = [47] := rfl
theorem shown_snoc (p : List Nme) (x : Nme) : Pa.shown (p ++ [x]) = atT p ++ x := by
  unfold Pa.shown atT
  rw [if_neg (by simp), List.flatMap_append]
  simp
theorem txtB_file (p : List Nme) (x : Nme) : txtB (p ++ [x]) false = atT p ++ x := by
  unfold txtB
  rw [shown_snoc]
  simp
theorem txtB_dir (p : List Nme) (x : Nme) : txtB (p ++ [x]) true = atT p ++ x ++ [47] := by
  unfold txtB
  rw [shown_snoc]
  simp
theorem atT_snoc (p : List Nme) (x : Nme) : atT (p ++ [x]) = atT p ++ x ++ [47] := by
  unfold atT
  rw [List.flatMap_append]
  simp
theorem atT_len {p : List Nme} (h : ∀ x ∈ p, Pa.IsName x) (hl : p.length ≤ 8) : (atT p).length ≤ 41 := by
  have := long_names h
  unfold atT
  rw [List.length_append, Pa.flat_len]
  simp
  omega
/-- What has been told ahead: ways, each once, none below p. -/
structure Good (g : G) (p : List Nme) (ps : List (List Nme)) : Prop where
  nodup : ps.Nodup
  ways : ∀ q ∈ ps, q ≠ [] ∧ ∃ c, fnd g g.root q = .ok c
  far : ∀ q ∈ ps, ∀ r, r ≠ [] → q ≠ p ++ r
/-- All ways below p, each once. -/
def Below (g : G) (p : List Nme) (n : Nat) (qs : List (List Nme)) : Prop := qs.Nodup ∧ ∀ q, q ∈ qs ↔ ∃ r c, r ≠ [] ∧ q = p ++ r ∧ fnd g n r = .ok c
/-- Those below the names that have come. -/
def Part (g : G) (p : List Nme) (n : Nat) (left : Nme → Bool) (qs : List (List Nme)) : Prop := qs.Nodup ∧ ∀ q, q ∈ qs ↔ ∃ x r c, left x = false ∧ q = p ++ x :: r ∧ fnd g n (x :: r) = .ok c
section
variable {g : G} {p : List Nme} {n : Nat} {left : Nme → Bool} {qs ps : List (List Nme)} {m : Nme → Option Nat}
theorem kid_some {x : Nme} {r : List Nme} {c : Nat} (h : fnd g n (x :: r) = .ok c) : ∃ e, kid g n x = some e ∧ fnd g e r = .ok c := by
  obtain ⟨a, m, e, h1, h2, h3, h4⟩ := fnd_front (p := []) h
  injection h1 with h1
  subst h1
  exact ⟨e, by rw [kid_of h2]; exact h3, h4⟩
theorem Part.start (hm : g.ent n = some m) : Part g p n (fun x => (m x).isSome) [] := by
  refine ⟨List.nodup_nil, fun q => ⟨fun h => (by cases h), ?_⟩⟩
  rintro ⟨x, r, c, hx, -, hf⟩
  obtain ⟨e, he, -⟩ := kid_some hf
  rw [kid_of hm] at he
  have hx : (m x).isSome = false := hx
  rw [he] at hx
  cases hx
theorem Part.step (h : Part g p n left qs) {x : Nme} {c : Nat} (hx : left x = true) (hk : kid g n x = some c) {q2 : List (List Nme)} (h2 : Below g (p ++ [x]) c q2) : Part g p n (fun z => left z && !(z == x)) (qs ++ [p ++ [x]] ++ q2) := by
  have e1 : ∀ r, p ++ x :: r = p ++ [x] ++ r := fun r => by simp
  constructor
  · rw [List.append_assoc, List.nodup_append]
    refine ⟨h.1, ?_, fun a ha b hb e => ?_⟩
    · refine List.nodup_cons.2 ⟨fun hm => ?_, h2.1⟩
      obtain ⟨r, c', hr, e, -⟩ := (h2.2 _).1 hm
      have := congrArg List.length e
      rw [List.length_append (bs := r)] at this
      exact hr (List.length_eq_zero_iff.1 (by omega))
    · subst e
      obtain ⟨y, r, c', hy, e, -⟩ := (h.2 a).1 ha
      have hxa : ∃ r', a = p ++ x :: r' := by
        rcases List.mem_cons.1 hb with hb | hb
        · exact ⟨[], hb⟩
        · obtain ⟨r', c', -, e', -⟩ := (h2.2 a).1 hb
          exact ⟨r', e'.trans (e1 r').symm⟩
      obtain ⟨r', e'⟩ := hxa
      rw [e] at e'
      have := List.append_cancel_left e'
      injection this with this _
      rw [this, hx] at hy
      cases hy
  · intro q
    rw [List.mem_append, List.mem_append, h.2, h2.2, List.mem_singleton]
    constructor
    · rintro ((⟨y, r, c', hy, e, hf⟩ | rfl) | ⟨r, c', hr, e, hf⟩)
      · exact ⟨y, r, c', by simp [hy], e, hf⟩
      · exact ⟨x, [], c, by simp, rfl, by rw [fnd_step hk]; rfl⟩
      · exact ⟨x, r, c', by simp, e.trans (e1 r).symm, by rw [fnd_step hk]; exact hf⟩
    · rintro ⟨y, r, c', hy, e, hf⟩
      simp only [Bool.and_eq_false_imp, Bool.not_eq_false'] at hy
      by_cases hl : left y = true
      · obtain rfl : y = x := by simpa using hy hl
        cases r with
        | nil => exact .inl (.inr e)
        | cons z r =>
          refine .inr ⟨z :: r, c', by simp, e.trans (e1 _), ?_⟩
          rw [fnd_step hk] at hf
          exact hf
      · exact .inl (.inl ⟨y, r, c', by simpa using hl, e, hf⟩)
theorem Below.file {c : Nat} (h : g.ent c = none) (p : List Nme) : Below g p c [] := by
  refine ⟨List.nodup_nil, fun q => ⟨fun h => (by cases h), ?_⟩⟩
  rintro ⟨r, c', hr, -, hf⟩
  cases r with
  | nil => exact absurd rfl hr
  | cons x r => rw [fnd_file h] at hf; cases hf
theorem Part.done (h : Part g p n left qs) (hl : ∀ x c, kid g n x = some c → left x = false) : Below g p n qs := by
  refine ⟨h.1, fun q => ?_⟩
  rw [h.2]
  constructor
  · rintro ⟨x, r, c, -, e, hf⟩
    exact ⟨x :: r, c, by simp, e, hf⟩
  · rintro ⟨r, c, hr, e, hf⟩
    cases r with
    | nil => exact absurd rfl hr
    | cons x r =>
      obtain ⟨e', he', -⟩ := kid_some hf
      exact ⟨x, r, c, hl x e' he', e, hf⟩
/-- What has been told, and what is told below p, are ways, each once. -/
theorem Good.all (h : Good g p ps) (hp : fnd g g.root p = .ok n) (hq : Part g p n left qs) : (ps ++ qs).Nodup ∧ ∀ q ∈ ps ++ qs, q ≠ [] ∧ ∃ c, fnd g g.root q = .ok c := by
  constructor
  · rw [List.nodup_append]
    refine ⟨h.nodup, hq.1, fun a ha b hb e => ?_⟩
    subst e
    obtain ⟨x, r, c, -, e, -⟩ := (hq.2 a).1 hb
    exact h.far a ha (x :: r) (by simp) e
  · intro q hm
    rcases List.mem_append.1 hm with hm | hm
    · exact h.ways q hm
    · obtain ⟨x, r, c, -, e, hf⟩ := (hq.2 q).1 hm
      rw [e]
      exact ⟨by simp, c, by rw [fnd_app_ok hp]; exact hf⟩
/-- Into a directory. -/
theorem Good.into (h : Good g p ps) (hp : fnd g g.root p = .ok n) (hq : Part g p n left qs) {x : Nme} {c : Nat} (hx : left x = true) (hk : kid g n x = some c) : Good g (p ++ [x]) (ps ++ (qs ++ [p ++ [x]])) := by
  obtain ⟨h1, h2⟩ := h.all hp hq
  have e1 : ∀ r, p ++ [x] ++ r = p ++ x :: r := fun r => by simp
  have hf : fnd g g.root (p ++ [x]) = .ok c := by rw [fnd_app_ok hp, fnd_step hk]; rfl
  rw [← List.append_assoc]
  refine ⟨?_, fun q hm => ?_, fun q hm r hr e => ?_⟩
  · rw [List.nodup_append]
    refine ⟨h1, by simp, fun a ha b hb e => ?_⟩
    simp only [List.mem_singleton] at hb
    rw [← e] at hb
    rw [hb] at ha
    rcases List.mem_append.1 ha with ha | ha
    · exact h.far _ ha [x] (by simp) rfl
    · obtain ⟨y, r, c', hy, e, -⟩ := (hq.2 _).1 ha
      have := List.append_cancel_left e
      injection this with this _
      rw [← this, hx] at hy
      cases hy
  · rcases List.mem_append.1 hm with hm | hm
    · exact h2 q hm
    · simp only [List.mem_singleton] at hm
      rw [hm]
      exact ⟨by simp, c, hf⟩
  · rw [e1] at e
    rcases List.mem_append.1 hm with hm | hm
    · rcases List.mem_append.1 hm with hm | hm
      · exact h.far q hm (x :: r) (by simp) e
      · obtain ⟨y, r', c', hy, e', -⟩ := (hq.2 _).1 hm
        rw [e'] at e
        have := List.append_cancel_left e
        injection this with this _
        rw [this, hx] at hy
        cases hy
    · simp only [List.mem_singleton] at hm
      rw [hm] at e
      have := List.append_cancel_left e
      injection this with _ this
      exact hr this.symm
/-- All that Walk gathers are the texts that WalkIs speaks of. -/
theorem walkIs_of (hO : OK g) {l : List (List UInt8)} (h : Below g [] g.root qs) (hl : l.Pairwise (· < ·)) (hp : l.Perm (qs.map (txtG g))) : WalkIs g l := by
  refine ⟨hl, fun s => ?_⟩
  rw [hp.mem_iff, List.mem_map]
  constructor
  · rintro ⟨q, hq, rfl⟩
    obtain ⟨r, c, hr, e, hf⟩ := (h.2 q).1 hq
    rw [List.nil_append] at e
    subst e
    exact ⟨q, c, hr, hf, txtG_ok hf⟩
  · rintro ⟨q, c, hq, hf, rfl⟩
    exact ⟨q, (h.2 q).2 ⟨q, c, hq, rfl, hf⟩, txtG_ok hf⟩
theorem told_nodup (hO : OK g) (h : Below g [] g.root qs) : (qs.map (txtG g)).Nodup := by
  refine List.pairwise_map.2 (h.1.imp_of_mem fun {p q} hp hq hne e => hne ?_)
  obtain ⟨r, c, -, e1, hf⟩ := (h.2 p).1 hp
  obtain ⟨r', c', -, e2, hf'⟩ := (h.2 q).1 hq
  rw [List.nil_append] at e1 e2
  subst e1 e2
  rw [txtG_ok hf, txtG_ok hf'] at e
  have h1 := parts_txt (fnd_names hO p _ c hf) (hO.short p c hf) (g.ent c).isSome
  have h2 := parts_txt (fnd_names hO q _ c' hf') (hO.short q c' hf') (g.ent c').isSome
  rw [show txtB p (g.ent c).isSome = txt g p c from rfl, e, show txt g q c' = txtB q (g.ent c').isSome from rfl, h2] at h1
  exact (Prod.mk.inj h1).1.symm
end
end Tr
end Go.Proofs.YtnglhfeialomgaaDoor
