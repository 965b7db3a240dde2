/- Trees of directories in memory. -/
import Derived.Test.YtnglhfeialomgaaDoorTrWalkP
import Derived.Test.YtnglhfeialomgaaDoorSMap
import Derived.Test.YtnglhfeialomgaaDoorFrP
import Derived.Test.YtnglhfeialomgaaDoorCommon0
namespace Go.Proofs.YtnglhfeialomgaaDoor
open Go.RowKit

/-- A node's block; a directory's map has at most K entries. -/
def NodeIn (w : World) (g : Tr.G) (K b : Nat) : Prop := match g.ent b with
  | none => w.heap[b]? = some (.cells #[.map none, .int .i64 (g.nms b)] 51 (0, 0))
  | some m => w.heap[b]? = some (.cells #[.map (some (g.mb b)), .int .i64 (g.nms b)] 51 (0, 0)) ∧ SMap Tryd.prog 9 w (g.mb b) K m
/-- The tree's own blocks. -/
def TrP (tb : Nat) (g : Tr.G) (dom : Nat → Prop) (k : Nat) : Prop := k = tb ∨ dom k ∨ ∃ b, dom b ∧ (g.ent b).isSome = true ∧ g.mb b = k
/-- Block tb holds a tree; its nodes are those of dom. -/
structure TrS (w : World) (tb : Nat) (g : Tr.G) (dom : Nat → Prop) (K : Nat) : Prop where
  top : w.heap[tb]? = some (.cells #[.pointer (some ⟨g.root, 0, none⟩), .int .i64 g.many] 54 (0, 0))
  node : ∀ b, dom b → NodeIn w g K b
  rootD : dom g.root
  closed : ∀ d x c, dom d → Tr.kid g d x = some c → dom c
  mbs : ∀ b b', dom b → dom b' → (g.ent b).isSome = true → (g.ent b').isSome = true → g.mb b = g.mb b' → b = b'
  ok : Tr.OK g
  many : 0 ≤ g.many ∧ g.many ≤ 24
  nb : ∀ b, dom b → -(K : Int) ≤ g.nms b ∧ g.nms b ≤ K
section
variable {w w' : World} {tb K b : Nat} {g : Tr.G} {dom : Nat → Prop}
theorem NodeIn.file (h : NodeIn w g K b) (he : g.ent b = none) : w.heap[b]? = some (.cells #[.map none, .int .i64 (g.nms b)] 51 (0, 0)) := by
  unfold NodeIn at h
  rw [he] at h
  exact h
theorem NodeIn.dir (h : NodeIn w g K b) {m : Tr.Nme → Option Nat} (he : g.ent b = some m) : w.heap[b]? = some (.cells #[.map (some (g.mb b)), .int .i64 (g.nms b)] 51 (0, 0)) ∧ SMap Tryd.prog 9 w (g.mb b) K m := by
  unfold NodeIn at h
  rw [he] at h
  exact h
theorem NodeIn.obj (h : NodeIn w g K b) : ∃ v, w.heap[b]? = some (.cells #[v, .int .i64 (g.nms b)] 51 (0, 0)) := by
  cases he : g.ent b with
  | none => exact ⟨_, h.file he⟩
  | some m => exact ⟨_, (h.dir he).1⟩
theorem NodeIn.keep (h : NodeIn w g K b) (hb : w'.heap[b]? = w.heap[b]?) (hm : (g.ent b).isSome = true → w'.heap[g.mb b]? = w.heap[g.mb b]?) : NodeIn w' g K b := by
  unfold NodeIn at *
  cases he : g.ent b with
  | none => rw [he] at h; exact hb.trans h
  | some m =>
    rw [he] at h
    exact ⟨hb.trans h.1, h.2.keep (hm (by rw [he]; rfl))⟩
theorem TrS.lt (h : TrS w tb g dom K) {k : Nat} (hk : TrP tb g dom k) : k < w.heap.size := by
  rcases hk with rfl | hk | ⟨b, hb, hs, rfl⟩
  · exact lt_of_heap h.top
  · obtain ⟨v, hv⟩ := (h.node k hk).obj
    exact lt_of_heap hv
  · obtain ⟨m, hm⟩ := Option.isSome_iff_exists.1 hs
    exact ((h.node b hb).dir hm).2.lt
theorem TrS.frP {P : Nat → Prop} (h : TrS w tb g dom K) (hf : FrP P w w') (hn : ∀ k, TrP tb g dom k → ¬ P k) : TrS w' tb g dom K := by
  have hk : ∀ k, TrP tb g dom k → w'.heap[k]? = w.heap[k]? := fun k hk => hf.block k (h.lt hk) (hn k hk)
  exact ⟨(hk tb (.inl rfl)).trans h.top, fun b hb => (h.node b hb).keep (hk b (.inr (.inl hb))) (fun hs => hk _ (.inr (.inr ⟨b, hb, hs, rfl⟩))), h.rootD, h.closed, h.mbs, h.ok, h.many, h.nb⟩
theorem TrS.step (h : TrS w tb g dom K) (hf : Fr [] w w') : TrS w' tb g dom K := h.frP (P := fun _ => False) ((FrP.refl _ w).step hf (by simp)) (fun _ _ hp => hp)
/-- What is found is one of the nodes. -/
theorem TrS.found (h : TrS w tb g dom K) : ∀ (p : List Tr.Nme) (n c : Nat), dom n → Tr.fnd g n p = .ok c → dom c
  | [], n, c, hn, hf => by injection hf with hf; rw [← hf]; exact hn
  | x :: r, n, c, hn, hf => by
    obtain ⟨d, m, e, hd, hm, hx, hr⟩ := Tr.fnd_front (p := []) hf
    injection hd with hd
    subst hd
    exact h.found r e c (h.closed _ x e hn (by rw [Tr.kid_of hm]; exact hx)) hr
end
/-- What find hands back. -/
def fndV : Tr.Rs → Value
  | .ok c => .tuple #[.pointer (some ⟨c, 0, none⟩), .nilIface]
  | .err e => .tuple #[.pointer none, errV e]
end Go.Proofs.YtnglhfeialomgaaDoor
