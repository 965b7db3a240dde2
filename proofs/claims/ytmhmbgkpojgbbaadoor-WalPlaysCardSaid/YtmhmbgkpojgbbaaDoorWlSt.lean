/- What the laws on package wal hold: a disk beside rows. -/
import Derived.Test.YtmhmbgkpojgbbaaDoorWlHeap
import Derived.Test.YtmhmbgkpojgbbaaDoorRowSt
namespace Go.Proofs.YtmhmbgkpojgbbaaDoor
open Go.RowKit

/-- The disk d (its block b) in the world wr of a call that began at w; its blocks are those of P. -/
structure WlS (w wr : World) (P : Nat → Prop) (b : Nat) (d : Wl.D) : Prop where
  file : WlF P wr b d
  hP : ∀ k, P k → w.heap.size ≤ k ∧ k < wr.heap.size
  fr : Fr [] w wr
section
variable {w wr w' : World} {P P' : Nat → Prop} {b : Nat} {d d' : Wl.D} {v : Value} {xs : List Int}
theorem WlS.step (h : WlS w wr P b d) (hf : Fr [] wr w') : WlS w w' P b d := ⟨h.file.keep hf, fun k hk => ⟨(h.hP k hk).1, Nat.lt_of_lt_of_le (h.hP k hk).2 hf.size⟩, h.fr.trans hf⟩
theorem WlS.ok (h : WlS w wr P b d) : Wl.OK d := h.file.1
theorem WlS.turn (h : WlS w wr P b d) {e : Ending} (ha : WlAns P b v d' wr e w') : e = .returned v ∧ WlS w w' (Nx P wr w') b d' ∧ FrP P wr w' := by
  obtain ⟨h1, h2, h3⟩ := ha
  exact ⟨h1, ⟨h2.tight, fun k hk => ⟨hk.1.elim (fun hp => (h.hP k hp).1) (fun hp => Nat.le_trans h.fr.size hp), hk.2⟩, h3.fr h.fr (fun k hk => (h.hP k hk).1)⟩, h3⟩
theorem RowO.of (h : WlS w wr P b d) {e : Ending} (hn : NewRow xs wr e w') : ∃ v, e = .returned v ∧ RowO P w' v xs ∧ Fr [] wr w' := RowO.ofR (fun k hk => (h.hP k hk).2) hn
end
theorem WlS.start {w w' : World} {b : Nat} {d : Wl.D} (h : WlF (w.heap.size ≤ ·) w' b d) (hf : Fr [] w w') : WlS w w' (fun k => w.heap.size ≤ k ∧ k < w'.heap.size) b d := ⟨h.tight, fun _ hk => hk, hf⟩
/-- A disk made in a call that began later. -/
theorem WlS.made {w wr w' : World} {b : Nat} {d : Wl.D} (h0 : Fr [] w wr) (h : WlF (wr.heap.size ≤ ·) w' b d) (hf : Fr [] wr w') : WlS w w' (fun k => wr.heap.size ≤ k ∧ k < w'.heap.size) b d :=
  ⟨h.tight, fun _ hk => ⟨Nat.le_trans h0.size hk.1, hk.2⟩, h0.trans hf⟩
/-- The call hands back a disk in new memory. -/
def WlMade (d : Wl.D) (w : World) (e : Ending) (w' : World) : Prop := ∃ b P, e = .returned (.pointer (some ⟨b, 0, none⟩)) ∧ WlS w w' P b d
end Go.Proofs.YtmhmbgkpojgbbaaDoor
