/- What the laws on package undo hold: a disk beside rows. -/
import Derived.Test.YtmhmbgkpojgbbabDoorUnHeap
import Derived.Test.YtmhmbgkpojgbbabDoorRowSt
namespace Go.Proofs.YtmhmbgkpojgbbabDoor
open Go.RowKit

/-- The disk d (its block b) in the world wr of a call that began at w; its blocks are those of P. -/
structure UnS (w wr : World) (P : Nat → Prop) (b : Nat) (d : Un.D) : Prop where
  file : UnF P wr b d
  hP : ∀ k, P k → w.heap.size ≤ k ∧ k < wr.heap.size
  fr : Fr [] w wr
section
variable {w wr w' : World} {P P' : Nat → Prop} {b : Nat} {d d' : Un.D} {v : Value} {xs : List Int}
theorem UnS.step (h : UnS w wr P b d) (hf : Fr [] wr w') : UnS w w' P b d := ⟨h.file.keep hf, fun k hk => ⟨(h.hP k hk).1, Nat.lt_of_lt_of_le (h.hP k hk).2 hf.size⟩, h.fr.trans hf⟩
theorem UnS.ok (h : UnS w wr P b d) : Un.OK d := h.file.1
theorem UnS.turn (h : UnS w wr P b d) {e : Ending} (ha : UnAns P b v d' wr e w') : e = .returned v ∧ UnS w w' (Nx P wr w') b d' ∧ FrP P wr w' := by
  obtain ⟨h1, h2, h3⟩ := ha
  exact ⟨h1, ⟨h2.tight, fun k hk => ⟨hk.1.elim (fun hp => (h.hP k hp).1) (fun hp => Nat.le_trans h.fr.size hp), hk.2⟩, h3.fr h.fr (fun k hk => (h.hP k hk).1)⟩, h3⟩
theorem RowO.ofU (h : UnS w wr P b d) {e : Ending} (hn : NewRow xs wr e w') : ∃ v, e = .returned v ∧ RowO P w' v xs ∧ Fr [] wr w' := RowO.ofR (fun k hk => (h.hP k hk).2) hn
end
theorem UnS.start {w w' : World} {b : Nat} {d : Un.D} (h : UnF (w.heap.size ≤ ·) w' b d) (hf : Fr [] w w') : UnS w w' (fun k => w.heap.size ≤ k ∧ k < w'.heap.size) b d := ⟨h.tight, fun _ hk => hk, hf⟩
/-- A disk made in a call that began later. -/
theorem UnS.made {w wr w' : World} {b : Nat} {d : Un.D} (h0 : Fr [] w wr) (h : UnF (wr.heap.size ≤ ·) w' b d) (hf : Fr [] wr w') : UnS w w' (fun k => wr.heap.size ≤ k ∧ k < w'.heap.size) b d :=
  ⟨h.tight, fun _ hk => ⟨Nat.le_trans h0.size hk.1, hk.2⟩, h0.trans hf⟩
/-- The call hands back a disk in new memory. -/
def UnMade (d : Un.D) (w : World) (e : Ending) (w' : World) : Prop := ∃ b P, e = .returned (.pointer (some ⟨b, 0, none⟩)) ∧ UnS w w' P b d
/-- Two disks, apart. -/
structure Un2 (w wr : World) (P Q : Nat → Prop) (b c : Nat) (d x : Un.D) : Prop where
  s : UnS w wr P b d
  o : UnS w wr Q c x
  apart : ∀ k, P k → ¬ Q k
theorem UnS.other {w wr w' : World} {P Q : Nat → Prop} {c : Nat} {x : Un.D} (h : UnS w wr Q c x) (hf : FrP P wr w') (hd : ∀ k, Q k → ¬ P k) (h0 : Fr [] w w') : UnS w w' Q c x :=
  ⟨h.file.frP hf hd, fun k hk => ⟨(h.hP k hk).1, Nat.lt_of_lt_of_le (h.hP k hk).2 hf.size⟩, h0⟩
section
variable {w wr w' : World} {P Q : Nat → Prop} {b c : Nat} {d d' x x' : Un.D}
theorem Un2.step (h : Un2 w wr P Q b c d x) (hf : Fr [] wr w') : Un2 w w' P Q b c d x := ⟨h.s.step hf, h.o.step hf, h.apart⟩
theorem Un2.turn1 (h : Un2 w wr P Q b c d x) {v : Value} {e : Ending} (ha : UnAns P b v d' wr e w') : e = .returned v ∧ FrP P wr w' ∧ ∃ P', Un2 w w' P' Q b c d' x := by
  obtain ⟨h1, h2, h3⟩ := h.s.turn ha
  exact ⟨h1, h3, _, h2, h.o.other h3 (fun k hk hp => h.apart k hp hk) h2.fr, fun k hk hq => hk.1.elim (fun hp => h.apart k hp hq) (fun hs => by have := (h.o.hP k hq).2; omega)⟩
theorem Un2.turn2 (h : Un2 w wr P Q b c d x) {v : Value} {e : Ending} (ha : UnAns Q c v x' wr e w') : e = .returned v ∧ FrP Q wr w' ∧ ∃ Q', Un2 w w' P Q' b c d x' := by
  obtain ⟨h1, h2, h3⟩ := h.o.turn ha
  exact ⟨h1, h3, _, h.s.other h3 h.apart h2.fr, h2, fun k hp hk => hk.1.elim (fun hq => h.apart k hp hq) (fun hs => by have := (h.s.hP k hp).2; omega)⟩
end
end Go.Proofs.YtmhmbgkpojgbbabDoor
