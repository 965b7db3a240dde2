/- A disk of package soft in a law. -/
import Derived.Test.YtcldaaebncclmaaDoorSoWalk5
namespace Go.Proofs.YtcldaaebncclmaaDoor
open Go.RowKit

theorem So.OK.mono {L : List Int} {k m : Nat} (h : So.OK L k) (hm : k ≤ m) : So.OK L m := ⟨h.shp, h.safe, h.cov, h.small.mono hm⟩
theorem So.OK.bd {L : List Int} {k : Nat} (h : So.OK L k) (hk : k ≤ 1000) : ∀ j : Nat, j < 8 → nth L (20 + j) ≤ 1000000 ∧ -1000000 ≤ nth L (20 + j) := fun j hj => by have := h.small j hj; omega
/-- A disk in a law. -/
structure SoSt (w wr : World) (b : Nat) (L : List Int) (k : Nat) : Prop where
  disk : SoD wr b L
  ok : So.OK L k
  fr : Fr [] w wr
  ge : w.heap.size ≤ b
theorem SoSt.fr' {w wr w' : World} {b : Nat} {L : List Int} {k : Nat} (h : SoSt w wr b L k) (hf : Fr [] wr w') : SoSt w w' b L k := ⟨h.disk.fr hf (by simp), h.ok, h.fr.trans hf, h.ge⟩
theorem SoSt.mono {w wr : World} {b : Nat} {L : List Int} {k m : Nat} (h : SoSt w wr b L k) (hm : k ≤ m) : SoSt w wr b L m := ⟨h.disk, h.ok.mono hm, h.fr, h.ge⟩
theorem SoSt.ans {w wr w' : World} {b : Nat} {L L' : List Int} {k m : Nat} {v : Value} {e : Ending} (h : SoSt w wr b L k) (ha : SoAns b v L' wr e w') (hO : So.OK L' m) : SoSt w w' b L' m :=
  ⟨ha.2.1, hO, h.fr.step ha.2.2 (fun x hx => .inr (by simp only [List.mem_singleton] at hx; subst hx; exact h.ge)), h.ge⟩

end Go.Proofs.YtcldaaebncclmaaDoor
