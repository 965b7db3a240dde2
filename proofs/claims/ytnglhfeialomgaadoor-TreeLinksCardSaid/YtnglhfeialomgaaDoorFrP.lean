/- A frame by a predicate: nothing has turned but blocks of which P holds, and what is new. No program in sight. -/
import Derived.Test.YtnglhfeialomgaaDoorBase
namespace Go.Proofs.YtnglhfeialomgaaDoor
open Go.RowKit

/-- From w to w' nothing has turned but blocks of which P holds, and what is new. -/
structure FrP (P : Nat → Prop) (w w' : World) : Prop where
  os : w'.os = w.os
  tape : w'.tape = w.tape
  output : w'.output = w.output
  size : w.heap.size ≤ w'.heap.size
  block : ∀ k, k < w.heap.size → ¬ P k → w'.heap[k]? = w.heap[k]?
theorem FrP.refl (P : Nat → Prop) (w : World) : FrP P w w := ⟨rfl, rfl, rfl, Nat.le_refl _, fun _ _ _ => rfl⟩
theorem FrP.step {P : Nat → Prop} {S : List Nat} {a b c : World} (h : FrP P a b) (k : Fr S b c) (hS : ∀ x ∈ S, P x ∨ a.heap.size ≤ x) : FrP P a c :=
  ⟨k.os.trans h.os, k.tape.trans h.tape, k.output.trans h.output, Nat.le_trans h.size k.size, fun i hi hn =>
    (k.block i (Nat.lt_of_lt_of_le hi h.size) (fun hx => (hS i hx).elim hn (fun h' => absurd hi (Nat.not_lt.2 h')))).trans (h.block i hi hn)⟩
theorem FrP.trans {P Q : Nat → Prop} {a b c : World} (h : FrP P a b) (k : FrP Q b c) (hQ : ∀ x, Q x → P x ∨ a.heap.size ≤ x) : FrP P a c :=
  ⟨k.os.trans h.os, k.tape.trans h.tape, k.output.trans h.output, Nat.le_trans h.size k.size, fun i hi hn =>
    (k.block i (Nat.lt_of_lt_of_le hi h.size) (fun hx => (hQ i hx).elim hn (fun h' => absurd hi (Nat.not_lt.2 h')))).trans (h.block i hi hn)⟩
theorem FrP.below {B : Nat} {w w' : World} (h : FrP (B ≤ ·) w w') (hB : B ≤ w.heap.size) : Below B w w' := ⟨h.os, h.tape, h.output, h.size, fun k hk => h.block k (by omega) (by omega)⟩
theorem FrP.fr {P : Nat → Prop} {a w w' : World} (h0 : Fr [] a w) (h : FrP P w w') (hP : ∀ k, P k → a.heap.size ≤ k) : Fr [] a w' :=
  ⟨h.os.trans h0.os, h.tape.trans h0.tape, h.output.trans h0.output, Nat.le_trans h0.size h.size, fun k hk _ => (h.block k (Nat.lt_of_lt_of_le hk h0.size) (fun hp => by have := hP k hp; omega)).trans (h0.block k hk (by simp))⟩
theorem FrP.cell {P : Nat → Prop} {w w' : World} (h : FrP P w w') {p : Addr} {v : Value} (hk : w.cell? p = some v) (hn : ¬ P p.block) : w'.cell? p = some v :=
  (World.cell?_of_block (h.block p.block (block_lt_of_cell hk) hn)).trans hk
theorem Sl.frP {P : Nat → Prop} {w w' : World} {v : Value} {g : Nat} {xs : List Int} (h : Sl w v g xs) (hf : FrP P w w') (hg : xs = [] ∨ ¬ P g) : Sl w' v g xs := by
  rcases h with h | ⟨o, c, h0, h1, h2, h3⟩
  · exact .inl h
  · rcases hg with rfl | hg
    · exact .inr ⟨o, c, h0, h1, h2, fun i hi => absurd hi (by simp)⟩
    · exact .inr ⟨o, c, h0, h1, h2, fun i hi => hf.cell (h3 i hi) hg⟩
/-- Parts of which P held at w, and new ones. -/
def OrNew (P : Nat → Prop) (w : World) (k : Nat) : Prop := P k ∨ w.heap.size ≤ k
end Go.Proofs.YtnglhfeialomgaaDoor
