/- Rows that came in, in a later world. No program in sight. -/
import Derived.Test.YtokbhiokcoldbaaDoorBase
namespace Go.Proofs.YtokbhiokcoldbaaDoor
open Go.RowKit
theorem RwF.wider {B C : Nat} {w : World} {A : Option Addr} {g o : Nat} {ls : List (List Int)} (h : RwF B w A g o ls) (hB : B ≤ C) : RwF C w A g o ls :=
  ⟨fun h0 => ⟨(h.1 h0).1, Nat.lt_of_lt_of_le (h.1 h0).2 hB⟩, fun i hi => by
    obtain ⟨u, k, h1, h2, h3, h4⟩ := h.2 i hi
    exact ⟨u, k, h1, h2.imp_left (fun hk => Nat.lt_of_lt_of_le hk hB), h3, h4⟩⟩
theorem Rw.mono1 {w w' : World} {v : Value} {ls : List (List Int)} (h : Rw w.heap.size w v ls) (hf : Fr [] w w') : Rw w'.heap.size w' v ls := by
  obtain ⟨A, g, o, c, h1, h2, h3⟩ := h.below hf.below
  exact ⟨A, g, o, c, h1, h2, h3.wider hf.size⟩
end Go.Proofs.YtokbhiokcoldbaaDoor
