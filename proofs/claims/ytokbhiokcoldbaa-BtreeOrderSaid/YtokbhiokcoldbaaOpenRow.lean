/- An argument of type []int, opened. -/
import Derived.Test.YtokbhiokcoldbaaClose
import Derived.Lib.SmallJoins
import Derived.Deep.Slices
namespace Go.Proofs.Ytokbhiokcoldbaa
open Go.ChangeShapes Go.WideShapes Go.ChangeAt Go.RowKit Go.WideElems Go.Deep Go.Joins
theorem cellsIntL : Try.prog.cellsOf 3 = 1 := by kernel_rfl
theorem spot_noneL {w : World} {a : Addr} {x : Value} (h : w.cell? a = some x) : a = ⟨a.block, a.off, none⟩ := by
  have hsp : a.spot = none := World.cell?_spot h
  obtain ⟨bl, of, sp⟩ := a
  simp only at hsp
  subst hsp
  rfl
section
variable {H : Type} {enc : TypeId × Value → H} {W : World}
theorem open_list {fuel : Nat} {v : Value} {x : DataW H × List MemPlace} (h : DataW.trod enc Try.prog W 0 (fun _ => true) true fuel 22 [v] = some x) : ∃ g xs, Sl W v g xs ∧ (g < W.heap.size ∨ xs = []) := by
  have key : ∃ g xs, Sl W v g xs := by
    rcases open_ints Try.underlying22 Try.underlying3 cellsIntL h with ⟨hcs, _⟩ | ⟨a, len, cap, zs, hcs, _, hl, hm, hz, _, hc, _⟩
    · simp only [List.cons.injEq, and_true] at hcs
      subst hcs
      exact ⟨0, [], .inl ⟨rfl, _, _, rfl⟩⟩
    · simp only [List.cons.injEq, and_true] at hcs
      subst hcs
      have hz' : zs.length = cap := by simpa using hz
      by_cases h0 : len = 0
      · subst h0; exact ⟨0, [], .inl ⟨rfl, _, _, rfl⟩⟩
      · have hc0 := hc 0 (by omega)
        rw [Addr.add_zero'] at hc0
        have hsp := spot_noneL hc0
        have hlen : (zs.take len).length = len := by rw [List.length_take]; omega
        refine ⟨a.block, zs.take len, .inr ⟨a.off, cap, by rw [hlen, ← hsp], by rw [hlen]; exact hl, hm, fun i hi => ?_⟩⟩
        rw [hlen] at hi
        have := hc i (by omega)
        rw [hsp, Addr.add_lit] at this
        rw [this]
        simp [nth, List.getD, hi]
  obtain ⟨g, xs, hs⟩ := key
  refine ⟨g, xs, hs, ?_⟩
  rcases hs with ⟨h1, _⟩ | ⟨o, c, _, _, _, h3⟩
  · exact .inr h1
  · by_cases h0 : xs.length = 0
    · exact .inr (List.eq_nil_of_length_eq_zero h0)
    · exact .inl (block_lt_of_cell (h3 0 (by omega)))
end
end Go.Proofs.Ytokbhiokcoldbaa
