/- An argument of type [][]string, opened. -/
import Derived.Test.YtnglhfeialomgaaDoorClose
import Derived.Test.YtnglhfeialomgaaDoorTrGrown
import Derived.Deep.Strs
import Derived.Deep.Slices
namespace Go.Proofs.YtnglhfeialomgaaDoor
open Go.ChangeShapes Go.WideShapes Go.ChangeAt Go.RowKit Go.WideElems Go.Deep
theorem cellsStrL : Tryd.prog.cellsOf 30 = 1 := by kernel_rfl
theorem cellsStr : Tryd.prog.cellsOf 9 = 1 := by kernel_rfl
theorem mk_data (s : ByteArray) : Pa.mk s.data.toList = s := by
  apply ByteArray.ext
  simp [Pa.mk]
theorem spot_noneT {w : World} {a : Addr} {x : Value} (h : w.cell? a = some x) : a = ⟨a.block, a.off, none⟩ := by
  have hsp : a.spot = none := World.cell?_spot h
  obtain ⟨bl, of, sp⟩ := a
  simp only at hsp
  subst hsp
  rfl
section
variable {H : Type} {enc : TypeId × Value → H} {W : World}
theorem open_text {fuel : Nat} {v : Value} {x : DataW H × List MemPlace} (h : DataW.trod enc Tryd.prog W 0 (fun _ => true) true fuel 30 [v] = some x) : ∃ g l, SlR strE W v g l := by
  rcases open_strs Tryd.underlying30 Tryd.underlying9 cellsStr h with ⟨hcs, _⟩ | ⟨a, len, cap, m, Sx, hcs, _, hl, hm, hmm, _, hc⟩
  · simp only [List.cons.injEq, and_true] at hcs
    subst hcs
    exact ⟨0, [], .inl ⟨rfl, _, _, rfl⟩⟩
  · simp only [List.cons.injEq, and_true] at hcs
    subst hcs
    have hm' : m = cap := by simpa using hmm
    by_cases h0 : len = 0
    · subst h0; exact ⟨0, [], .inl ⟨rfl, _, _, rfl⟩⟩
    · have hc0 := (hc 0 (by omega)).1
      rw [Addr.add_zero'] at hc0
      have hsp := spot_noneT hc0
      have hlen : ((List.range len).map fun j => (Sx j).data.toList).length = len := by simp
      refine ⟨a.block, (List.range len).map fun j => (Sx j).data.toList, .inr ⟨a.off, cap, by rw [hlen, ← hsp], by rw [hlen]; exact hl, hm, fun i hi r hr => ?_⟩⟩
      rw [hlen] at hi
      have hr : r < 1 := hr
      obtain rfl : r = 0 := by omega
      have := (hc i (by omega)).1
      rw [hsp, Addr.add_lit] at this
      rw [show a.off + i * strE.k + 0 = a.off + i from by show a.off + i * 1 + 0 = _; omega, this]
      simp [strE, mk_data]
theorem open_texts {a0 : Option Addr} {len cap fuel : Nat} {x : DataW H × List MemPlace} (h : DataW.trod enc Tryd.prog W 0 (fun _ => true) true fuel 22 [.slice a0 len cap] = some x) : ∃ ls, RwT W (.slice a0 len cap) ls := by
  rcases open_slice1 Tryd.underlying22 cellsStrL h with ⟨hcs, _⟩ | ⟨a, len', cap', m, n, V, D, Pl, hcs, _, hl, hm, hmm, _, hx⟩
  · simp only [List.cons.injEq, Value.slice.injEq, and_true] at hcs
    obtain ⟨rfl, rfl, rfl⟩ := hcs
    exact ⟨[], none, 0, 0, 0, rfl, by simp, by simp, by simp⟩
  · simp only [List.cons.injEq, Value.slice.injEq, and_true] at hcs
    obtain ⟨rfl, rfl, rfl⟩ := hcs
    have hm' : m = cap := by simpa using hmm
    have hrow : ∀ i, i < len → ∃ gl : Nat × List (List UInt8), SlR strE W (V i) gl.1 gl.2 := fun i hi => by
      obtain ⟨g, l, hs⟩ := open_text (hx i (by omega)).2
      exact ⟨(g, l), hs⟩
    obtain ⟨GL, hGL⟩ := choose_lt hrow
    have hlen : ((List.range len).map fun i => (GL i).2).length = len := by simp
    refine ⟨(List.range len).map fun i => (GL i).2, some a, a.block, a.off, cap, by rw [hlen], by rw [hlen]; unfold maxLen at hm; omega, fun h0 => ?_, fun i hi => ?_⟩
    · rw [hlen] at h0
      have hc := (hx 0 (by omega)).1
      rw [Addr.add_zero'] at hc
      exact congrArg some (spot_noneT hc)
    · rw [hlen] at hi
      have hc := (hx i (by omega)).1
      have hc0 := (hx 0 (by omega)).1
      rw [Addr.add_zero'] at hc0
      rw [spot_noneT hc0, Addr.add_lit] at hc
      refine ⟨V i, (GL i).1, hc, ?_⟩
      simpa using hGL i hi
end
end Go.Proofs.YtnglhfeialomgaaDoor
