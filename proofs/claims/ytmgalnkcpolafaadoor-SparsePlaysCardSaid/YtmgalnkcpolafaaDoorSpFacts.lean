/- What is read of a file, what its blocks are. -/
import Derived.Test.YtmgalnkcpolafaaDoorSpRead
namespace Go.Proofs.YtmgalnkcpolafaaDoor
open Go.RowKit

namespace Sp
theorem readL_len {f : F} (h : OK f) : (readL f 0 64).length = f.size := by
  unfold readL
  rw [cutOut_len _ _ _ (by have := h.size; have := h.lenB; omega)]
  have := h.size
  omega
theorem readL_nth {f : F} (h : OK f) {i : Nat} (hi : i < f.size) : nth (readL f 0 64) i = nth f.byt i := by
  unfold readL
  rw [cutOut_nth _ _ _ _ (by have := h.size; omega), Nat.zero_add]
theorem back {f : F} (h : OK f) {a : Nat} {l : List Int} (hl : a + l.length ≤ 64) {i : Nat} (hi : i < (wr f a l).size) :
    nth (readL (wr f a l) 0 64) i = if a ≤ i ∧ i < a + l.length then nth l (i - a) else if i < f.size then nth (readL f 0 64) i else 0 := by
  rw [readL_nth (wr_ok h hl) hi]
  show nth (wrB f.byt a l l.length) i = _
  rw [wrB_nth _ _ _ _ _ (by rw [h.lenB]; exact hl)]
  split
  · rfl
  · split
    · rename_i h1; rw [readL_nth h h1]
    · exact h.zero i (.inr (by omega))
theorem wr_size (f : F) (a : Nat) (l : List Int) : f.size ≤ (wr f a l).size := by unfold wr; simp only; split <;> omega
end Sp
namespace Sp
theorem hole {f : F} (h : OK f) {i : Nat} (hi : i < f.size) (hn : nth (readL f 0 64) i ≠ 0) : hasB (blocks f.blk 16) ((i / 4 : Nat) : Int) = true := by
  unfold hasB
  rw [List.contains_iff_mem, blocks_mem]
  have := h.size
  refine ⟨i / 4, by omega, ?_, rfl⟩
  rw [readL_nth h hi] at hn
  exact (h.bit _).resolve_left (fun h0 => hn (h.zero i (.inl h0)))
theorem block_at {f : F} (h : OK f) {k : Nat} (hk : k < (blocks f.blk 16).length) : ∃ i : Nat, nth (blocks f.blk 16) k = i ∧ i < 16 ∧ 4 * i < f.size := by
  have hm : nth (blocks f.blk 16) k ∈ blocks f.blk 16 := by simp [nth, List.getD, hk]
  obtain ⟨i, h1, h2, h3⟩ := blocks_mem.1 hm
  exact ⟨i, h3, h1, h.low i h2⟩
theorem block_rise (f : F) {k : Nat} (h0 : 0 < k) (hk : k < (blocks f.blk 16).length) : nth (blocks f.blk 16) (k - 1) < nth (blocks f.blk 16) k := by
  have := List.pairwise_iff_getElem.1 (blocks_rise f.blk 16) (k - 1) k (by omega) hk (by omega)
  simpa [nth, List.getD, hk, show k - 1 < (blocks f.blk 16).length by omega] using this
end Sp
theorem errV_zero : errV 0 = .nilIface := rfl
end Go.Proofs.YtmgalnkcpolafaaDoor
