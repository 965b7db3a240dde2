/- The contracts of package sparse's functions that only read: Size, Blocks, Read; New. -/
import Derived.Test.YtmgalnkcpolafaaDoorSpHeap
namespace Go.Proofs.YtmgalnkcpolafaaDoor
open Go.RowKit

/-- What a call hands back that makes a row of integers. -/
def MkRow (xs : List Int) (w : World) (e : Ending) (w' : World) : Prop := ∃ v, e = .returned v ∧ Own w' w.heap.size 3 v xs ∧ Fr [] w w'
theorem sp_new (w : World) : Calls Tryd.prog 23 #[] w fun e w' => e = .returned (.pointer (some ⟨w.heap.size + 1, 0, none⟩)) ∧ SpF (w.heap.size ≤ ·) w' (w.heap.size + 1) 0 Sp.new ∧ Fr [] w w' := by
  have hmm := @run_makeMap Tryd.prog
  go_enter Tryd.func23, Tryd.ntmps23
  go_wp2
  go_ret
  have h2 := heap_alloc_new (w.alloc (.map #[] 0)) (.cells #[.int .i64 0, .map (some w.heap.size)] 77)
  rw [show (w.alloc (.map #[] 0)).heap.size = w.heap.size + 1 by simp] at h2
  have hz : ∀ i, nth Sp.new.blk i ≠ 1 := fun i => by rw [show nth Sp.new.blk i = 0 from Sp.nth_replicate 16 i]; decide
  refine ⟨rfl, ⟨w.heap.size, 0, fun _ => 0, Nat.le_refl _, ⟨Nat.le_succ _, Nat.le_refl _, by omega, by simp; omega, h2, fun i _ h1 => absurd h1 (hz i), fun i j _ _ h1 => absurd h1 (hz i)⟩, ?_⟩, ((Fr.refl _ _).alloc _).alloc _⟩
  have h3 := (PMap.made w Tryd.prog 3).fr ((Fr.refl [] _).alloc (.cells #[.int .i64 0, .map (some w.heap.size)] 77)) (by simp)
  rw [show spM Sp.new.blk (fun _ => 0) = fun _ => none from by
    funext x
    unfold spM
    rw [if_neg (fun h => hz _ h.2)]]
  exact h3
theorem sp_Size (w : World) (P : Nat → Prop) (b N : Nat) (f : Sp.F) (h : SpF P w b N f) :
    Calls Tryd.prog 30 #[.pointer (some ⟨b, 0, none⟩)] w fun e w' => e = .returned (.int .i64 f.size) ∧ w = w' := by
  obtain ⟨mb, n, o, _, h1, _⟩ := h
  obtain ⟨c0, c1⟩ := file_cells h1.file
  clear h1
  go_enter Tryd.func30, Tryd.ntmps30
  go_wp2
  go_ret
  exact ⟨rfl, rfl⟩
theorem sp_Blocks (w : World) (P : Nat → Prop) (b N : Nat) (f : Sp.F) (h : SpF P w b N f) :
    Calls Tryd.prog 32 #[.pointer (some ⟨b, 0, none⟩)] w (MkRow (Sp.blocks f.blk 16) w) := by
  obtain ⟨mb, n, o, _, h1, h2⟩ := h
  have HC := Lib.hid (fun W (hW : Fr [] w W) => file_cells (hW.get h1.file (by simp)))
  have HP := Lib.hid (fun W (hW : Fr [] w W) => h2.fr hW (by simp))
  have HL := Lib.hid (fun k => Sp.blocks_len f.blk k)
  clear h1 h2
  go_enter Tryd.func32, Tryd.ntmps32
  go_wp2
  go_loopw [3, 5] (fun v i wr => ∃ k : Nat, k ≤ 16 ∧ i = .int .i64 k ∧ Hid (Own wr w.heap.size 3 v (Sp.blocks f.blk k)) ∧ Hid (Fr [] w wr)) (fun _ i _ => 16 - (intOf i).toNat)
  case atStart => exact ⟨0, Nat.zero_le _, rfl, Own.nil _ _ _, Fr.refl _ _⟩
  case round =>
    obtain ⟨k, hk, rfl, hO, hF⟩ := hrel
    by_cases hlt : k < 16
    · obtain ⟨c0, c1⟩ := HC.out wr hF.out
      have HPM := Lib.hid (HP.out wr hF.out)
      have i1 : (k : Int) < 16 := by omega
      have hI := Lib.hid (show I64 (k : Int) from ⟨by omega, by omega⟩)
      have hsz := hF.out.size
      have HST := Lib.hid (Sp.blocks_step f.blk k)
      by_cases hb : nth f.blk k = 1
      · have HV := Lib.hid (show ptrO (spM f.blk o k) = .pointer (some ⟨o k, 0, none⟩) from by rw [spM_yes o hlt hb]; rfl)
        have HS2 := Lib.hid (show Sp.blocks f.blk (k + 1) = Sp.blocks f.blk k ++ [(k : Int)] from by rw [HST.out, if_pos hb])
        clear hb HST
        go_wp2_with (first
          | (at_lookup; refine wpList_lookup_ptr rfl _ _ rfl HPM.out Tryd.underlying3 Tryd.underlying75 (zero_ptr _) rfl _ rfl hI.out _ HV.out ?_)
          | (at_builtin; refine wpList_push_int Tryd.intT rfl _ _ rfl w.heap.size _ _ rfl hO.out rfl (by have := HL.out k; omega) hsz ?_; intro v' w5 h1 _ h3; have H5 := Lib.hid (hF.out.below_step h3 (Nat.le_refl _)); have HO5 := Lib.hid h1; clear h1 h3))
        go_roundw
        case rel => exact ⟨k + 1, by omega, by go_num, by show Own _ _ _ _ _; rw [HS2.out]; exact HO5.out, H5⟩
        case measure => simp [intOf]; omega
      · have HV := Lib.hid (show ptrO (spM f.blk o k) = .pointer none from by rw [spM_no o hb]; rfl)
        have HS2 := Lib.hid (show Sp.blocks f.blk (k + 1) = Sp.blocks f.blk k from by rw [HST.out, if_neg hb])
        clear hb HST
        go_wp2_with (first
          | (at_lookup; refine wpList_lookup_ptr rfl _ _ rfl HPM.out Tryd.underlying3 Tryd.underlying75 (zero_ptr _) rfl _ rfl hI.out _ HV.out ?_))
        go_roundw
        case rel => exact ⟨k + 1, by omega, by go_num, by show Own _ _ _ _ _; rw [HS2.out]; exact hO.out, hF⟩
        case measure => simp [intOf]; omega
    · have hk16 : k = 16 := by omega
      subst hk16
      go_wp2
      go_ret
      exact ⟨_, rfl, hO.out, hF.out⟩
end Go.Proofs.YtmgalnkcpolafaaDoor
