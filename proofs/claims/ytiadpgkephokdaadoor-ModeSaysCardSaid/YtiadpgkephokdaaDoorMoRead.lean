/- The contract of mode.Read. -/
import Derived.Test.YtiadpgkephokdaaDoorMoLaw0
import Derived.Lib.OthersKept
namespace Go.Proofs.YtiadpgkephokdaaDoor
open Go.RowKit

namespace Mo
/-- A text's byte, by its place; may it stand there; the number of the first k bytes. -/
def byt (s : ByteArray) (k : Nat) : UInt8 := s.data.toList.getD k 0
def okAt (s : ByteArray) (k : Nat) : Bool := byt s k == lett k || byt s k == 45
def rdV (s : ByteArray) : Nat → Nat
  | 0 => 0
  | k + 1 => 2 * rdV s k + (if byt s k = lett k then 1 else 0)
def okTo (s : ByteArray) (k : Nat) : Bool := (List.range k).all (okAt s)
def rd (s : ByteArray) : Int × Int := if s.size = 9 then (if okTo s 9 = true then ((rdV s 9 : Nat), 0) else (0, 2)) else (0, 3)
theorem byt_at (s : ByteArray) (k : Nat) (h : k < s.size) : s[k]'h = byt s k := by
  unfold byt
  rw [List.getD_eq_getElem?_getD, List.getElem?_eq_getElem (by simpa using h)]
  rfl
theorem rdV_lt (s : ByteArray) : ∀ k, rdV s k < 2 ^ k
  | 0 => by simp [rdV]
  | k + 1 => by
    have := rdV_lt s k
    unfold rdV
    rw [Nat.pow_succ]
    split <;> omega
theorem okTo_step (s : ByteArray) (k : Nat) : okTo s (k + 1) = (okTo s k && okAt s k) := by
  unfold okTo
  rw [List.range_succ, List.all_append]
  simp
theorem okTo_cut (s : ByteArray) (k n : Nat) (hk : k < n) (h : okAt s k = false) : okTo s n = false := by
  unfold okTo
  rw [List.all_eq_false]
  exact ⟨k, by simpa using hk, by rw [h]; decide⟩
theorem lett_lt {k : Nat} (h : k < 9) : (lett k).toNat < 128 ∧ lett k ≠ 45 := by
  match k, h with
  | 0, _ => decide
  | 1, _ => decide
  | 2, _ => decide
  | 3, _ => decide
  | 4, _ => decide
  | 5, _ => decide
  | 6, _ => decide
  | 7, _ => decide
  | 8, _ => decide
end Mo
theorem fr_iterAt (w : World) (B : Nat) (s : ByteArray) (p : Nat) : Fr [B] w (w.iterAt B s p) :=
  ⟨rfl, rfl, rfl, by rw [Lib.iterAt_size]; exact Nat.le_refl _, fun k _ hn => Lib.iterAt_other w B k s p (by simpa using hn)⟩
set_option maxRecDepth 100000 in
set_option maxHeartbeats 4000000 in
theorem mo_Read_9 (w : World) (s : ByteArray) (h9 : s.size = 9) :
    Calls Tryd.prog 14 #[.string s] w fun e w' => e = .returned (.tuple #[.int .i64 (Mo.rd s).1, errV (Mo.rd s).2]) ∧ Fr [] w w' := by
  have H9 := Lib.hid h9
  have q9 : ((s.size : Int) != 9) = false := by rw [h9]; rfl
  clear h9
  go_enter Tryd.func14, Tryd.ntmps14
  go_wp2
  have HI : Hid ((w.iter s 0).heap[w.heap.size]? = some (.stringIter s 0)) := World.iter_heap w s 0
  have HF : Hid (Fr [] w (w.iter s 0)) := (Fr.refl [] w).alloc _
  revert HI
  revert HF
  generalize (w.iter s 0) = w1
  intro HF HI
  generalize hB : w.heap.size = B at *
  have HB := Lib.hid hB
  clear hB
  go_loopw [4] (fun v wr => ∃ k : Nat, k ≤ 9 ∧ v = .int .i64 ((Mo.rdV s k : Nat) : Int) ∧ Hid (wr.heap[B]? = some (.stringIter s k)) ∧ Hid (Mo.okTo s k = true) ∧ Hid (Fr [] w wr)) (fun _ wr => s.size - wr.iterPos B)
  case atStart => exact ⟨0, Nat.zero_le _, rfl, HI, rfl, HF⟩
  case round =>
    obtain ⟨k, hk, rfl, hI, hO, hF⟩ := hrel
    by_cases hlt : k < 9
    · have hks : k < s.size := by rw [H9.out]; exact hlt
      have hks2 : (k : Int) < s.size := by omega
      have hk0 : (0 : Int) ≤ k := by omega
      have hk9 : (k : Int) < 9 := by omega
      have hv := Mo.rdV_lt s k
      have hv2 : Mo.rdV s k < 512 := Nat.lt_of_lt_of_le hv (Nat.le_trans (Nat.pow_le_pow_right (by decide) hk) (by decide))
      have hv3 : ((Mo.rdV s k : Nat) : Int) ≤ 511 := by omega
      have hbt := Mo.byt_at s k hks
      have hll := Mo.lett_at hlt
      obtain ⟨ll1, ll2⟩ := Mo.lett_lt hlt
      have HOS := Lib.hid (Mo.okTo_step s k)
      have HRV : Hid (Mo.rdV s (k + 1) = 2 * Mo.rdV s k + (if Mo.byt s k = Mo.lett k then 1 else 0)) := rfl
      have HIT := Lib.hid (fun p => Lib.iterAt_heap wr B s k p hI.out)
      have HFT := Lib.hid (fun p => hF.out.step (fr_iterAt wr B s p) (fun x hx => .inr (by simp only [List.mem_singleton] at hx; subst hx; rw [HB.out]; exact Nat.le_refl _)))
      have HPO : Hid (∀ p, (wr.iterAt B s p).iterPos B = p) := fun p => by unfold World.iterPos; rw [HIT.out p]
      have HP0 : Hid (wr.iterPos B = k) := by show _ = _; unfold World.iterPos; rw [hI.out]
      by_cases h1 : Mo.byt s k = Mo.lett k
      · have hnx := fun ty => Lib.run_next_ascii_at (P := Tryd.prog) wr B s k ty hI.out hks (by rw [hbt, h1]; exact ll1)
        have hT : (((s[k]'hks).toNat : Int) == (((⟨#[114, 119, 120, 114, 119, 120, 114, 119, 120]⟩ : ByteArray)[k]'hlt).toNat : Int)) = true := by rw [hbt, hll, h1]; simp
        have HR2 := Lib.hid (show Mo.rdV s (k + 1) = 2 * Mo.rdV s k + 1 from by rw [HRV.out, if_pos h1])
        have HO2 := Lib.hid (show Mo.okTo s (k + 1) = true from by rw [HOS.out, hO.out]; unfold Mo.okAt; rw [h1]; simp)
        clear hbt hll h1 ll1 ll2 hv hv2 HRV HOS
        go_wp2
        go_roundw
        case rel => exact ⟨k + 1, by omega, by rw [HR2.out]; congr 1; omega, HIT.out _, HO2, HFT.out _⟩
        case measure => rw [HPO.out, HP0.out]; omega
      · have hT : (((s[k]'hks).toNat : Int) == (((⟨#[114, 119, 120, 114, 119, 120, 114, 119, 120]⟩ : ByteArray)[k]'hlt).toNat : Int)) = false := by
          rw [hbt, hll]
          simp only [beq_eq_false_iff_ne, ne_eq]
          intro e
          exact h1 (UInt8.toNat_inj.1 (by omega))
        by_cases h2 : Mo.byt s k = 45
        · have hnx := fun ty => Lib.run_next_ascii_at (P := Tryd.prog) wr B s k ty hI.out hks (by rw [hbt, h2]; decide)
          have hD : (((s[k]'hks).toNat : Int) == 45) = true := by rw [hbt, h2]; rfl
          have HR2 := Lib.hid (show Mo.rdV s (k + 1) = 2 * Mo.rdV s k + 0 from by rw [HRV.out, if_neg h1])
          have HO2 := Lib.hid (show Mo.okTo s (k + 1) = true from by rw [HOS.out, hO.out]; unfold Mo.okAt; rw [h2]; simp)
          clear hbt hll h1 h2 ll1 ll2 hv hv2 HRV HOS
          go_wp2
          go_roundw
          case rel => exact ⟨k + 1, by omega, by rw [HR2.out]; congr 1; omega, HIT.out _, HO2, HFT.out _⟩
          case measure => rw [HPO.out, HP0.out]; omega
        · have hnx := fun ty => Lib.run_next_any_at (P := Tryd.prog) wr B s k ty hI.out hks
          have hD : (((s[k]'hks).toNat : Int) == 45) = false := by
            rw [hbt]
            simp only [beq_eq_false_iff_ne, ne_eq]
            intro e
            exact h2 (UInt8.toNat_inj.1 (show (Mo.byt s k).toNat = 45 by omega))
          have HE := Lib.hid (show Mo.rd s = (0, 2) from by
            unfold Mo.rd
            rw [if_pos H9.out, if_neg]
            rw [Mo.okTo_cut s k 9 hlt (by unfold Mo.okAt; simp [h1, h2])]
            decide)
          clear hbt hll h1 h2 ll1 ll2 hv hv2 HRV HOS
          go_wp2
          go_ret2
          exact ⟨by rw [HE.out]; rfl, HFT.out _⟩
    · have hk' : k = 9 := by omega
      subst hk'
      have hnx := fun ty => Lib.run_next_end_at (P := Tryd.prog) wr B s 9 ty hI.out (by rw [H9.out]; decide)
      have HE := Lib.hid (show Mo.rd s = (((Mo.rdV s 9 : Nat) : Int), 0) from by unfold Mo.rd; rw [if_pos H9.out, if_pos hO.out])
      go_wp2
      go_ret2
      exact ⟨by rw [HE.out]; rfl, hF.out⟩
theorem mo_Read_other (w : World) (s : ByteArray) (h9 : s.size ≠ 9) :
    Calls Tryd.prog 14 #[.string s] w fun e w' => e = .returned (.tuple #[.int .i64 0, .iface 61 (.int .i64 3)]) ∧ Fr [] w w' := by
  have q9 : ((s.size : Int) != 9) = true := by simp; omega
  clear h9
  go_enter Tryd.func14, Tryd.ntmps14
  go_wp2
  go_ret2
  exact ⟨rfl, Fr.refl _ _⟩
theorem mo_Read (w : World) (s : ByteArray) :
    Calls Tryd.prog 14 #[.string s] w fun e w' => e = .returned (.tuple #[.int .i64 (Mo.rd s).1, errV (Mo.rd s).2]) ∧ Fr [] w w' := by
  by_cases h9 : s.size = 9
  · exact mo_Read_9 w s h9
  · have e : Mo.rd s = (0, 3) := by unfold Mo.rd; rw [if_neg h9]
    rw [e]
    exact mo_Read_other w s h9
end Go.Proofs.YtiadpgkephokdaaDoor
