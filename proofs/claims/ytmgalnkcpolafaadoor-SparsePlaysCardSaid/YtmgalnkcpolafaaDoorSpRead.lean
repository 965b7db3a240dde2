/- The contract of package sparse's Read. -/
import Derived.Test.YtmgalnkcpolafaaDoorSpWalk
namespace Go.Proofs.YtmgalnkcpolafaaDoor
open Go.RowKit

/-- What is read from a on, m bytes at most. -/
def Sp.readL (f : Sp.F) (a m : Nat) : List Int := Sp.cutOut f.byt a (min (a + m) f.size - a)
theorem Sp.cutOut_snoc (byt : List Int) (a n : Nat) (h : a + n < byt.length) : Sp.cutOut byt a (n + 1) = Sp.cutOut byt a n ++ [nth byt (a + n)] := by
  unfold Sp.cutOut
  rw [List.take_succ_eq_append_getElem (by rw [List.length_drop]; omega)]
  congr 2
  rw [List.getElem_drop]
  simp [nth, List.getD, h]
/-- What Read hands back. -/
def ReadAns (xs : List Int) (w : World) (e : Ending) (w' : World) : Prop := ∃ v, e = .returned (.tuple #[v, .nilIface]) ∧ Own w' w.heap.size 3 v xs ∧ Fr [] w w'
theorem sp_Read_no (w : World) (b : Nat) (a m : Int) (h : ¬ ((0 ≤ a ∧ a ≤ 64) ∧ (0 ≤ m ∧ m ≤ 64))) :
    Calls Tryd.prog 29 #[.pointer (some ⟨b, 0, none⟩), .int .i64 a, .int .i64 m] w fun e w' => e = .returned (.tuple #[.slice none 0 0, .iface 69 (.int .i64 1)]) ∧ w = w' := by
  by_cases ha : 0 ≤ a ∧ a ≤ 64
  · have e1 : decide (0 ≤ a ∧ a ≤ 64) = true := decide_eq_true ha
    have e2 : decide (0 ≤ m ∧ m ≤ 64) = false := decide_eq_false (fun hm => h ⟨ha, hm⟩)
    clear ha h
    go_enter Tryd.func29, Tryd.ntmps29
    go_wp2_with (first
      | (go_at_call 36; (with_reducible refine useC (within_is a _ _ true _ e1) ?_); rintro e w' ⟨rfl, rfl⟩)
      | (go_at_call 36; (with_reducible refine useC (within_is m _ _ false _ e2) ?_); rintro e w' ⟨rfl, rfl⟩))
    go_ret2
    exact ⟨rfl, rfl⟩
  · have e1 : decide (0 ≤ a ∧ a ≤ 64) = false := decide_eq_false ha
    clear ha h
    go_enter Tryd.func29, Tryd.ntmps29
    go_wp2_with (go_at_call 36; (with_reducible refine useC (within_is a _ _ false _ e1) ?_); rintro e w' ⟨rfl, rfl⟩)
    go_ret2
    exact ⟨rfl, rfl⟩
set_option maxHeartbeats 1000000 in
theorem sp_Read_ok (w : World) (P : Nat → Prop) (b N : Nat) (f : Sp.F) (h : SpF P w b N f) (hO : Sp.OK f) (a m : Nat) (ha : a ≤ 64) (hm : m ≤ 64) :
    Calls Tryd.prog 29 #[.pointer (some ⟨b, 0, none⟩), .int .i64 a, .int .i64 m] w (ReadAns (Sp.readL f a m) w) := by
  obtain ⟨mb, n, o, _, h1, h2⟩ := h
  have HC := Lib.hid (fun W (hW : Fr [] w W) => file_cells (hW.get h1.file (by simp)))
  have HP := Lib.hid (fun W (hW : Fr [] w W) => h2.fr hW (by simp))
  have HB := Lib.hid (fun W (hW : Fr [] w W) i j (hi : i < 16) (hj : j < 4) (hb : nth f.blk i = 1) => (h1.keep hW).byte hO.lenB hi hj hb)
  have HO := Lib.hid hO
  have hs := hO.size
  have e1 : decide ((0 : Int) ≤ a ∧ (a : Int) ≤ 64) = true := decide_eq_true (by omega)
  have e2 : decide ((0 : Int) ≤ m ∧ (m : Int) ≤ 64) = true := decide_eq_true (by omega)
  have HL := Lib.hid (fun k (hk : a + k < 64) => Sp.cutOut_snoc f.byt a k (by rw [hO.lenB]; exact hk))
  have HLE := Lib.hid (fun k (hk : a + k ≤ 64) => Sp.cutOut_len f.byt a k (by rw [hO.lenB]; exact hk))
  clear h1 h2 hO
  go_enter Tryd.func29, Tryd.ntmps29
  go_wp2_with (first
    | (go_at_call 36; (with_reducible refine useC (within_is a _ _ true _ e1) ?_); rintro e w ⟨rfl, rfl⟩)
    | (go_at_call 36; (with_reducible refine useC (within_is m _ _ true _ e2) ?_); rintro e w ⟨rfl, rfl⟩))
  go_loopw [8, 9] (fun v p wr => ∃ k : Nat, a + k ≤ 64 ∧ (k = 0 ∨ a + k ≤ min (a + m) f.size) ∧ p = .int .i64 (a + k : Nat) ∧ Hid (Own wr w.heap.size 3 v (Sp.cutOut f.byt a k)) ∧ Hid (Fr [] w wr)) (fun _ p _ => 64 - (intOf p).toNat)
  case atStart => exact ⟨0, ha, .inl rfl, rfl, Own.nil _ _ _, Fr.refl _ _⟩
  case round =>
    obtain ⟨k, hk, hk2, rfl, hOw, hF⟩ := hrel
    obtain ⟨c0, c1⟩ := HC.out wr hF.out
    by_cases hlt : a + k < min (a + m) f.size
    · have HPM := Lib.hid (HP.out wr hF.out)
      have hsz := hF.out.size
      obtain ⟨i, hi⟩ : ∃ i : Nat, i = (a + k) / 4 := ⟨_, rfl⟩
      obtain ⟨j, hj⟩ : ∃ j : Nat, j = (a + k) % 4 := ⟨_, rfl⟩
      have hi16 : i < 16 := by omega
      have hj4 : j < 4 := by omega
      have HIJ := Lib.hid (show 4 * i + j = a + k from by omega)
      have q1 : (((a + k : Nat) : Int)) / 4 = (i : Int) := by omega
      have q2 : (((a + k : Nat) : Int)) % 4 = (j : Int) := by omega
      have hI := Lib.hid (show I64 (i : Int) from ⟨by omega, by omega⟩)
      have HST := Lib.hid (HL.out k (by omega))
      have i1 : (((a + k : Nat) : Int)) < (a : Int) + m := by omega
      have i2 : (((a + k : Nat) : Int)) < f.size := by omega
      have HLN := Lib.hid (show (Sp.cutOut f.byt a k).length < 1000000 from by rw [HLE.out k hk]; omega)
      generalize hp : a + k = p at *
      have HPA := Lib.hid hp
      clear hp hi hj
      by_cases hb : nth f.blk i = 1
      · have HV := Lib.hid (show ptrO (spM f.blk o i) = .pointer (some ⟨o i, 0, none⟩) from by rw [spM_yes o hi16 hb]; rfl)
        have hcell := HB.out wr hF.out i j hi16 hj4 hb
        rw [HIJ.out] at hcell
        clear hb
        generalize nth f.byt p = y at *
        go_wp2_with (first
          | (at_lookup; refine wpList_lookup_ptr rfl _ _ rfl HPM.out Tryd.underlying3 Tryd.underlying75 (zero_ptr _) rfl _ rfl hI.out _ HV.out ?_)
          | (at_builtin; refine wpList_push_int Tryd.intT rfl _ _ rfl w.heap.size _ _ rfl hOw.out rfl HLN.out hsz ?_; intro v' w5 h1 _ h3; have H5 := Lib.hid (hF.out.below_step h3 (Nat.le_refl _)); have HO5 := Lib.hid h1; clear h1 h3))
        all_goals
          go_roundw
          case rel => exact ⟨k + 1, by have := HPA.out; omega, .inr (by have := HPA.out; omega), by have := HPA.out; subst this; go_num, by show Own _ _ _ _ _; rw [HST.out]; exact HO5.out, H5⟩
          case measure => simp [intOf]; omega
      · have HV := Lib.hid (show ptrO (spM f.blk o i) = .pointer none from by rw [spM_no o hb]; rfl)
        have hy : nth f.byt p = 0 := by
          have h4 := HIJ.out
          refine HO.out.zero p (.inl ?_)
          rw [show p / 4 = i by omega]
          exact (HO.out.bit i).resolve_right hb
        rw [hy] at HST
        clear hb hy
        go_wp2_with (first
          | (at_lookup; refine wpList_lookup_ptr rfl _ _ rfl HPM.out Tryd.underlying3 Tryd.underlying75 (zero_ptr _) rfl _ rfl hI.out _ HV.out ?_)
          | (at_builtin; refine wpList_push_int Tryd.intT rfl _ _ rfl w.heap.size _ _ rfl hOw.out rfl HLN.out hsz ?_; intro v' w5 h1 _ h3; have H5 := Lib.hid (hF.out.below_step h3 (Nat.le_refl _)); have HO5 := Lib.hid h1; clear h1 h3))
        all_goals
          go_roundw
          case rel => exact ⟨k + 1, by have := HPA.out; omega, .inr (by have := HPA.out; omega), by have := HPA.out; subst this; go_num, by show Own _ _ _ _ _; rw [HST.out]; exact HO5.out, H5⟩
          case measure => simp [intOf]; omega
    · have hend := Lib.hid (show Own wr w.heap.size 3 u8 (Sp.readL f a m) from by
        have e : min (a + m) f.size - a = k := by omega
        unfold Sp.readL
        rw [e]
        exact hOw.out)
      have hge : ¬ (((a + k : Nat) : Int)) < (a : Int) + m ∨ ¬ (((a + k : Nat) : Int)) < f.size := by omega
      clear hk2 hlt hOw
      generalize a + k = p at *
      rcases hge with hge | hge
      all_goals
        go_wp2
        all_goals
          go_ret2
          exact ⟨_, rfl, hend.out, hF.out⟩
end Go.Proofs.YtmgalnkcpolafaaDoor
