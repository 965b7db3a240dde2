/- The walk of FdsLeast: whatever came in, the answer is true. -/
import Derived.Test.YtmgalnkcpolafaaDoorFdLaw
import Derived.Test.YtmgalnkcpolafaaDoorCIn2
import Derived.Test.YtmgalnkcpolafaaDoorErr2
namespace Go.Proofs.YtmgalnkcpolafaaDoor
open Go.RowKit

theorem leastIs (t : Fd.T) (k : Nat) (h8 : k < 8) (hn : Fd.nthO t.sl k = none) (hj : ∀ j, j < k → Fd.nthO t.sl j ≠ none) : Fd.least t = some k :=
  Fd.leastFrom_eq t.sl k hn 8 0 (Nat.zero_le _) (by omega) (fun j _ h => hj j h)
theorem fdsLeast_walk (w : World) (v : Value) (ls : List (List Int)) (size : Int) (hR : Rw w.heap.size w v ls) (hE : ErrType w) (hpos : 0 < w.heap.size) :
    Calls Tryd.prog 3 #[v, .int .i64 size] w (OkT w) := by
  have HR := Lib.hid hR
  have HE := Lib.hid hE
  clear hR hE
  go_enter Tryd.func3, Tryd.ntmps3
  go_wp2_with fail
  (refine useC (fd_fact _) ?_); rintro e w0 ⟨rfl, hF0⟩
  have HF0 := Lib.hid hF0
  clear hF0
  go_wp2_with fail
  (refine useC (fd_opened _ w.heap.size v ls (HR.out.below HF0.out.below) HF0.out.size) ?_); rintro e w1 ⟨b, t, rfl, hT1, hO, hB1, hs1⟩
  have HT1 := Lib.hid hT1
  have HO := Lib.hid hO
  have HB1 := Lib.hid (HF0.out.below.trans hB1)
  have hs1' := Nat.le_trans HF0.out.size hs1
  clear hT1 hO hB1 HR HF0 hs1
  go_wp2_with fail
  go_loop [7] (fun i => ∃ k : Nat, k ≤ 8 ∧ i = .int .i64 k ∧ Hid (∀ j, j < k → Fd.nthO t.sl j ≠ none)) (fun i => 8 - (intOf i).toNat)
  case atStart => exact ⟨0, Nat.zero_le _, rfl, fun j hj => absurd hj (Nat.not_lt_zero _)⟩
  case round =>
    obtain ⟨k, hk, rfl, hno⟩ := hrel
    by_cases hgo : k < 8 ∧ Fd.nthO t.sl k ≠ none
    · obtain ⟨hlt, hne⟩ := hgo
      have ha := Fd.at_nonneg HO.out hlt hne
      have HNE := Lib.hid hne
      clear hne
      go_wp2_with fail
      (refine useC (fd_at _ _ _ _ _ HT1.out) ?_); rintro e w2 ⟨rfl, rfl⟩
      go_wp2
      go_round
      case rel =>
        refine ⟨k + 1, by omega, by go_num, fun j hj => ?_⟩
        by_cases e : j = k
        · subst e; exact HNE.out
        · exact hno.out j (by omega)
      case measure => simp [intOf]; omega
    · -- behind the loop
      have hb8 : (k < 8 ∧ Fd.nthO t.sl k = none) ∨ k = 8 := by
        by_cases h8 : k < 8
        · refine .inl ⟨h8, ?_⟩
          cases hx : Fd.nthO t.sl k with
          | none => rfl
          | some o => exact absurd ⟨h8, by rw [hx]; simp⟩ hgo
        · exact .inr (by omega)
      clear hgo
      have hend : Hid (∀ w3 w5, Below w.heap.size w w3 → w.heap.size ≤ w3.heap.size → Fr [] w3 w5 → Fr [] w w5) := fun w3 w5 h1 h2 h3 => Fr.of_below (h1.trans (h3.toBelow h2 (by simp)))
      rcases hb8 with ⟨h8, hn⟩ | rfl
      · have hl := leastIs t k h8 hn hno.out
        go_wp2_with fail
        (refine useC (fd_at _ _ _ _ _ HT1.out) ?_); rw [Fd.at_neg hn]; rintro e w2 ⟨rfl, rfl⟩
        have ek8 : ((k : Int) == 8) = false := by simp; omega
        have HN := Lib.hid hn
        clear hn
        go_wp2_with fail
        by_cases hs : 0 ≤ size ∧ size ≤ 64
        · have hx : Fd.opn t size w1.heap.size = (⟨t.sl.set k (some w1.heap.size), Fd.upd t.f w1.heap.size (size, 0)⟩, (k : Int), 0) := by unfold Fd.opn; rw [if_pos hs, hl]
          have hO2 := Fd.opn_ok HO.out size HT1.out.fresh
          rw [hx] at hO2
          (refine useC (fd_open _ _ _ _ size HT1.out hs1') ?_); rintro e w2 h2
          obtain ⟨rfl, hT2, hB2, hs2⟩ := h2.ok hx
          have hlen := HO.out.len
          have h2k := Lib.hid (show Fd.nthO (t.sl.set k (some w1.heap.size)) k = some w1.heap.size from by rw [Fd.nthO_set _ _ _ _ (by rw [hlen]; exact h8), if_pos rfl])
          have HT2 := Lib.hid hT2
          have HO2 := Lib.hid hO2
          have HB2 := Lib.hid (HB1.out.trans hB2)
          have hs2' := Nat.le_trans hs1' hs2
          have e1 : decide (0 ≤ size ∧ size ≤ 64) = true := by simpa using hs
          have HS := Lib.hid hs
          clear hT2 hO2 hB2 h2 HT1 HB1 hs hl hx
          go_wp2_with fail
          (refine useC (in2_any _ _ _ _) ?_); rw [e1]; rintro e w3 ⟨rfl, rfl⟩
          go_wp2_with fail
          (refine useC (fd_at _ _ _ _ _ HT2.out) ?_); rw [Fd.at_of (o := w1.heap.size) (by omega) (by rw [Int.toNat_natCast]; exact h2k.out)]
          rw [show (Fd.upd t.f w1.heap.size (size, 0) w1.heap.size).2 = 0 from by simp [Fd.upd]]
          rintro e w3 ⟨rfl, rfl⟩
          go_wp2_with fail
          (refine useC (fd_close _ _ _ _ (k : Int) HT2.out) ?_); rintro e w3 h3
          obtain ⟨rfl, hT3, hB3, hs3⟩ := h3.ok (Fd.close_of (o := w1.heap.size) (by omega) (by rw [Int.toNat_natCast]; exact h2k.out))
          rw [Int.toNat_natCast] at hT3
          have hlen2 : (t.sl.set k (some w1.heap.size)).length = 8 := HO2.out.len
          have h3k := Lib.hid (show Fd.nthO ((t.sl.set k (some w1.heap.size)).set k none) k = none from by rw [Fd.nthO_set _ _ _ _ (by rw [hlen2]; exact h8), if_pos rfl])
          have h3j := Lib.hid (show ∀ j, j < k → Fd.nthO ((t.sl.set k (some w1.heap.size)).set k none) j ≠ none from fun j hj => by rw [Fd.nthO_set _ _ _ _ (by rw [hlen2]; exact h8), if_neg (by omega), Fd.nthO_set _ _ _ _ (by rw [hlen]; exact h8), if_neg (by omega)]; exact hno.out j hj)
          have HT3 := Lib.hid hT3
          have HB3 := Lib.hid (HB2.out.trans hB3)
          have hs3' := Nat.le_trans hs2' hs3
          clear hT3 hB3 h3 HT2 HB2 HO2 hlen2 hlen
          go_wp2_with fail
          (refine useC (fd_at _ _ _ _ _ HT3.out) ?_); rw [Fd.at_neg (t := ⟨(t.sl.set k (some w1.heap.size)).set k none, _⟩) h3k.out]
          rintro e w4 ⟨rfl, rfl⟩
          go_wp2_with fail
          have hl3 := leastIs ⟨(t.sl.set k (some w1.heap.size)).set k none, Fd.upd t.f w1.heap.size (size, 0)⟩ k h8 h3k.out h3j.out
          (refine useC (fd_open _ _ _ _ size HT3.out hs3') ?_); rintro e w4 h4
          obtain ⟨rfl, _, hB4, _⟩ := h4.ok (n := (k : Int)) (by unfold Fd.opn; rw [if_pos HS.out, hl3])
          have HB4 := Lib.hid (HB3.out.trans hB4)
          clear hB4 h4 HT3 HB3 hl3
          go_wp2
          go_ret
          exact ⟨rfl, Fr.of_below HB4.out⟩
        · (refine useC (fd_open _ _ _ _ size HT1.out hs1') ?_); rintro e w3 h3
          obtain ⟨rfl, _, hB3, hs3⟩ := h3.no (t := t) (n := 0) (c := 1) (by unfold Fd.opn; rw [if_neg hs]) (by decide)
          have HB3 := Lib.hid (HB1.out.trans hB3)
          have hE3 := Lib.hid (HE.out.below HB3.out hpos)
          have e1 : decide (0 ≤ size ∧ size ≤ 64) = false := by simpa using hs
          clear hB3 h3 HT1 HB1 hs
          go_wp2_with fail
          (refine useC (in2_any _ _ _ _) ?_); rw [e1]; rintro e w4 ⟨rfl, rfl⟩
          go_wp2_with fail
          (refine useC (error_at 1 1 _ hE3.out) ?_); rintro e w5 ⟨rfl, hF5⟩
          have HF5 := Lib.hid (hend.out _ _ HB3.out (Nat.le_trans hs1' hs3) hF5)
          clear hF5
          go_wp2
          go_ret
          exact ⟨rfl, HF5.out⟩
      · have hl : Fd.least t = none := Fd.leastFrom_full t.sl 8 0 (fun j _ hj => hno.out j (by omega))
        go_wp2_with fail
        by_cases hs : 0 ≤ size ∧ size ≤ 64
        · (refine useC (fd_open _ _ _ _ size HT1.out hs1') ?_); rintro e w3 h3
          obtain ⟨rfl, _, hB3, hs3⟩ := h3.no (t := t) (n := 0) (c := 4) (by unfold Fd.opn; rw [if_pos hs, hl]) (by decide)
          have HB3 := Lib.hid (HB1.out.trans hB3)
          have hE3 := Lib.hid (HE.out.below HB3.out hpos)
          have e1 : decide (0 ≤ size ∧ size ≤ 64) = true := by simpa using hs
          clear hB3 h3 HT1 HB1 hs hl
          go_wp2_with fail
          (refine useC (in2_any _ _ _ _) ?_); rw [e1]; rintro e w4 ⟨rfl, rfl⟩
          go_wp2_with fail
          (refine useC (error_at 4 4 _ hE3.out) ?_); rintro e w5 ⟨rfl, hF5⟩
          have HF5 := Lib.hid (hend.out _ _ HB3.out (Nat.le_trans hs1' hs3) hF5)
          clear hF5
          go_wp2
          go_ret
          exact ⟨rfl, HF5.out⟩
        · (refine useC (fd_open _ _ _ _ size HT1.out hs1') ?_); rintro e w3 h3
          obtain ⟨rfl, _, hB3, hs3⟩ := h3.no (t := t) (n := 0) (c := 1) (by unfold Fd.opn; rw [if_neg hs]) (by decide)
          have HB3 := Lib.hid (HB1.out.trans hB3)
          have hE3 := Lib.hid (HE.out.below HB3.out hpos)
          have e1 : decide (0 ≤ size ∧ size ≤ 64) = false := by simpa using hs
          clear hB3 h3 HT1 HB1 hs hl
          go_wp2_with fail
          (refine useC (in2_any _ _ _ _) ?_); rw [e1]; rintro e w4 ⟨rfl, rfl⟩
          go_wp2_with fail
          (refine useC (error_at 1 1 _ hE3.out) ?_); rintro e w5 ⟨rfl, hF5⟩
          have HF5 := Lib.hid (hend.out _ _ HB3.out (Nat.le_trans hs1' hs3) hF5)
          clear hF5
          go_wp2
          go_ret
          exact ⟨rfl, HF5.out⟩
end Go.Proofs.YtmgalnkcpolafaaDoor
