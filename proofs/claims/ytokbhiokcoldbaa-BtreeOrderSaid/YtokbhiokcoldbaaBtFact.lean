/- The closed fact of the laws on package btree; grown. -/
import Derived.Test.YtokbhiokcoldbaaBtSt
import Derived.Test.YtokbhiokcoldbaaSl2
namespace Go.Proofs.Ytokbhiokcoldbaa
open Go.RowKit

namespace Bt
def stf (k : Nat) : Tree := growAll ([1, 2, 3, 4, 5].take (k - 1))
theorem fact_step (k : Nat) (h1 : 1 ≤ k) (h2 : k ≤ 5) : addErr (stf k) (k : Int) = 0 ∧ stf (k + 1) = put (stf k) (k : Int) := by
  have : k = 1 ∨ k = 2 ∨ k = 3 ∨ k = 4 ∨ k = 5 := by omega
  rcases this with rfl | rfl | rfl | rfl | rfl
  · exact ⟨fact_err.1, rfl⟩
  · exact ⟨fact_err.2.1, rfl⟩
  · exact ⟨fact_err.2.2.1, rfl⟩
  · exact ⟨fact_err.2.2.2.1, rfl⟩
  · exact ⟨fact_err.2.2.2.2, rfl⟩
theorem stf_ok (k : Nat) : (stf k).OK := foldl_ok _ _ new_ok
end Bt
theorem rr_lit1 (w : World) (x : Int) : RR ((w.alloc (.cells #[.int .i64 x] 3)).alloc (.cells #[.slice (some ⟨w.heap.size, 0, none⟩) 1 1] 22)) (.slice (some ⟨w.heap.size + 1, 0, none⟩) 1 1) [[x]] := by
  have hs : (w.alloc (.cells #[.int .i64 x] 3)).heap.size = w.heap.size + 1 := by simp
  have h2 := heap_alloc_new (w.alloc (.cells #[.int .i64 x] 3)) (.cells #[.slice (some ⟨w.heap.size, 0, none⟩) 1 1] 22)
  rw [hs] at h2
  refine ⟨_, w.heap.size + 1, 1, rfl, fun _ => rfl, fun j hj => ?_⟩
  obtain rfl : j = 0 := by simp at hj; exact hj
  exact ⟨_, 1, w.heap.size, by rw [cell_of_row _ _ _ _ _ _ h2]; rfl, (sl_lit1 w x).fr ((Fr.refl [] _).alloc _) (by simp)⟩
theorem rr_lit2 (w : World) (x y z u : Int) : RR (((w.alloc (.cells #[.int .i64 x, .int .i64 y] 3)).alloc (.cells #[.int .i64 z, .int .i64 u] 3)).alloc (.cells #[.slice (some ⟨w.heap.size, 0, none⟩) 2 2, .slice (some ⟨w.heap.size + 1, 0, none⟩) 2 2] 22)) (.slice (some ⟨w.heap.size + 2, 0, none⟩) 2 2) [[x, y], [z, u]] := by
  have hs1 : (w.alloc (.cells #[.int .i64 x, .int .i64 y] 3)).heap.size = w.heap.size + 1 := by simp
  have hs2 : ((w.alloc (.cells #[.int .i64 x, .int .i64 y] 3)).alloc (.cells #[.int .i64 z, .int .i64 u] 3)).heap.size = w.heap.size + 2 := by simp
  have h3 := heap_alloc_new ((w.alloc (.cells #[.int .i64 x, .int .i64 y] 3)).alloc (.cells #[.int .i64 z, .int .i64 u] 3)) (.cells #[.slice (some ⟨w.heap.size, 0, none⟩) 2 2, .slice (some ⟨w.heap.size + 1, 0, none⟩) 2 2] 22)
  rw [hs2] at h3
  have l1 := sl_lit2 w x y
  have l2 := sl_lit2 (w.alloc (.cells #[.int .i64 x, .int .i64 y] 3)) z u
  rw [hs1] at l2
  refine ⟨_, w.heap.size + 2, 2, rfl, fun _ => rfl, fun j hj => ?_⟩
  have hj2 : j < 2 := by simpa using hj
  have : j = 0 ∨ j = 1 := by omega
  rcases this with rfl | rfl
  · exact ⟨_, 2, w.heap.size, by rw [cell_of_row _ _ _ _ _ _ h3]; rfl, (l1.fr ((Fr.refl [] _).alloc _) (by simp)).fr ((Fr.refl [] _).alloc _) (by simp)⟩
  · exact ⟨_, 2, w.heap.size + 1, by rw [cell_of_row _ _ _ _ _ _ h3]; rfl, l2.fr ((Fr.refl [] _).alloc _) (by simp)⟩
set_option maxRecDepth 100000 in
set_option maxHeartbeats 2000000 in
theorem bt_fact (w : World) : Calls Try.prog 8 #[] w (OkT w) := by
  have HN := Lib.hid (bt_New w)
  have HL0 : Hid ((if (0 : Int) < 0 then [] else Bt.level (Bt.stf 6) (0 : Int).toNat) = [[3]]) := Bt.fact_l0
  have HL1 : Hid ((if (1 : Int) < 0 then [] else Bt.level (Bt.stf 6) (1 : Int).toNat) = [[1, 2], [4, 5]]) := Bt.fact_l1
  have HD : Hid (((Bt.stf 6).d : Int) + 1 = 2) := by
    show ((Bt.stf 6).d : Int) + 1 = 2
    rw [show (Bt.stf 6).d = 1 from Bt.fact_d]
    rfl
  go_enter Try.func8, Try.ntmps8
  go_wp2_with (go_at_call 26; (with_reducible refine useC HN.out ?_); rintro e w1 ⟨p, rfl, hs, hf⟩; have HS1 := Lib.hid (BtI2.made (Fr.refl [] w) hs hf); clear hs hf)
  go_loopw [2] (fun i wr => ∃ k : Nat, 1 ≤ k ∧ k ≤ 6 ∧ i = .int .i64 k ∧ Hid (∃ P, BtI2 w wr P p (Bt.stf k))) (fun i _ => 6 - (intOf i).toNat)
  case atStart => exact ⟨1, by omega, by omega, rfl, _, HS1.out⟩
  case round =>
    clear HS1
    obtain ⟨k, hk1, hk, rfl, hS⟩ := hrel
    obtain ⟨P, hS2⟩ := hS.out
    by_cases hlt : k ≤ 5
    · have kI : (k : Int) ≤ 5 := by omega
      obtain ⟨e1, e2⟩ := Bt.fact_step k hk1 hlt
      have HC := Lib.hid (bt_Add wr P p (Bt.stf k) k hS2.file hS2.ok)
      rw [e1, ← e2, show errV 0 = .nilIface from rfl] at HC
      have HS := Lib.hid hS2
      have HOK := Lib.hid (Bt.stf_ok (k + 1))
      clear hS2 hS e1 e2
      go_wp2_with (go_at_call 18; (with_reducible refine useC HC.out ?_); intro e w3 ha; obtain ⟨rfl, hs, -⟩ := HS.out.turn HOK.out ha; have H3 : Hid (∃ P, BtI2 w w3 P p (Bt.stf (k + 1))) := ⟨_, hs⟩; clear ha hs HC)
      go_roundw
      case rel => exact ⟨k + 1, by omega, by omega, by go_num, H3.out⟩
      case measure => (simp [intOf]; try omega)
    · obtain rfl : k = 6 := by omega
      have kI : ¬ ((6 : Nat) : Int) ≤ 5 := by omega
      have HH := Lib.hid (bt_Height wr P p (Bt.stf 6) hS2.file hS2.ok)
      rw [HD.out] at HH
      have HV0 := Lib.hid (fun W (hW : Fr [] wr W) => bt_Level W P p (Bt.stf 6) 0 (hS2.file.keep hW) hS2.ok (by omega))
      have HV1 := Lib.hid (fun W (hW : Fr [] wr W) => bt_Level W P p (Bt.stf 6) 1 (hS2.file.keep hW) hS2.ok (by omega))
      rw [HL0.out] at HV0
      rw [HL1.out] at HV1
      have HFR := Lib.hid hS2.fr
      clear hS2 hS hlt
      go_wp2_with (first
        | (go_at_call 10; (with_reducible refine useC HH.out ?_); rintro e wr ⟨rfl, rfl⟩; have HZ := Lib.hid (Fr.refl [] wr))
        | (have hz := HZ; go_at_call 12; (with_reducible refine useC (HV0.out _ (Fr.refl [] _)) ?_); intro e w3 hl; obtain ⟨v3, rfl, hr3, hf3⟩ := hl.rr; have HR3 := Lib.hid hr3; have HF3 := Lib.hid hf3; clear hl hr3 hf3)
        | (have hr' := HR3; go_at_call 32; (with_reducible refine useC (rows_same _ _ _ [[3]] (HR3.out.keep (((Fr.refl [] w3).alloc _).alloc _)) (rr_lit1 w3 3) (by simp)) ?_); rintro e w4 ⟨rfl, hf4⟩; have HF4 := Lib.hid ((HF3.out.trans (((Fr.refl [] w3).alloc (.cells #[.int .i64 3] 3)).alloc (.cells #[.slice (some ⟨w3.heap.size, 0, none⟩) 1 1] 22))).trans hf4); clear hf4)
        | (have hf' := HF4; go_at_call 12; (with_reducible refine useC (HV1.out w4 HF4.out) ?_); intro e w5 hl; obtain ⟨v5, rfl, hr5, hf5⟩ := hl.rr; have HR5 := Lib.hid hr5; have HF5 := Lib.hid (HF4.out.trans hf5); clear hl hr5 hf5)
        | (have hr' := HR5; go_at_call 32; (with_reducible refine useC (rows_same _ _ _ [[1, 2], [4, 5]] (HR5.out.keep ((((Fr.refl [] w5).alloc _).alloc _).alloc _)) (rr_lit2 w5 1 2 4 5) (by simp)) ?_); rintro e w6 ⟨rfl, hf6⟩; have HF6 := Lib.hid ((HF5.out.trans ((((Fr.refl [] w5).alloc (.cells #[.int .i64 1, .int .i64 2] 3)).alloc (.cells #[.int .i64 4, .int .i64 5] 3)).alloc (.cells #[.slice (some ⟨w5.heap.size, 0, none⟩) 2 2, .slice (some ⟨w5.heap.size + 1, 0, none⟩) 2 2] 22))).trans hf6); clear hf6))
      go_ret
      exact ⟨rfl, HFR.out.trans HF6.out⟩
/-- The call hands back a tree of these keys in new memory. -/
def BtMade (l : List Int) (w : World) (e : Ending) (w' : World) : Prop := ∃ p P, e = .returned (.pointer (some ⟨p, 0, none⟩)) ∧ BtI2 w w' P p (Bt.growAll (l.take 64))
theorem growAll_take {l : List Int} {k : Nat} (hk : k < l.length) : Bt.growAll (l.take (k + 1)) = Bt.put (Bt.growAll (l.take k)) (nth l k) := by
  rw [List.take_add_one, List.getElem?_eq_getElem hk]
  unfold Bt.growAll
  rw [List.foldl_append]
  simp [nth, List.getD, hk]
theorem grow_ok (l : List Int) : (Bt.growAll l).OK := Bt.foldl_ok _ _ Bt.new_ok
set_option maxRecDepth 100000 in
set_option maxHeartbeats 2000000 in
theorem bt_grown (w : World) (v : Value) (g : Nat) (l : List Int) (h : Sl w v g l) (hl : l.length ≤ 9223372036854775807) : Calls Try.prog 9 #[v] w (BtMade l w) := by
  obtain ⟨A, o, c, rfl, hm, hA, hc⟩ := h.form
  have HA := Lib.hid hA
  have HC := Lib.hid (fun W (hW : Fr [] w W) i hi => hW.cell (hc i hi) (by simp))
  have HN := Lib.hid (bt_New w)
  clear hA hc h
  go_enter Try.func9, Try.ntmps9
  go_wp2_with (go_at_call 26; (with_reducible refine useC HN.out ?_); rintro e w1 ⟨p, rfl, hs, hf⟩; have HS1 := Lib.hid (BtI2.made (Fr.refl [] w) hs hf); clear hs hf)
  go_loopw [4] (fun i wr => ∃ k : Nat, k ≤ l.length ∧ k ≤ 64 ∧ i = .int .i64 k ∧ Hid (∃ P, BtI2 w wr P p (Bt.growAll (l.take k)))) (fun i _ => 64 - (intOf i).toNat)
  case atStart => exact ⟨0, Nat.zero_le _, Nat.zero_le _, rfl, _, HS1.out⟩
  case round =>
    clear HS1
    obtain ⟨k, hk, hk64, rfl, hS⟩ := hrel
    obtain ⟨P, hS2⟩ := hS.out
    by_cases hin : k < l.length ∧ k < 64
    · obtain ⟨hlt, h64⟩ := hin
      have kI : (k : Int) < l.length := by omega
      have k64 : (k : Int) < 64 := by omega
      have k0 : (0 : Int) ≤ k := by omega
      obtain rfl := HA.out (by omega)
      have q := HC.out wr hS2.fr k hlt
      have HC2 := Lib.hid (bt_Add wr P p (Bt.growAll (l.take k)) (nth l k) hS2.file hS2.ok)
      rw [← growAll_take hlt] at HC2
      have HS := Lib.hid hS2
      have HOK := Lib.hid (grow_ok (l.take (k + 1)))
      generalize Bt.addErr (Bt.growAll (l.take k)) (nth l k) = ec at *
      generalize nth l k = y at *
      clear hS2 hS
      go_wp2_with (go_at_call 18; (with_reducible refine useC HC2.out ?_); intro e w3 ha; obtain ⟨rfl, hs, -⟩ := HS.out.turn HOK.out ha; have H3 : Hid (∃ P, BtI2 w w3 P p (Bt.growAll (l.take (k + 1)))) := ⟨_, hs⟩; clear ha hs HC2)
      go_roundw
      case rel => exact ⟨k + 1, by omega, by omega, by go_num, H3.out⟩
      case measure => (simp [intOf]; try omega)
    · have HS := Lib.hid hS2
      have hke : Hid (l.take k = l.take 64) := by
        show _ = _
        by_cases h : k < l.length
        · rw [show k = 64 by omega]
        · rw [List.take_of_length_le (by omega), List.take_of_length_le (by omega)]
      by_cases hlt : k < l.length
      · have kI : (k : Int) < l.length := by omega
        have k64 : ¬ (k : Int) < 64 := by omega
        clear hS2 hS
        go_wp2
        go_ret
        exact ⟨p, P, rfl, by rw [← hke.out]; exact HS.out⟩
      · have kI : ¬ (k : Int) < l.length := by omega
        clear hS2 hS
        go_wp2
        go_ret
        exact ⟨p, P, rfl, by rw [← hke.out]; exact HS.out⟩
end Go.Proofs.Ytokbhiokcoldbaa
