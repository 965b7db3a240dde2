/- platterholdref2.Name. -/
import Derived.Test.YtcghdnabajhipaaDoorPaTexts
namespace Go.Proofs.YtcghdnabajhipaaDoor
open Go.RowKit

theorem bt_at (s : ByteArray) (k : Nat) (h : k < s.size) : (((s[k]'h).toNat : Nat) : Int) = bt s k := by
  have h' : k < s.data.toList.length := by rw [← Lib.size_eq]; exact h
  unfold bt
  rw [List.getD_eq_getElem?_getD, List.getElem?_eq_getElem h']
  rfl
theorem name_iff (s : ByteArray) (ha : ∀ j, j < s.size → low (bt s j)) : decide (Pa.IsName s.data.toList) = (decide ((1 : Int) ≤ s.size) && decide ((s.size : Int) ≤ 4)) := by
  by_cases h : (1 : Int) ≤ s.size ∧ (s.size : Int) ≤ 4
  · rw [decide_eq_true (name_of h ha), decide_eq_true h.1, decide_eq_true h.2]; rfl
  · rw [decide_eq_false (fun hn : Pa.IsName s.data.toList => h (by have h1 := hn.1; have h2 := hn.2.1; rw [← Lib.size_eq] at h1 h2; omega))]
    symm
    rw [Bool.and_eq_false_iff, decide_eq_false_iff_not, decide_eq_false_iff_not]
    omega
set_option maxRecDepth 100000 in
set_option maxHeartbeats 2000000 in
theorem m_Name (s : ByteArray) (w : World) (hs : s.size ≤ 140737488355328) :
    Calls Tryd.prog 20 #[.string s] w fun e w' => e = .returned (.bool (decide (Pa.IsName s.data.toList))) ∧ w' = w := by
  go_enter Tryd.func20, Tryd.ntmps20
  go_wp2_with fail
  go_loop [3] (fun i => ∃ k : Nat, k ≤ s.size ∧ i = .int .i64 k ∧ Hid (∀ j, j < k → low (bt s j))) (fun i => s.size - (intOf i).toNat)
  case atStart => exact ⟨0, Nat.zero_le _, rfl, fun j hj => absurd hj (by omega)⟩
  case round =>
    obtain ⟨k, hk, rfl, hA⟩ := hrel
    by_cases hlt : k < s.size
    · have k0 : (0 : Int) ≤ k := by omega
      have k1 : (k : Int) < s.size := by omega
      have HB : Hid (∀ x, bt s k = x → ¬ low x → ¬ Pa.IsName s.data.toList) := fun x hx hn => not_name_of hlt (by rw [hx]; exact hn)
      have HG : Hid (∀ x, bt s k = x → low x → ∀ j, j < k + 1 → low (bt s j)) := fun x hx hn j hj => by
        rcases Nat.lt_or_ge j k with h | h
        · exact hA.out j h
        · have : j = k := by omega
          subst this; rw [hx]; exact hn
      have hbt := bt_at s k hlt
      obtain ⟨x, hx⟩ : ∃ x, bt s k = x := ⟨_, rfl⟩
      rw [hx] at hbt
      have HX := Lib.hid hx
      clear hx hA
      by_cases h1 : x < 97
      · go_wp2
        go_ret
        exact ⟨by rw [decide_eq_false (HB.out x HX.out (fun h => by have := h.1; omega))]; rfl, rfl⟩
      · by_cases h2 : 122 < x
        · go_wp2
          go_ret
          exact ⟨by rw [decide_eq_false (HB.out x HX.out (fun h => by have := h.2; omega))]; rfl, rfl⟩
        · have HL : Hid (low x) := ⟨by omega, by omega⟩
          go_wp2
          go_round
          case rel => exact ⟨k + 1, by omega, by go_num, HG.out x HX.out HL.out⟩
          case measure => (simp [intOf]; try omega)
    · have n1 : ¬ (k : Int) < s.size := by omega
      have HN := Lib.hid (name_iff s (fun j hj => hA.out j (by omega)))
      clear hA
      by_cases z1 : (1 : Int) ≤ s.size
      · by_cases z2 : (s.size : Int) ≤ 4
        · have hq := HN.out
          rw [decide_eq_true z1, decide_eq_true z2] at hq
          have HQ := Lib.hid hq
          clear HN hq
          go_wp2
          go_ret
          exact ⟨by rw [HQ.out]; rfl, rfl⟩
        · have hq := HN.out
          rw [decide_eq_true z1, decide_eq_false z2] at hq
          have HQ := Lib.hid hq
          clear HN hq
          go_wp2
          go_ret
          exact ⟨by rw [HQ.out]; rfl, rfl⟩
      · have hq := HN.out
        rw [decide_eq_false z1] at hq
        have HQ := Lib.hid hq
        clear HN hq
        go_wp2
        go_ret
        exact ⟨by rw [HQ.out]; rfl, rfl⟩
end Go.Proofs.YtcghdnabajhipaaDoor
