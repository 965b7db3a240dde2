/- The document's answer for package mode: Mode; the contracts of package mode with one answer each. -/
import Derived.Test.YtiadpgkephokdaaDoorMsRef2
import Derived.Test.YtiadpgkephokdaaDoorErr2
import Derived.MapKept
import Derived.Laws.StructEq
namespace Go.Proofs.YtiadpgkephokdaaDoor
open Go.RowKit

theorem str_ne {x y : ByteArray} (h : x ≠ y) : (x.toList == y.toList) = false := by
  rw [beq_eq_false_iff_ne]
  intro e
  apply h
  have h1 : (x == y) = true := by rw [beq_toListBytes]; exact beq_iff_eq.2 e
  exact (Go.MapKept.bytes_beq x y).1 h1
theorem str_eq {x y : ByteArray} (h : x = y) : (x.toList == y.toList) = true := by subst h; exact beq_iff_eq.2 rfl
namespace Mo
theorem rd_none {s : ByteArray} (h9 : s.size = 9) (h : ∀ j, j < 512 → (⟨(showL j).toArray⟩ : ByteArray) ≠ s) : rd s = (0, 2) := by
  rcases rd_cases s with ⟨c, hc, h0⟩ | ⟨v, _, hv, hs⟩
  · unfold rd at hc ⊢
    rw [if_pos h9] at hc ⊢
    split at hc
    · injection hc with _ hc
      exact absurd hc.symm h0
    · rename_i ho
      rw [if_neg ho]
  · exact absurd hs (h v (by omega))
theorem rd_some {s : ByteArray} {k : Nat} (hk : k < 512) (h : (⟨(showL k).toArray⟩ : ByteArray) = s) : rd s = ((k : Int), 0) := by
  rw [← h]
  exact back1 k hk
def showR (m : Int) : ByteArray × Int := if 0 ≤ m ∧ m ≤ 511 then (⟨(showL m.toNat).toArray⟩, 0) else (⟨#[]⟩, 1)
end Mo
set_option maxRecDepth 100000 in
theorem ms_Mode (w : World) (s : ByteArray) (a b : Int) (hR : Mo.rd s = (a, b)) : Calls Tryd.prog 13 #[.string s] w fun e w' => e = .returned (.tuple #[.int .i64 a, .int .i64 b]) ∧ w' = w := by
  have HR := Lib.hid hR
  clear hR
  by_cases h9 : s.size = 9
  · have H9 := Lib.hid h9
    have q9 : ((s.size : Int) != 9) = false := by rw [h9]; rfl
    clear h9
    go_enter Tryd.func13, Tryd.ntmps13
    go_wp2
    go_loop [4] (fun i => ∃ k : Nat, k ≤ 512 ∧ i = .int .i64 k ∧ Hid (∀ j, j < k → (⟨(Mo.showL j).toArray⟩ : ByteArray) ≠ s)) (fun i => 512 - (intOf i).toNat)
    case atStart => exact ⟨0, Nat.zero_le _, rfl, fun j hj => absurd hj (by omega)⟩
    case round =>
      obtain ⟨k, hk, rfl, hN⟩ := hrel
      by_cases hlt : k < 512
      · have k5 : (k : Int) < 512 := by omega
        have hlt5 : k ≤ 511 := by omega
        have HL := Lib.hid (ms_Letters w k hlt5)
        obtain ⟨X, hX⟩ : ∃ X, (⟨(Mo.showL k).toArray⟩ : ByteArray) = X := ⟨_, rfl⟩
        rw [hX] at HL
        have HX := Lib.hid hX
        clear hX
        by_cases hs : X = s
        · have HQ := Lib.hid (HR.out.symm.trans (Mo.rd_some hlt (HX.out.trans hs)))
          have hb := str_eq hs
          clear hs
          go_wp2_with (go_at_call 11; (with_reducible refine useC HL.out ?_); rintro e w ⟨rfl, rfl⟩)
          go_ret2
          have hq := HQ.out
          injection hq with q1 q2
          rw [q1, q2]
          exact ⟨rfl, rfl⟩
        · have hb := str_ne hs
          have HN2 : Hid (∀ j, j < k + 1 → (⟨(Mo.showL j).toArray⟩ : ByteArray) ≠ s) := fun j hj => by
            by_cases e : j = k
            · subst e; rw [HX.out]; exact hs
            · exact hN.out j (by omega)
          clear hs
          go_wp2_with (go_at_call 11; (with_reducible refine useC HL.out ?_); rintro e w ⟨rfl, rfl⟩)
          go_round
          case rel => exact ⟨k + 1, by omega, by go_num, HN2⟩
          case measure => (simp [intOf]; try omega)
      · obtain rfl : k = 512 := by omega
        have k5 : ¬ ((512 : Nat) : Int) < 512 := by decide
        have HQ := Lib.hid (HR.out.symm.trans (Mo.rd_none H9.out hN.out))
        clear hN
        go_wp2
        go_ret2
        have hq := HQ.out
        injection hq with q1 q2
        rw [q1, q2]
        exact ⟨rfl, rfl⟩
  · have q9 : ((s.size : Int) != 9) = true := by simp; omega
    have HQ := Lib.hid (HR.out.symm.trans (show Mo.rd s = (0, 3) from by unfold Mo.rd; rw [if_neg h9]))
    clear h9
    go_enter Tryd.func13, Tryd.ntmps13
    go_wp2
    go_ret2
    have hq := HQ.out
    injection hq with q1 q2
    rw [q1, q2]
    exact ⟨rfl, rfl⟩
theorem ms_Show (w : World) (m : Int) (S : ByteArray) (c : Int) (hR : Mo.showR m = (S, c)) : Calls Tryd.prog 12 #[.int .i64 m] w fun e w' => e = .returned (.tuple #[.string S, errV c]) ∧ Fr [] w w' := by
  unfold Mo.showR at hR
  split at hR
  · rename_i h
    obtain ⟨a, rfl⟩ : ∃ a : Nat, m = a := ⟨m.toNat, by omega⟩
    injection hR with h1 h2
    subst h1 h2
    exact mo_Show_ok w a (by omega)
  · rename_i h
    injection hR with h1 h2
    subst h1 h2
    exact mo_Show_bad w m h
theorem mserr_ok (w : World) (c : Int) (hg : ErrType w) : Calls Tryd.prog 7 #[errV c, .int .i64 c] w (OkT w) := error_yes c w hg
end Go.Proofs.YtiadpgkephokdaaDoor
