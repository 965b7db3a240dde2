/- The contracts of package lfs's functions: Write, Read, Segment. -/
import Derived.Test.YtbedfffmicbgmaaDoorLfDown
import Derived.Test.YtbedfffmicbgmaaDoorLfLive0
import Derived.Test.YtbedfffmicbgmaaDoorLfPlain2
namespace Go.Proofs.YtbedfffmicbgmaaDoor
open Go.RowKit

theorem lf_write (w : World) (B b : Nat) (d : Lf.D) (p v : Int) (hD : LfD B w b d) (hO : Lf.OK d) (hB : B ≤ w.heap.size) :
    Calls Tryd.prog 12 #[.pointer (some ⟨b, 0, none⟩), .int .i64 p, .int .i64 v] w (LfAns B b (errV (Lf.write d p v).2) (Lf.write d p v).1 w) := by
  have HT := Lib.hid hD
  have HO := Lib.hid hO
  have HR := Lib.hid (lf_room w B b d hD hO.shp)
  by_cases hp : 0 ≤ p ∧ p ≤ 7
  · have e1 : decide (0 ≤ p ∧ p ≤ 7) = true := by simpa using hp
    by_cases hv : 0 ≤ v ∧ v ≤ 1000
    · have e2 : decide (0 ≤ v ∧ v ≤ 1000) = true := by simpa using hv
      cases hr : Lf.roomAt d with
      | none =>
        have e3 := Lib.hid (show (Lf.roomAt d).isSome = false from by rw [hr]; rfl)
        have e4 := Lib.hid (show roomD d = d from by unfold roomD; rw [hr])
        have er := Lib.hid (show Lf.write d p v = (d, 4) from by unfold Lf.write; rw [if_pos ⟨hp, hv⟩, hr])
        clear hD hO hr hp hv
        go_enter Tryd.func12, Tryd.ntmps12
        go_wp2_with (first
          | (go_at_call 34; (with_reducible refine useC (within_any _ _ _ _) ?_); (first | rw [e1] | rw [e2]); rintro e w' ⟨rfl, rfl⟩)
          | (go_at_call 29; (with_reducible refine useC HR.out ?_); rw [e3.out, e4.out]; rintro e w1 ⟨rfl, hD1, hB1, hs1⟩; have HA := Lib.hid (And.intro hD1 (And.intro hB1 hs1)); clear hD1 hB1 hs1))
        go_ret
        rw [er.out]
        exact ⟨rfl, HA.out⟩
      | some k =>
        have hk := Lf.roomAt_lt hO hr
        have e3 := Lib.hid (show (Lf.roomAt d).isSome = true from by rw [hr]; rfl)
        have e4 := Lib.hid (show roomD d = Lf.at_ d k from by unfold roomD; rw [hr])
        have er := Lib.hid (show Lf.write d p v = (Lf.down (Lf.at_ d k) (p, v), 0) from by unfold Lf.write Lf.put; rw [if_pos ⟨hp, hv⟩, hr]; rfl)
        have HD := Lib.hid (fun W (hW : LfD B W b (Lf.at_ d k)) (hBW : B ≤ W.heap.size) => lf_down W B b (Lf.at_ d k) p v hW (hO.shp.at_ hk.1) hBW hk.2 hp)
        clear hD hO hr hp hv hk
        go_enter Tryd.func12, Tryd.ntmps12
        go_wp2_with (first
          | (go_at_call 34; (with_reducible refine useC (within_any _ _ _ _) ?_); (first | rw [e1] | rw [e2]); rintro e w' ⟨rfl, rfl⟩)
          | (go_at_call 29; (with_reducible refine useC HR.out ?_); rw [e3.out, e4.out]; rintro e w1 ⟨rfl, hD1, hB1, hs1⟩; have HA := Lib.hid (And.intro hD1 (And.intro hB1 hs1)); clear hD1 hB1 hs1)
          | (go_at_call 30; (with_reducible refine useC (HD.out w1 HA.out.1 (Nat.le_trans hB HA.out.2.2.1)) ?_); rintro e w2 ⟨rfl, hD2, hB2, hs2⟩; have HA2 := Lib.hid (And.intro hD2 (And.intro hB2 hs2)); clear hD2 hB2 hs2))
        go_ret
        rw [er.out]
        exact ⟨rfl, HA2.out.1, HA.out.2.1.trans HA2.out.2.1, Nat.le_trans HA.out.2.2.1 HA2.out.2.2.1, HA.out.2.2.2.trans HA2.out.2.2.2 HA.out.2.2.1⟩
    · have e2 : decide (0 ≤ v ∧ v ≤ 1000) = false := by simpa using hv
      have er := Lib.hid (show Lf.write d p v = (d, 1) from by unfold Lf.write; rw [if_neg (fun h => hv h.2)])
      clear hD hO hp hv
      go_enter Tryd.func12, Tryd.ntmps12
      go_wp2_with (go_at_call 34; (with_reducible refine useC (within_any _ _ _ _) ?_); (first | rw [e1] | rw [e2]); rintro e w' ⟨rfl, rfl⟩)
      go_ret
      rw [er.out]
      exact ⟨rfl, HT.out, Below.refl _ _, Nat.le_refl _, Keeps.refl _ _⟩
  · have e1 : decide (0 ≤ p ∧ p ≤ 7) = false := by simpa using hp
    have er := Lib.hid (show Lf.write d p v = (d, 1) from by unfold Lf.write; rw [if_neg (fun h => hp h.1)])
    clear hD hO hp
    go_enter Tryd.func12, Tryd.ntmps12
    go_wp2_with (go_at_call 34; (with_reducible refine useC (within_any _ _ _ _) ?_); rw [e1]; rintro e w' ⟨rfl, rfl⟩)
    go_ret
    rw [er.out]
    exact ⟨rfl, HT.out, Below.refl _ _, Nat.le_refl _, Keeps.refl _ _⟩
end Go.Proofs.YtbedfffmicbgmaaDoor
