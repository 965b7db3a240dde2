/- The closed fact of package lfs. -/
import Derived.Test.YtcgmpccpeocmjaaDoorLfClean
import Derived.Test.YtcgmpccpeocmjaaDoorLfNew
import Derived.Test.YtcgmpccpeocmjaaDoorLfRead
namespace Go.Proofs.YtcgmpccpeocmjaaDoor
open Go.RowKit

/-- The fact's two disks. -/
def Lf.d1 : Lf.D := (Lf.write Lf.new 1 5).1
def Lf.d2 : Lf.D := (Lf.write Lf.d1 1 6).1
theorem lf_fact (w : World) : Calls Tryd.prog 5 #[] w (OkT w) := by
  have hO1 : Lf.OK Lf.d1 := (Lf.write_ok Lf.new_ok 1 5).1
  have hO2 : Lf.OK Lf.d2 := (Lf.write_ok hO1 1 6).1
  have HO1 := Lib.hid hO1
  have HO2 := Lib.hid hO2
  clear hO1 hO2
  go_enter Tryd.func5, Tryd.ntmps5
  go_wp2_with fail
  (refine useC (lf_new _ w.heap.size (Nat.le_refl _)) ?_); rintro e w0 ⟨rfl, hT0, hF0⟩
  have HT0 := Lib.hid hT0
  have HB0 := Lib.hid hF0.below
  have hs0 := hF0.size
  clear hT0 hF0
  go_wp2_with fail
  (refine useC (lf_write _ w.heap.size _ _ 1 5 HT0.out Lf.new_ok hs0) ?_); rintro e w1 ⟨rfl, hT1, hB1, hs1, _⟩
  rw [show errV (Lf.write Lf.new 1 5).2 = .nilIface from by rw [show (Lf.write Lf.new 1 5).2 = 0 from by decide]; rfl]
  have HT1 : Hid (LfD w.heap.size w1 w.heap.size Lf.d1) := hT1
  have HB1 := Lib.hid (HB0.out.trans hB1)
  have hs1' := Nat.le_trans hs0 hs1
  clear hT1 hB1 HT0 HB0 hs1
  go_wp2_with fail
  (refine useC (lf_write _ w.heap.size _ _ 1 6 HT1.out HO1.out hs1') ?_); rintro e w2 ⟨rfl, hT2, hB2, hs2, _⟩
  rw [show errV (Lf.write Lf.d1 1 6).2 = .nilIface from by rw [show (Lf.write Lf.d1 1 6).2 = 0 from by decide]; rfl]
  have HT2 : Hid (LfD w.heap.size w2 w.heap.size Lf.d2) := hT2
  have HB2 := Lib.hid (HB1.out.trans hB2)
  have hs2' := Nat.le_trans hs1' hs2
  clear hT2 hB2 HT1 HB1 hs2
  go_wp2_with fail
  (refine useC (lf_read _ w.heap.size _ _ 1 HT2.out HO2.out) ?_); rintro e w3 ⟨rfl, hF3⟩
  rw [show readAns Lf.d2 1 = .tuple #[.int .i64 6, .nilIface] from by unfold readAns; rw [if_pos (by decide), show Lf.val Lf.d2 (1 : Int).toNat = 6 from by decide]]
  have HF3 := Lib.hid hF3
  clear hF3
  go_wp2_with fail
  (refine useC (lf_segment _ w.heap.size _ _ 0 (HT2.out.keep HF3.out) HO2.out) ?_); rintro e w4 ⟨rfl, hF4⟩
  rw [show segAns Lf.d2 0 = .tuple #[.int .i64 2, .int .i64 1] from by unfold segAns; rw [if_pos (by decide), show (Lf.seg Lf.d2 (0 : Int).toNat).length = 2 from by decide, show (Lf.live Lf.d2 (0 : Int).toNat).length = 1 from by decide]; rfl]
  have HF := Lib.hid (Fr.of_below (HB2.out.trans ((HF3.out.trans hF4).toBelow hs2' (by simp))))
  clear hF4
  go_wp2
  go_ret
  exact ⟨rfl, HF.out⟩
end Go.Proofs.YtcgmpccpeocmjaaDoor
