/- The closed fact of package shadow. -/
import Derived.Test.YtmhmbgkpojgbbaaShLaw
namespace Go.Proofs.Ytmhmbgkpojgbbaa
open Go.RowKit

theorem sh_fact (w : World) : Calls Try.prog 12 #[] w (OkT w) := by
  go_enter Try.func12, Try.ntmps12
  go_wp2_with fail
  (refine useC (sh_new' _) ?_); rintro e w0 ⟨b, rfl, hb, hD0, hF0⟩
  have HD0 := Lib.hid hD0
  have HF0 := Lib.hid hF0
  clear hD0 hF0
  go_wp2_with fail
  (refine useC (sh_write _ b _ 3 7 HD0.out Sh.new_ok) ?_); rintro e w1 ⟨rfl, hD1, hF1⟩
  rw [show shAns Sh.new 3 7 = .tuple #[.int .i64 0, .nilIface] from rfl]
  have HD1 := Lib.hid hD1
  have HF1 := Lib.hid hF1
  have HO := Lib.hid (Sh.write_ok Sh.new_ok 3 7)
  clear hD1 hF1 HD0
  go_wp2_with fail
  (refine useC (sh_Values _ b _ HD1.out HO.out.slots HO.out.shT_old HO.out.shT_now) ?_); rintro e w2 ⟨v1, v2, g1, g2, rfl, _, _, hs1, hs2, hF2⟩
  rw [show Sh.vals (Sh.write Sh.new 3 7).slot (Sh.write Sh.new 3 7).now = [0, 0, 0, 7, 0, 0, 0, 0] from by decide] at hs1
  rw [show Sh.vals (Sh.write Sh.new 3 7).slot (Sh.write Sh.new 3 7).old = [0, 0, 0, 0, 0, 0, 0, 0] from by decide] at hs2
  obtain ⟨A1, o1, c1, rfl, _, hA1, hc1⟩ := hs1.form
  obtain ⟨A2, o2, c2, rfl, _, hA2, hc2⟩ := hs2.form
  obtain rfl := hA1 (by decide)
  obtain rfl := hA2 (by decide)
  have k1 : w2.cell? ⟨g1, o1 + 3, none⟩ = some (.int .i64 7) := hc1 3 (by decide)
  have k2 : w2.cell? ⟨g2, o2 + 3, none⟩ = some (.int .i64 0) := hc2 3 (by decide)
  have HE := Lib.hid (sh_end w2 b _ (hF2.get HD1.out (by simp)) HO.out.slots HO.out.told.len HO.out.tnow.len)
  have HF2 := Lib.hid hF2
  clear hA1 hA2 hc1 hc2 hs1 hs2 hF2 HD1 HO
  go_wp2_with fail
  (refine useC HE.out ?_); rintro e w3 ⟨rfl, hD3, hF3⟩
  rw [show Sh.diff (Sh.write Sh.new 3 7).now (Sh.write Sh.new 3 7).old = 1 from by decide]
  have HF := Lib.hid (show Fr [] w w3 from ((HF0.out.step HF1.out (by simp; omega)).trans HF2.out).step hF3 (by simp; omega))
  clear hD3 hF3
  go_wp2
  go_ret
  exact ⟨rfl, HF.out⟩
end Go.Proofs.Ytmhmbgkpojgbbaa
