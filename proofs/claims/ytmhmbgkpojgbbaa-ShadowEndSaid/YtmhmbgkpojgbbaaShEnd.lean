/- The walk of ShadowEnd: whatever came in, the answer is true. -/
import Derived.Test.YtmhmbgkpojgbbaaShFact
namespace Go.Proofs.Ytmhmbgkpojgbbaa
open Go.RowKit

theorem shadowEnd_walk (w : World) (v : Value) (ls : List (List Int)) (hR : Rw w.heap.size w v ls) :
    Calls Try.prog 4 #[v] w (OkT w) := by
  have HR := Lib.hid hR
  clear hR
  go_enter Try.func4, Try.ntmps4
  go_wp2_with fail
  (refine useC (sh_fact _) ?_); rintro e w0 ⟨rfl, hF0⟩
  have HF0 := Lib.hid hF0
  clear hF0
  go_wp2_with fail
  (refine useC (sh_beside _ w.heap.size v ls (HR.out.below HF0.out.below) HF0.out.size) ?_); rintro e w1 ⟨b, rfl, hb, hD1, hF1⟩
  have HO := Lib.hid (Sh.run_ok Sh.new_ok (ls.take 60))
  generalize Sh.run Sh.new (ls.take 60) = d at hD1 HO
  have HD1 := Lib.hid hD1
  have HF1 := Lib.hid (HF0.out.trans hF1)
  have hbw : w.heap.size ≤ b := Nat.le_trans HF0.out.size hb
  clear hD1 hF1 HR HF0 hb
  go_wp2_with fail
  (refine useC (sh_Values _ b _ HD1.out HO.out.slots HO.out.shT_old HO.out.shT_now) ?_); rintro e w2 ⟨v1, v2, g1, g2, rfl, hg1, _, hs1, _, hF2⟩
  have hne : b < g1 := by have h := hg1.resolve_right (vals_ne HO.out.tnow.len); have := lt_of_heap HD1.out; omega
  have HS := Lib.hid hs1
  have HD2 := Lib.hid (hF2.get HD1.out (by simp))
  have HF2 := Lib.hid (HF1.out.trans hF2)
  clear hg1 hs1 hF2 HD1 HF1
  go_wp2_with fail
  (refine useC (sh_end _ b _ HD2.out HO.out.slots HO.out.told.len HO.out.tnow.len) ?_); rintro e w3 ⟨rfl, hD3, hF3⟩
  have HD3 := Lib.hid hD3
  have HF3 := Lib.hid (HF2.out.step hF3 (by simp; omega))
  have HS3 := Lib.hid (HS.out.fr hF3 (by simp; omega))
  have HO3 := Lib.hid (Sh.fin_ok HO.out)
  clear hD3 hF3 HD2 HF2 HS
  go_wp2_with fail
  (refine useC (sh_end _ b _ HD3.out HO3.out.slots HO3.out.told.len HO3.out.tnow.len) ?_); rintro e w4 ⟨rfl, hD4, hF4⟩
  rw [show Sh.diff (Sh.fin d).now (Sh.fin d).old = 0 from Sh.diff_self d.now]
  have HD4 := Lib.hid hD4
  have HF4 := Lib.hid (HF3.out.step hF4 (by simp; omega))
  have HS4 := Lib.hid (HS3.out.fr hF4 (by simp; omega))
  have HO4 := Lib.hid (Sh.fin_ok HO3.out)
  clear hD4 hF4 HD3 HF3 HS3
  go_wp2_with fail
  (refine useC (sh_crash _ b _ HD4.out HO4.out.slots HO4.out.told.len HO4.out.tnow.len) ?_); rintro e w5 ⟨rfl, hD5, hF5⟩
  have HD5 := Lib.hid hD5
  have HF5 := Lib.hid (HF4.out.step hF5 (by simp; omega))
  have HS5 := Lib.hid (HS4.out.fr hF5 (by simp; omega))
  have HO5 := Lib.hid (Sh.crash_ok HO4.out)
  clear hD5 hF5 HD4 HF4 HS4
  go_wp2_with fail
  (refine useC (sh_Values _ b _ HD5.out HO5.out.slots HO5.out.shT_old HO5.out.shT_now) ?_); rintro e w6 ⟨u1, u2, k1, k2, rfl, _, _, hs1, hs2, hF6⟩
  have HF6 := Lib.hid (HF5.out.trans hF6)
  have HS6 := Lib.hid (HS5.out.fr hF6 (by simp))
  have HU1 := Lib.hid hs1
  have HU2 := Lib.hid hs2
  clear hs1 hs2 hF6 HD5 HF5 HS5
  go_wp2_with fail
  (refine useC (ints_same _ _ _ _ _ _ HU1.out HS6.out) ?_); rintro e w7 ⟨rfl, hF7⟩
  have HF7 := Lib.hid (HF6.out.trans (hF7.fr []))
  have HS7 := Lib.hid (HS6.out.fr (hF7.fr []) (by simp))
  have HU7 := Lib.hid (HU2.out.fr (hF7.fr []) (by simp))
  clear hF7 HF6 HS6 HU1 HU2
  go_wp2_with fail
  (refine useC (ints_same _ _ _ _ _ _ HU7.out HS7.out) ?_); rintro e w8 ⟨rfl, hF8⟩
  have HF8 := Lib.hid (HF7.out.trans (hF8.fr []))
  clear hF8
  go_wp2
  go_ret
  exact ⟨rfl, HF8.out⟩
end Go.Proofs.Ytmhmbgkpojgbbaa
