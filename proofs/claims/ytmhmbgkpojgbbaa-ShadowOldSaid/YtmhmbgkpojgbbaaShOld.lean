/- The walk of ShadowOld: whatever came in, the answer is true. -/
import Derived.Test.YtmhmbgkpojgbbaaShFact
namespace Go.Proofs.Ytmhmbgkpojgbbaa
open Go.RowKit

theorem shadowOld_walk (w : World) (v v' : Value) (ls ms : List (List Int)) (hR : Rw w.heap.size w v ls) (hR' : Rw w.heap.size w v' ms) :
    Calls Try.prog 3 #[v, v'] w (OkT w) := by
  have HR := Lib.hid hR
  obtain ⟨A, g, o, c, rfl, hm, hF⟩ := hR'
  have HF := Lib.hid hF
  clear hR hF
  go_enter Try.func3, Try.ntmps3
  go_wp2_with fail
  (refine useC (sh_fact _) ?_); rintro e w0 ⟨rfl, hF0⟩
  have HF0 := Lib.hid hF0
  clear hF0
  go_wp2_with fail
  (refine useC (sh_beside _ w.heap.size v ls (HR.out.below HF0.out.below) HF0.out.size) ?_); rintro e w1 ⟨b, rfl, hb, hD1, hF1⟩
  have HO := Lib.hid (Sh.run_ok Sh.new_ok (ls.take 60))
  generalize Sh.run Sh.new (ls.take 60) = d at hD1 HO
  have HD1 := Lib.hid hD1
  have HF1 := Lib.hid (HF0.out.trans hF1)
  have hbw : w.heap.size ≤ b := Nat.le_trans HF0.out.size hb
  clear hD1 hF1 HR HF0 hb
  go_wp2_with fail
  (refine useC (sh_Values _ b _ HD1.out HO.out.slots HO.out.shT_old HO.out.shT_now) ?_); rintro e w2 ⟨v1, v2, g1, g2, rfl, _, hg2, _, hs2, hF2⟩
  have hne : b < g2 := by have h := hg2.resolve_right (vals_ne HO.out.told.len); have := lt_of_heap HD1.out; omega
  have HD2 := Lib.hid (hF2.get HD1.out (by simp))
  have HF2 := Lib.hid (HF1.out.trans hF2)
  generalize hwant : Sh.vals d.slot d.old = want at hs2
  have HW := Lib.hid hwant
  have HS := Lib.hid hs2
  clear hg2 hs2 hF2 HD1 HF1 hwant
  go_wp2_with fail
  go_loopw [9] (fun i wr => ∃ k : Nat, k ≤ ms.length ∧ k ≤ 60 ∧ i = .int .i64 k ∧ Hid (∃ d' : Sh.D, ShD wr b d' ∧ Sh.OK d' ∧ Sh.vals d'.slot d'.old = want) ∧ Hid (Fr [] w wr) ∧ Hid (Sl wr v2 g2 want)) (fun i _ => 60 - (intOf i).toNat)
  case atStart => exact ⟨0, Nat.zero_le _, Nat.zero_le _, rfl, ⟨d, HD2.out, HO.out, HW.out⟩, HF2.out, HS.out⟩
  case round =>
    obtain ⟨k, hk, hk6, rfl, hD, hFr, hSl⟩ := hrel
    clear HD2 HF2 HS HO HW
    obtain ⟨d', hd1, hd2, hd3⟩ := hD.out
    have HD := Lib.hid hd1
    have HO := Lib.hid hd2
    have HW := Lib.hid hd3
    clear hD hd1 hd2 hd3
    by_cases hin : k < ms.length ∧ k < 60
    · obtain ⟨hlt, h60⟩ := hin
      obtain ⟨rfl, hg⟩ := HF.out.1 (by omega)
      obtain ⟨u, kb, hcell, hkb, hsl, _⟩ := (HF.out.below (hFr.out.toBelow (Nat.le_refl _) (by simp))).2 k hlt
      obtain ⟨A', o', c', rfl, hm', hA', hc'⟩ := hsl.form
      have HA' := Lib.hid hA'
      have HC' := Lib.hid hc'
      have i0 : (0 : Int) ≤ k := by omega
      have i1 : (k : Int) < ms.length := by omega
      clear hA' hc' hsl hkb
      by_cases hl2 : (nthR ms k).length = 2
      · obtain rfl := HA'.out (by omega)
        have c0 := HC'.out 0 (by omega)
        rw [Nat.add_zero] at c0
        have c1 := HC'.out 1 (by omega)
        have e2 : ((nthR ms k).length : Int) = 2 := by omega
        clear hl2
        go_wp2
        go_still_tail 13, (by kernel_rfl)
        go_wp2_with fail
        (refine useC (sh_write _ b d' _ _ ?_ HO.out) ?_); exact HD.out; rintro e w3 ⟨rfl, hD3, hF3⟩
        have HW3 := Lib.hid ((Sh.vals_old HO.out (nth (nthR ms k) 0) (nth (nthR ms k) 1)).trans HW.out)
        have HO3 := Lib.hid (Sh.write_ok HO.out (nth (nthR ms k) 0) (nth (nthR ms k) 1))
        have HD3 := Lib.hid hD3
        have HF3 := Lib.hid (hFr.out.step (((Fr.refl [b] wr).drew).trans hF3) (by simp; omega))
        have HS3 := Lib.hid (hSl.out.fr (((Fr.refl [b] wr).drew).trans hF3) (by simp; omega))
        clear hD3 hF3 HD HO HW hFr hSl
        go_wp2_with fail
        (refine useC (sh_Values _ b _ HD3.out HO3.out.slots HO3.out.shT_old HO3.out.shT_now) ?_); rintro e w4 ⟨u1, u2, k1, k2, rfl, _, _, _, hs4, hF4⟩
        rw [HW3.out] at hs4
        have HU4 := Lib.hid hs4
        have HD4 := Lib.hid (hF4.get HD3.out (by simp))
        have HF4 := Lib.hid (HF3.out.trans hF4)
        have HS4 := Lib.hid (HS3.out.fr hF4 (by simp))
        clear hs4 hF4 HD3 HF3 HS3
        go_wp2_with fail
        (refine useC (ints_same _ _ _ _ _ _ HU4.out HS4.out) ?_); rintro e w5 ⟨rfl, hF5⟩
        have HF5 := Lib.hid (HF4.out.trans (hF5.fr []))
        have HS5 := Lib.hid (HS4.out.fr (hF5.fr []) (by simp))
        have HD5 := Lib.hid ((hF5.fr []).get HD4.out (by simp))
        clear hF5 HF4 HS4 HU4 HD4
        go_wp2
        go_roundw
        case rel => exact ⟨k + 1, by omega, by omega, by go_num, ⟨_, HD5.out, HO3.out, HW3.out⟩, HF5.out, HS5.out⟩
        case measure => simp [intOf]; omega
      · have e2 : (((nthR ms k).length : Int) == 2) = false := by simp; omega
        clear hl2
        go_wp2_with fail
        (refine useC (sh_Values _ b _ HD.out HO.out.slots HO.out.shT_old HO.out.shT_now) ?_); rintro e w4 ⟨u1, u2, k1, k2, rfl, _, _, _, hs4, hF4⟩
        rw [HW.out] at hs4
        have HU4 := Lib.hid hs4
        have HD4 := Lib.hid (hF4.get HD.out (by simp))
        have HF4 := Lib.hid (hFr.out.trans hF4)
        have HS4 := Lib.hid (hSl.out.fr hF4 (by simp))
        clear hs4 hF4 HD hFr hSl
        go_wp2_with fail
        (refine useC (ints_same _ _ _ _ _ _ HU4.out HS4.out) ?_); rintro e w5 ⟨rfl, hF5⟩
        have HF5 := Lib.hid (HF4.out.trans (hF5.fr []))
        have HS5 := Lib.hid (HS4.out.fr (hF5.fr []) (by simp))
        have HD5 := Lib.hid ((hF5.fr []).get HD4.out (by simp))
        clear hF5 HF4 HS4 HU4 HD4
        go_wp2
        go_roundw
        case rel => exact ⟨k + 1, by omega, by omega, by go_num, ⟨_, HD5.out, HO.out, HW.out⟩, HF5.out, HS5.out⟩
        case measure => simp [intOf]; omega
    · have hout : ¬ (k : Int) < ms.length ∨ ((k : Int) < ms.length ∧ ¬ (k : Int) < 60) := by omega
      rcases hout with hout | ⟨hout, hout'⟩
      all_goals
        go_wp2_with fail
        (refine useC (sh_crash _ b _ HD.out HO.out.slots HO.out.told.len HO.out.tnow.len) ?_); rintro e w5 ⟨rfl, hD5, hF5⟩
        have HD5 := Lib.hid hD5
        have HF5 := Lib.hid (hFr.out.step hF5 (by simp; omega))
        have HS5 := Lib.hid (hSl.out.fr hF5 (by simp; omega))
        have HO5 := Lib.hid (Sh.crash_ok HO.out)
        clear hD5 hF5 HD hFr hSl
        go_wp2_with fail
        (refine useC (sh_Values _ b _ HD5.out HO5.out.slots HO5.out.shT_old HO5.out.shT_now) ?_); rintro e w6 ⟨u1, u2, k1, k2, rfl, _, _, hs1, hs2, hF6⟩
        rw [show Sh.vals (Sh.crash d').slot (Sh.crash d').now = want from HW.out] at hs1
        rw [show Sh.vals (Sh.crash d').slot (Sh.crash d').old = want from HW.out] at hs2
        have HF6 := Lib.hid (HF5.out.trans hF6)
        have HS6 := Lib.hid (HS5.out.fr hF6 (by simp))
        have HD6 := Lib.hid (hF6.get HD5.out (by simp))
        have HU1 := Lib.hid hs1
        have HU2 := Lib.hid hs2
        clear hs1 hs2 hF6 HD5 HF5 HS5
        go_wp2_with fail
        (refine useC (ints_same _ _ _ _ _ _ HU1.out HS6.out) ?_); rintro e w7 ⟨rfl, hF7⟩
        have HF7 := Lib.hid (HF6.out.trans (hF7.fr []))
        have HS7 := Lib.hid (HS6.out.fr (hF7.fr []) (by simp))
        have HU7 := Lib.hid (HU2.out.fr (hF7.fr []) (by simp))
        have HD7 := Lib.hid ((hF7.fr []).get HD6.out (by simp))
        clear hF7 HF6 HS6 HU1 HU2 HD6
        go_wp2_with fail
        (refine useC (ints_same _ _ _ _ _ _ HU7.out HS7.out) ?_); rintro e w8 ⟨rfl, hF8⟩
        have HF8 := Lib.hid (HF7.out.trans (hF8.fr []))
        have HD8 := Lib.hid ((hF8.fr []).get HD7.out (by simp))
        clear hF8 HF7 HD7 HS7 HU7
        go_wp2_with fail
        (refine useC (sh_end _ b _ HD8.out HO5.out.slots HO5.out.told.len HO5.out.tnow.len) ?_); rintro e w9 ⟨rfl, _, hF9⟩
        rw [show Sh.diff (Sh.crash d').now (Sh.crash d').old = 0 from Sh.diff_self d'.old]
        have HF9 := Lib.hid (HF8.out.step hF9 (by simp; omega))
        clear hF9 HF8 HD8
        go_wp2
        go_ret
        exact ⟨rfl, HF9.out⟩
end Go.Proofs.Ytmhmbgkpojgbbaa
