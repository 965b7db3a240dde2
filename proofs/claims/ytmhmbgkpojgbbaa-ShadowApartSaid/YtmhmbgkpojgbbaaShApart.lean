/- The walk of ShadowApart: whatever came in, the answer is true. -/
import Derived.Test.YtmhmbgkpojgbbaaShFact
namespace Go.Proofs.Ytmhmbgkpojgbbaa
open Go.RowKit

theorem shadowApart_walk (w : World) (v : Value) (ls : List (List Int)) (page value : Int) (hR : Rw w.heap.size w v ls) :
    Calls Try.prog 5 #[v, .int .i64 page, .int .i64 value] w (OkT w) := by
  have HR := Lib.hid hR
  clear hR
  go_enter Try.func5, Try.ntmps5
  go_wp2_with fail
  (refine useC (sh_fact _) ?_); rintro e w0 ⟨rfl, hF0⟩
  have HF0 := Lib.hid hF0
  clear hF0
  go_wp2_with fail
  (refine useC (sh_beside _ w.heap.size v ls (HR.out.below HF0.out.below) HF0.out.size) ?_); rintro e w1 ⟨b, rfl, hb, hD1, hF1⟩
  have HO := Lib.hid (Sh.run_ok Sh.new_ok (ls.take 60))
  generalize Sh.run Sh.new (ls.take 60) = d at hD1 HO
  have HD1 := Lib.hid hD1
  have HF1 := Lib.hid (HF0.out.trans hF1)
  have hbw : w.heap.size ≤ b := Nat.le_trans HF0.out.size hb
  clear hD1 hF1 HR HF0 hb
  go_wp2_with fail
  (refine useC (sh_Values _ b _ HD1.out HO.out.slots HO.out.shT_old HO.out.shT_now) ?_); rintro e w2 ⟨v1, v2, g1, g2, rfl, hg1, _, hs1, _, hF2⟩
  have hne : b < g1 := by have h := hg1.resolve_right (vals_ne HO.out.tnow.len); have := lt_of_heap HD1.out; omega
  have HS := Lib.hid hs1
  have HD2 := Lib.hid (hF2.get HD1.out (by simp))
  have HF2 := Lib.hid (HF1.out.trans hF2)
  clear hg1 hs1 hF2 HD1 HF1
  go_wp2_with fail
  by_cases hok : Sh.okP page value
  · have hok' := hok
    unfold Sh.okP at hok'
    obtain ⟨⟨hp0, hp7⟩, hv⟩ := hok'
    obtain ⟨p, rfl⟩ : ∃ p : Nat, page = (p : Int) := ⟨page.toNat, by omega⟩
    have hp : p < 8 := by omega
    (refine useC (sh_write _ b d _ _ HD2.out HO.out) ?_); rintro e w3 ⟨rfl, hD3, hF3⟩
    rw [show shAns d p value = .tuple #[.int .i64 (nth (Sh.now1 d p) p), .nilIface] from by unfold shAns; rw [if_pos hok, Int.toNat_natCast]]
    rw [show Sh.write d p value = Sh.put d p value from by unfold Sh.write; rw [if_pos hok, Int.toNat_natCast]] at hD3
    have HO3 := Lib.hid (Sh.put_ok HO.out hp value)
    have HV := Lib.hid (Sh.vals_put_same HO.out hp value)
    have HV' := Lib.hid (fun (i : Nat) (hi : i < 8) (hne : i ≠ p) => Sh.vals_put_other HO.out hp hi hne value)
    have HD3 := Lib.hid hD3
    have HF3 := Lib.hid (HF2.out.step hF3 (by simp; omega))
    have HS3 := Lib.hid (HS.out.fr hF3 (by simp; omega))
    have HL := Lib.hid HO.out.tnow.len
    clear hD3 hF3 HD2 HF2 HS hok hv
    go_wp2_with fail
    (refine useC (sh_slots _ b _ HD3.out HO3.out.slots HO3.out.told.len HO3.out.tnow.len) ?_); rintro e w4 ⟨u1, k1, rfl, _, hs4, hF4⟩
    have HU := Lib.hid hs4
    have HD4 := Lib.hid (hF4.get HD3.out (by simp))
    have HF4 := Lib.hid (HF3.out.trans hF4)
    have HS4 := Lib.hid (HS3.out.fr hF4 (by simp))
    clear hs4 hF4 HD3 HF3 HS3
    go_wp2_with fail
    (refine useC (sh_Values _ b _ HD4.out HO3.out.slots HO3.out.shT_old HO3.out.shT_now) ?_); rintro e w5 ⟨u2, u3, k2, k3, rfl, _, _, hs5, _, hF5⟩
    have hT := HO3.out.tnow
    have e8 : (Sh.vals (Sh.put d p value).slot (Sh.put d p value).now).length = 8 := by simp [Sh.vals, hT.len]
    have f8 : (Sh.vals d.slot d.now).length = 8 := by simp [Sh.vals, HL.out]
    have g8 := hT.len
    have hU := HU.out.fr hF5 (by simp)
    have hS := HS4.out.fr hF5 (by simp)
    have HF5 := Lib.hid (HF4.out.trans hF5)
    have hat : nth (Sh.now1 d p) p = nth (Sh.put d p value).now p := rfl
    rw [hat]
    generalize Sh.vals (Sh.put d p value).slot (Sh.put d p value).now = is at hs5 HV HV' e8
    generalize Sh.vals d.slot d.now = was at hS HV' f8
    generalize (Sh.put d p value).now = t at hU hT g8
    obtain ⟨A1, o1, c1, rfl, _, hA1, hc1⟩ := hU.form
    obtain ⟨A2, o2, c2, rfl, _, hA2, hc2⟩ := hs5.form
    obtain ⟨A3, o3, c3, rfl, _, hA3, hc3⟩ := hS.form
    obtain rfl := hA1 (by omega)
    obtain rfl := hA2 (by omega)
    obtain rfl := hA3 (by omega)
    rw [e8, f8, g8]
    have C1 : Hid (∀ i, i < 8 → w5.cell? ⟨k1, o1 + i, none⟩ = some (.int .i64 (nth t i))) := fun i hi => hc1 i (by omega)
    have C2 : Hid (∀ i, i < 8 → w5.cell? ⟨k2, o2 + i, none⟩ = some (.int .i64 (nth is i))) := fun i hi => hc2 i (by omega)
    have C3 : Hid (∀ i, i < 8 → w5.cell? ⟨g1, o3 + i, none⟩ = some (.int .i64 (nth was i))) := fun i hi => hc3 i (by omega)
    have HT := Lib.hid hT
    have d1 := C1.out p hp
    have d2 := C2.out p hp
    rw [HV.out] at d2
    have e1 : decide ((0 : Int) ≤ p ∧ (p : Int) ≤ 7) = true := by simp; omega
    have i2 : (p : Int) < 8 := by omega
    clear hat e8 f8 g8 hU hS hs5 hc1 hc2 hc3 hA1 hA2 hA3 hT hF5 HD4 HF4 HS4 HU HO3 HV HO HL hp7
    go_wp2_with (go_at_call 19; (with_reducible refine useC (in3_any _ _ _ _) ?_); rw [e1]; rintro e w' ⟨rfl, rfl⟩)
    go_loopw [16] (fun i wr => ∃ k : Nat, k ≤ 8 ∧ i = .int .i64 k ∧ Hid (Dr w5 wr)) (fun i _ => 8 - (intOf i).toNat)
    case atStart => exact ⟨0, Nat.zero_le _, rfl, Dr.refl _⟩
    case round =>
      obtain ⟨k, hk, rfl, hdr⟩ := hrel
      by_cases hlt : k < 8
      · have c1' := (hdr.out.cell _).trans (C1.out k hlt)
        have c2' := (hdr.out.cell _).trans (C2.out k hlt)
        have c3' := (hdr.out.cell _).trans (C3.out k hlt)
        have j0 : (0 : Int) ≤ k := by omega
        have j1 : (k : Int) < 8 := by omega
        have e2 : decide (-1 ≤ nth t k ∧ nth t k ≤ 15) = true := by have := HT.out.lo k hlt; have := HT.out.hi k hlt; simp; omega
        have HE2 := Lib.hid e2
        -- the test of this page, by whether it is the one that was written
        have hkp : (((k : Int) != (p : Int)) = false) ∨ (((k : Int) != (p : Int)) = true ∧ (nth is k != nth was k) = false) := by
          by_cases hkp : k = p
          · exact .inl (by simp [hkp])
          · exact .inr ⟨by simp; omega, by simp [HV'.out k hlt hkp]⟩
        clear e2 C2 C3
        rcases hkp with hkp | ⟨hkp, hkp'⟩
        all_goals
          go_wp2
          go_quiet ((go_at_call 19; exact Calls.quiet_of_same (in3_is _ _ _ true _ HE2.out)))
          go_wp2
          have hdr1 := Lib.hid (hdr.out.trans (Dr.one wr nq))
          generalize hwq : wr.drewN nq = wq at hdr1
          clear hwq hdr c1' c2' c3'
          go_loopw [17] (fun i wr => ∃ m : Nat, m ≤ k ∧ i = .int .i64 m ∧ Hid (Dr w5 wr)) (fun i _ => k - (intOf i).toNat)
          case atStart => exact ⟨0, Nat.zero_le _, rfl, hdr1.out⟩
          case round =>
            obtain ⟨m, hm, rfl, hdm⟩ := hrel
            by_cases hmk : m < k
            · have q1 := (hdm.out.cell _).trans (C1.out k hlt)
              have q2 := (hdm.out.cell _).trans (C1.out m (by omega))
              have m0 : (0 : Int) ≤ m := by omega
              have m1 : (m : Int) < 8 := by omega
              have hsep : decide (0 ≤ nth t k) = false ∨ (decide (0 ≤ nth t k) = true ∧ (nth t k == nth t m) = false) := by
                by_cases h0 : 0 ≤ nth t k
                · exact .inr ⟨by simpa using h0, by have := HT.out.sep k m hlt (by omega) (by omega) h0; simpa using this⟩
                · exact .inl (by simpa using h0)
              rcases hsep with hsep | ⟨hsep, hsep'⟩
              all_goals
                go_wp2
                go_quiet (fail)
                go_wp2
                go_roundw
                case rel => exact ⟨m + 1, by omega, by go_num, hdm.out.trans (Dr.one _ _)⟩
                case measure => simp [intOf]; omega
            · go_wp2
              go_roundw
              case rel => exact ⟨k + 1, by omega, by go_num, hdm.out⟩
              case measure => simp [intOf]; omega
      · go_wp2
        go_ret
        exact ⟨rfl, HF5.out.trans (hdr.out.fr [])⟩
  · have hb2 : decide (0 ≤ page ∧ page ≤ 7) = false ∨ (decide (0 ≤ page ∧ page ≤ 7) = true ∧ decide (0 ≤ value ∧ value ≤ 1000) = false) := by
      unfold Sh.okP at hok
      by_cases h1 : 0 ≤ page ∧ page ≤ 7
      · exact .inr ⟨by simpa using h1, by simpa using fun h2 => hok ⟨h1, h2⟩⟩
      · exact .inl (by simpa using h1)
    (refine useC (sh_write _ b d _ _ HD2.out HO.out) ?_); rintro e w3 ⟨rfl, _, hF3⟩
    rw [show shAns d page value = shErr 1 from by unfold shAns; rw [if_neg hok]]
    have HF3 := Lib.hid (HF2.out.step hF3 (by simp; omega))
    clear hF3 HD2 HF2 HS hok
    unfold shErr
    rcases hb2 with hb2 | ⟨hb2, hb3⟩
    · go_wp2_with (go_at_call 19; (with_reducible refine useC (in3_any _ _ _ _) ?_); rw [hb2]; rintro e w' ⟨rfl, rfl⟩)
      go_ret
      exact ⟨rfl, HF3.out⟩
    · go_wp2_with (go_at_call 19; (with_reducible refine useC (in3_any _ _ _ _) ?_); (first | rw [hb2] | rw [hb3]); rintro e w' ⟨rfl, rfl⟩)
      go_ret
      exact ⟨rfl, HF3.out⟩
end Go.Proofs.Ytmhmbgkpojgbbaa
