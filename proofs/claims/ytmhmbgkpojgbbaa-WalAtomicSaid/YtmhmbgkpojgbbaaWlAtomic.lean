/- WalAtomic: wherever it crashes, all is as the turns leave it that ended first. -/
import Derived.Test.YtmhmbgkpojgbbaaWlHomeL
namespace Go.Proofs.Ytmhmbgkpojgbbaa
open Go.RowKit

namespace Wl
/-- The same steps anew, k of them. -/
def X (ls : List (List Int)) (k : Nat) : D := ⟨List.replicate 8 0, runL ls k, 0⟩
theorem X_write (ls : List (List Int)) (k : Nat) (h : (nthR ls k).length = 3) : write (X ls k) (nth (nthR ls k) 0) (nth (nthR ls k) 1) (nth (nthR ls k) 2) = (X ls (k + 1), wrErr (runL ls k) (nth (nthR ls k) 0) (nth (nthR ls k) 1) (nth (nthR ls k) 2)) := by
  obtain ⟨h1, h2⟩ := write_log (X ls k) (nth (nthR ls k) 0) (nth (nthR ls k) 1) (nth (nthR ls k) 2)
  have e0 : runL ls (k + 1) = if wrErr (runL ls k) (nth (nthR ls k) 0) (nth (nthR ls k) 1) (nth (nthR ls k) 2) = 0 then runL ls k ++ [⟨nth (nthR ls k) 0, nth (nthR ls k) 1, nth (nthR ls k) 2, false⟩] else runL ls k := by
    rw [runL]
    unfold stepL
    rw [if_neg (by omega), if_pos h]
  have e : (write (X ls k) (nth (nthR ls k) 0) (nth (nthR ls k) 1) (nth (nthR ls k) 2)).1 = X ls (k + 1) := by
    rw [h1]
    show _ = (⟨List.replicate 8 0, runL ls (k + 1), 0⟩ : D)
    rw [e0]
    rfl
  exact Prod.ext e h2
theorem X_end (ls : List (List Int)) (k : Nat) (h : (nthR ls k).length = 1) : end_ (X ls k) (nth (nthR ls k) 0) = (X ls (k + 1), endErr (runL ls k) (nth (nthR ls k) 0)) := by
  obtain ⟨h1, h2⟩ := end_log (X ls k) (nth (nthR ls k) 0)
  have e0 : runL ls (k + 1) = if endErr (runL ls k) (nth (nthR ls k) 0) = 0 then runL ls k ++ [⟨nth (nthR ls k) 0, 0, 0, true⟩] else runL ls k := by
    rw [runL]
    unfold stepL
    rw [if_pos h]
  have e : (end_ (X ls k) (nth (nthR ls k) 0)).1 = X ls (k + 1) := by
    rw [h1]
    show _ = (⟨List.replicate 8 0, runL ls (k + 1), 0⟩ : D)
    rw [e0]
    rfl
  exact Prod.ext e h2
theorem X_else (ls : List (List Int)) (k : Nat) (h1 : (nthR ls k).length ≠ 1) (h3 : (nthR ls k).length ≠ 3) : X ls (k + 1) = X ls k := by
  unfold X
  rw [runL]
  unfold stepL
  rw [if_neg h1, if_neg h3]
theorem len_write (ls : List (List Int)) (k : Nat) (h : (nthR ls k).length = 3) : (runL ls (k + 1)).length = if wrErr (runL ls k) (nth (nthR ls k) 0) (nth (nthR ls k) 1) (nth (nthR ls k) 2) = 0 then (runL ls k).length + 1 else (runL ls k).length := by
  rw [runL]
  unfold stepL
  rw [if_neg (by omega), if_pos h]
  split
  · rw [List.length_append]; rfl
  · rfl
theorem len_end (ls : List (List Int)) (k : Nat) (h : (nthR ls k).length = 1) : (runL ls (k + 1)).length = if endErr (runL ls k) (nth (nthR ls k) 0) = 0 then (runL ls k).length + 1 else (runL ls k).length := by
  rw [runL]
  unfold stepL
  rw [if_pos h]
  split
  · rw [List.length_append]; rfl
  · rfl
theorem vals_end (ls : List (List Int)) (k : Nat) (h : (nthR ls k).length = 1) (he : endErr (runL ls k) (nth (nthR ls k) 0) ≠ 0) : values (X ls (k + 1)) = values (X ls k) := by
  have : runL ls (k + 1) = runL ls k := by
    rw [runL]
    unfold stepL
    rw [if_pos h, if_neg he]
  unfold X
  rw [this]
theorem X_ok (ls : List (List Int)) (k : Nat) : OK (X ls k) := by
  have h := runD_ok ls k
  obtain ⟨h1, h2⟩ := runD_log ls k
  refine ⟨rfl, by have := h.len; rw [h1] at this; exact this, Nat.zero_le _, ?_, ?_⟩
  · have := h.blk; rw [h1] at this; exact this
  · have := h.trn; rw [h1] at this; exact this
end Wl
theorem RowO.old {P : Nat → Prop} {wr w' : World} {v : Value} {xs : List Int} (h : RowO P wr v xs) (hf : Fr [] wr w') : RowO (fun k => wr.heap.size ≤ k ∧ k < w'.heap.size) w' v xs := by
  obtain ⟨g, hg, hs⟩ := h
  exact ⟨g, hg.imp_right (fun hg => ⟨fun hn => by omega, Nat.lt_of_lt_of_le hg.2 hf.size⟩), hs.fr hf (by simp)⟩
set_option maxRecDepth 100000 in
set_option maxHeartbeats 8000000 in
theorem wl_atomic (w : World) (v : Value) (ls : List (List Int)) (n : Int) (hR : Rw w.heap.size w v ls) :
    Calls Try.prog 8 #[v, .int .i64 n] w (OkT w) := by
  have HR := Lib.hid hR
  clear hR
  have HL := Lib.hid (fun W (hW : Fr [] w W) => wl_logged W w.heap.size v ls (HR.out.below (hW.toBelow (Nat.le_refl _) (by simp))) hW.size)
  have HDL := Lib.hid (Wl.runD_log ls (min ls.length 80))
  generalize Wl.runD ls (min ls.length 80) = d at *
  obtain ⟨A, g, o, c, rfl, hm, hF⟩ := HR.out
  have HF := Lib.hid hF
  have HCR := Lib.hid (fun W P b (h : WlF P W b d) => wl_Crash W P b d n h)
  clear hF
  by_cases hc : (d.syn : Int) ≤ n ∧ n ≤ d.log.length
  · obtain ⟨m, rfl⟩ : ∃ m : Nat, n = m := ⟨n.toNat, by omega⟩
    obtain ⟨e1, e2⟩ := Wl.values_crash (d := d) (n := m) (by omega)
    have hml : m ≤ d.log.length := by omega
    have HML := Lib.hid hml
    rw [e1] at HCR e2
    rw [show errV 0 = .nilIface from rfl] at HCR
    dsimp only at HCR e2
    generalize (⟨d.home, Wl.last (d.log.take m), (Wl.last (d.log.take m)).length⟩ : Wl.D) = d1 at *
    have HV := Lib.hid e2
    have HLAW : Hid (∀ k, k ≤ min ls.length 80 → (Wl.runL ls k).length = m → Wl.values d1 = Wl.values (Wl.X ls k)) := fun k hk hn => by
      rw [HV.out, Wl.atomic ls hk hn d HDL.out.1, HDL.out.2]
      rfl
    have HEND : Hid (∀ k, k = min ls.length 80 → (Wl.runL ls k).length ≤ m → (Wl.runL ls k).length = m) := fun k hk hn => by
      have := HML.out
      rw [HDL.out.1, ← hk] at this
      omega
    have HN := Lib.hid (fun W => wl_New W)
    have HV0 : Hid (Wl.values (Wl.X ls 0) = Wl.values Wl.new) := rfl
    clear e1 e2 hc hml
    go_enter Try.func8, Try.ntmps8
    go_wp2_with (first
      | (go_at_call 28; (with_reducible refine useC (wl_fact w) ?_); rintro e w1 ⟨rfl, hf⟩; have HF1 := Lib.hid hf; clear hf)
      | (go_at_call 29; (with_reducible refine useC (HL.out w1 HF1.out) ?_); rintro e w2 ⟨b, P2, rfl, hs⟩; have HS2 := Lib.hid (hs.rebase HF1.out); have HK2 := Lib.hid (wl_Log w2 P2 b d HS2.out.file); clear hs)
      | (go_at_call 35; (with_reducible refine useC HK2.out ?_); rintro e w3 ⟨rfl, hf⟩; have HS3 := Lib.hid (HS2.out.step hf); have HK3 := Lib.hid (HCR.out w3 P2 b HS3.out.file); clear hf HK2 HS2)
      | (go_at_call 34; (with_reducible refine useC HK3.out ?_); rintro e w4 ha; obtain ⟨rfl, hs, -⟩ := HS3.out.turn ha; obtain ⟨P4, HS4⟩ : ∃ P, Hid (WlS w w4 P b d1) := ⟨_, hs⟩; have HK4 := Lib.hid (wl_Values w4 P4 b d1 HS4.out.file); clear ha hs HK3 HS3)
      | (go_at_call 30; (with_reducible refine useC HK4.out ?_); rintro e w5 hn; obtain ⟨v5, rfl, hr, hf⟩ := RowO.of HS4.out hn; have HR5 := Lib.hid hr; have HF5 := Lib.hid (HS4.out.fr.trans hf); clear hn hr hf HK4 HS4)
      | (go_at_call 36; (with_reducible refine useC (HN.out w5) ?_); rintro e w6 ⟨b2, rfl, hs, hf⟩; obtain ⟨P6, HS6, HR6⟩ : ∃ P, Hid (WlS w w6 P b2 Wl.new) ∧ Hid (RowO P w6 v5 (Wl.values d1)) := ⟨_, WlS.made HF5.out hs hf, HR5.out.old hf⟩; have HK6 := Lib.hid (wl_Values w6 P6 b2 Wl.new HS6.out.file); clear hs hf HR5)
      | (go_at_call 30; (with_reducible refine useC HK6.out ?_); rintro e w7 hn; obtain ⟨v7, rfl, hr, hf⟩ := RowO.of HS6.out hn; rw [← HV0.out] at hr; have HR7 := Lib.hid hr; have HR7b := Lib.hid (HR6.out.step hf); have HS7 : Hid (WlS w w7 P6 b2 (Wl.X ls 0)) := HS6.out.step hf; clear hn hr hf HK6 HS6 HR6))
    go_loopw [11, 12, 13] (fun a h i wr => ∃ k : Nat, k ≤ ls.length ∧ k ≤ 80 ∧ i = .int .i64 k ∧ ∃ q : Nat, h = .int .i64 q ∧ q ≤ m ∧ Hid (q = (Wl.runL ls k).length) ∧ ∃ P, Hid (WlS w wr P b2 (Wl.X ls k)) ∧ Hid (RowO P wr v5 (Wl.values d1)) ∧ Hid (RowO P wr a (Wl.values (Wl.X ls k)))) (fun _ _ i _ => 80 - (intOf i).toNat)
    case atStart => exact ⟨0, Nat.zero_le _, Nat.zero_le _, rfl, 0, rfl, Nat.zero_le _, rfl, _, HS7, HR7b, HR7⟩
    case round =>
      clear HS7 HR7 HR7b
      obtain ⟨k, hk, hk8, rfl, q, rfl, hqm, hq, P, hS, hI, hW⟩ := hrel
      by_cases hin : (k < ls.length ∧ k < 80) ∧ q < m
      · obtain ⟨⟨hlt, h80⟩, hqm'⟩ := hin
        obtain ⟨rfl, hg⟩ := HF.out.1 (by omega)
        obtain ⟨u, kb, hcell, hkb, hsl, _⟩ := (HF.out.below (hS.out.fr.toBelow (Nat.le_refl _) (by simp))).2 k hlt
        obtain ⟨A', o', c', rfl, hm', hA', hc'⟩ := hsl.form
        have i0 : (0 : Int) ≤ k := by omega
        have i1 : (k : Int) < ls.length := by omega
        have i4 : (k : Int) < 80 := by omega
        have i5 : (q : Int) < m := by omega
        have hq60 : q ≤ 60 := by rw [hq.out]; exact (Wl.X_ok ls k).len
        clear hsl
        by_cases hl1 : (nthR ls k).length = 1
        · have b3 : (((nthR ls k).length : Int) == 3) = false := beq_eq_false_iff_ne.2 (by omega)
          obtain rfl := hA' (by omega)
          have c0 := hc' 0 (by omega)
          rw [Nat.add_zero] at c0
          rw [hl1] at hcell b3
          have HLN := Lib.hid (Wl.len_end ls k hl1)
          have HVE := Lib.hid (Wl.vals_end ls k hl1)
          have HC := wl_End wr.drew P b2 (Wl.X ls k) (nth (nthR ls k) 0) (hS.out.file.keep ((Fr.refl [] wr).drew))
          rw [Wl.X_end ls k hl1] at HC
          have HCE := Lib.hid HC
          have HSD := Lib.hid (hS.out.step ((Fr.refl [] wr).drew))
          have HID := Lib.hid (hI.out.step ((Fr.refl [] wr).drew))
          have HWD := Lib.hid (hW.out.step ((Fr.refl [] wr).drew))
          clear hc' hA' hl1 hkb HC hS hI hW
          generalize nth (nthR ls k) 0 = x0 at *
          generalize Wl.endErr (Wl.runL ls k) x0 = ce at *
          by_cases he : ce = 0
          · have HL2 := Lib.hid (HLN.out.trans (if_pos he))
            subst he
            rw [show errV 0 = .nilIface from rfl] at HCE
            clear HLN HVE
            go_wp2_with fail
            (refine wp_region_mixq 15 [(true, 0), (true, 1), (true, 2), (true, 3), (true, 4), (true, 5), (true, 6), (true, 7), (true, 8), (true, 9), (true, 10), (true, 11), (true, 12), (true, 13), (true, 14)] (by kernel_rfl) (by kernel_rfl) ?_; simp only [pickOps, List.map_cons, List.map_nil, List.getD_cons_zero, List.getD_cons_succ, List.drop_succ_cons, List.drop_zero]; (iterate 15 (first | (refine wpMix_take (v := ?_) (by rfl) ?_ ?_; rotate_left; (focus (intro W hW; subst hW; go_simp; (try with_reducible rfl); done)); try simp only [Act.put, List.setIfInBounds_toArray, List.set_cons_zero, List.set_cons_succ]) | (refine wpMix_leave (by rfl) ?_; try simp only [Act.put, List.setIfInBounds_toArray, List.set_cons_zero, List.set_cons_succ]))); refine wpMix_nil ?_)
            go_wp2_with (first
              | (go_at_call 32; (with_reducible refine useC HCE.out ?_); rintro e w3 ha; obtain ⟨rfl, hs, hfp⟩ := HSD.out.turn ha; obtain ⟨P3, HS3, HI3⟩ : ∃ P, Hid (WlS w w3 P b2 (Wl.X ls (k + 1))) ∧ Hid (RowO P w3 v5 (Wl.values d1)) := ⟨_, hs, HID.out.turn hfp⟩; have HC3 := Lib.hid (wl_Values w3 P3 b2 _ HS3.out.file); clear ha hs hfp)
              | (go_at_call 30; (with_reducible refine useC HC3.out ?_); rintro e w4 hn; obtain ⟨v4, rfl, hr, hf⟩ := RowO.of HS3.out hn; have HW4 := Lib.hid hr; have HI4 := Lib.hid (HI3.out.step hf); have HS4 := Lib.hid (HS3.out.step hf); clear hn hr hf))
            go_roundw
            case rel => exact ⟨k + 1, by omega, by omega, by go_num, q + 1, by go_num, by omega, (by show q + 1 = _; rw [HL2.out, hq.out]), P3, HS4, HI4, HW4⟩
            case measure => simp [intOf]; omega
          · have HL2 := Lib.hid (HLN.out.trans (if_neg he))
            have HV2 := Lib.hid (HVE.out he)
            have HE := Lib.hid (errV_no he)
            rw [HE.out] at HCE
            clear HLN HVE he
            go_wp2_with fail
            (refine wp_region_mixq 15 [(true, 0), (true, 1), (true, 2), (true, 3), (true, 4), (true, 5), (true, 6), (true, 7), (true, 8), (true, 9), (true, 10), (true, 11), (true, 12), (true, 13), (true, 14)] (by kernel_rfl) (by kernel_rfl) ?_; simp only [pickOps, List.map_cons, List.map_nil, List.getD_cons_zero, List.getD_cons_succ, List.drop_succ_cons, List.drop_zero]; (iterate 15 (first | (refine wpMix_take (v := ?_) (by rfl) ?_ ?_; rotate_left; (focus (intro W hW; subst hW; go_simp; (try with_reducible rfl); done)); try simp only [Act.put, List.setIfInBounds_toArray, List.set_cons_zero, List.set_cons_succ]) | (refine wpMix_leave (by rfl) ?_; try simp only [Act.put, List.setIfInBounds_toArray, List.set_cons_zero, List.set_cons_succ]))); refine wpMix_nil ?_)
            go_wp2_with (first
              | (go_at_call 32; (with_reducible refine useC HCE.out ?_); rintro e w3 ha; obtain ⟨rfl, hs, hfp⟩ := HSD.out.turn ha; obtain ⟨P3, HS3, HI3, HW3⟩ : ∃ P, Hid (WlS w w3 P b2 (Wl.X ls (k + 1))) ∧ Hid (RowO P w3 v5 (Wl.values d1)) ∧ Hid (RowO P w3 u11 (Wl.values (Wl.X ls k))) := ⟨_, hs, HID.out.turn hfp, HWD.out.turn hfp⟩; clear ha hs hfp))
            go_roundw
            case rel => exact ⟨k + 1, by omega, by omega, by go_num, q, rfl, hqm, (by show q = _; rw [HL2.out, hq.out]), P3, HS3, HI3, (by show RowO _ _ _ _; rw [HV2.out]; exact HW3.out)⟩
            case measure => simp [intOf]; omega
        · have b1 : (((nthR ls k).length : Int) == 1) = false := beq_eq_false_iff_ne.2 (by omega)
          by_cases hl3 : (nthR ls k).length = 3
          · obtain rfl := hA' (by omega)
            have c0 := hc' 0 (by omega)
            have c1 := hc' 1 (by omega)
            have c2 := hc' 2 (by omega)
            rw [Nat.add_zero] at c0
            rw [hl3] at hcell b1
            have HLN := Lib.hid (Wl.len_write ls k hl3)
            have HC := wl_Write wr.drew P b2 (Wl.X ls k) (nth (nthR ls k) 0) (nth (nthR ls k) 1) (nth (nthR ls k) 2) (hS.out.file.keep ((Fr.refl [] wr).drew))
            have hvw := Wl.values_write (Wl.X ls k) (nth (nthR ls k) 0) (nth (nthR ls k) 1) (nth (nthR ls k) 2)
            rw [Wl.X_write ls k hl3] at HC hvw
            have HCE := Lib.hid HC
            have HV2 := Lib.hid hvw
            have HSD := Lib.hid (hS.out.step ((Fr.refl [] wr).drew))
            have HID := Lib.hid (hI.out.step ((Fr.refl [] wr).drew))
            have HWD := Lib.hid (hW.out.step ((Fr.refl [] wr).drew))
            clear hc' hA' hl1 hl3 hkb HC hvw hS hI hW
            generalize nth (nthR ls k) 0 = x0 at *
            generalize nth (nthR ls k) 1 = x1 at *
            generalize nth (nthR ls k) 2 = x2 at *
            generalize Wl.wrErr (Wl.runL ls k) x0 x1 x2 = ce at *
            by_cases he : ce = 0
            · have HL2 := Lib.hid (HLN.out.trans (if_pos he))
              subst he
              rw [show errV 0 = .nilIface from rfl] at HCE
              clear HLN
              go_wp2_with fail
              (refine wp_region_mixq 15 [(true, 0), (true, 1), (true, 2), (true, 3), (true, 4), (true, 5), (true, 6), (true, 7), (true, 8), (true, 9), (true, 10), (true, 11), (true, 12), (true, 13), (true, 14)] (by kernel_rfl) (by kernel_rfl) ?_; simp only [pickOps, List.map_cons, List.map_nil, List.getD_cons_zero, List.getD_cons_succ, List.drop_succ_cons, List.drop_zero]; (iterate 15 (first | (refine wpMix_take (v := ?_) (by rfl) ?_ ?_; rotate_left; (focus (intro W hW; subst hW; go_simp; (try with_reducible rfl); done)); try simp only [Act.put, List.setIfInBounds_toArray, List.set_cons_zero, List.set_cons_succ]) | (refine wpMix_leave (by rfl) ?_; try simp only [Act.put, List.setIfInBounds_toArray, List.set_cons_zero, List.set_cons_succ]))); refine wpMix_nil ?_)
              go_wp2_with (first
                | (go_at_call 31; (with_reducible refine useC HCE.out ?_); rintro e w3 ha; obtain ⟨rfl, hs, hfp⟩ := HSD.out.turn ha; obtain ⟨P3, HS3, HI3, HW3⟩ : ∃ P, Hid (WlS w w3 P b2 (Wl.X ls (k + 1))) ∧ Hid (RowO P w3 v5 (Wl.values d1)) ∧ Hid (RowO P w3 u11 (Wl.values (Wl.X ls k))) := ⟨_, hs, HID.out.turn hfp, HWD.out.turn hfp⟩; clear ha hs hfp))
              go_roundw
              case rel => exact ⟨k + 1, by omega, by omega, by go_num, q + 1, by go_num, by omega, (by show q + 1 = _; rw [HL2.out, hq.out]), P3, HS3, HI3, (by show RowO _ _ _ _; rw [HV2.out]; exact HW3.out)⟩
              case measure => simp [intOf]; omega
            · have HL2 := Lib.hid (HLN.out.trans (if_neg he))
              have HE := Lib.hid (errV_no he)
              rw [HE.out] at HCE
              clear HLN he
              go_wp2_with fail
              (refine wp_region_mixq 15 [(true, 0), (true, 1), (true, 2), (true, 3), (true, 4), (true, 5), (true, 6), (true, 7), (true, 8), (true, 9), (true, 10), (true, 11), (true, 12), (true, 13), (true, 14)] (by kernel_rfl) (by kernel_rfl) ?_; simp only [pickOps, List.map_cons, List.map_nil, List.getD_cons_zero, List.getD_cons_succ, List.drop_succ_cons, List.drop_zero]; (iterate 15 (first | (refine wpMix_take (v := ?_) (by rfl) ?_ ?_; rotate_left; (focus (intro W hW; subst hW; go_simp; (try with_reducible rfl); done)); try simp only [Act.put, List.setIfInBounds_toArray, List.set_cons_zero, List.set_cons_succ]) | (refine wpMix_leave (by rfl) ?_; try simp only [Act.put, List.setIfInBounds_toArray, List.set_cons_zero, List.set_cons_succ]))); refine wpMix_nil ?_)
              go_wp2_with (first
                | (go_at_call 31; (with_reducible refine useC HCE.out ?_); rintro e w3 ha; obtain ⟨rfl, hs, hfp⟩ := HSD.out.turn ha; obtain ⟨P3, HS3, HI3, HW3⟩ : ∃ P, Hid (WlS w w3 P b2 (Wl.X ls (k + 1))) ∧ Hid (RowO P w3 v5 (Wl.values d1)) ∧ Hid (RowO P w3 u11 (Wl.values (Wl.X ls k))) := ⟨_, hs, HID.out.turn hfp, HWD.out.turn hfp⟩; clear ha hs hfp))
              go_roundw
              case rel => exact ⟨k + 1, by omega, by omega, by go_num, q, rfl, hqm, (by show q = _; rw [HL2.out, hq.out]), P3, HS3, HI3, (by show RowO _ _ _ _; rw [HV2.out]; exact HW3.out)⟩
              case measure => simp [intOf]; omega
          · have b3 : (((nthR ls k).length : Int) == 3) = false := beq_eq_false_iff_ne.2 (by omega)
            have er := Lib.hid (Wl.X_else ls k hl1 hl3)
            have HL2 : Hid ((Wl.runL ls (k + 1)).length = (Wl.runL ls k).length) := by
              have := congrArg (fun d => d.log.length) er.out
              exact this
            have HSD := Lib.hid (hS.out.step ((Fr.refl [] wr).drew))
            have HID := Lib.hid (hI.out.step ((Fr.refl [] wr).drew))
            have HWD := Lib.hid (hW.out.step ((Fr.refl [] wr).drew))
            clear hc' hA' hl1 hl3 hkb hS hI hW
            go_wp2_with fail
            (refine wp_region_mixq 15 [(true, 0), (true, 1), (true, 2), (true, 3), (true, 4), (true, 5), (true, 6), (true, 7), (true, 8), (true, 9), (true, 10), (true, 11), (true, 12), (true, 13), (true, 14)] (by kernel_rfl) (by kernel_rfl) ?_; simp only [pickOps, List.map_cons, List.map_nil, List.getD_cons_zero, List.getD_cons_succ, List.drop_succ_cons, List.drop_zero]; (iterate 15 (first | (refine wpMix_take (v := ?_) (by rfl) ?_ ?_; rotate_left; (focus (intro W hW; subst hW; go_simp; (try with_reducible rfl); done)); try simp only [Act.put, List.setIfInBounds_toArray, List.set_cons_zero, List.set_cons_succ]) | (refine wpMix_leave (by rfl) ?_; try simp only [Act.put, List.setIfInBounds_toArray, List.set_cons_zero, List.set_cons_succ]))); refine wpMix_nil ?_)
            go_wp2
            go_roundw
            case rel => exact ⟨k + 1, by omega, by omega, by go_num, q, rfl, hqm, (by show q = _; rw [HL2.out, hq.out]), P, (by show WlS _ _ _ _ _; rw [er.out]; exact HSD.out), HID, (by show RowO _ _ _ _; rw [er.out]; exact HWD.out)⟩
            case measure => simp [intOf]; omega
      · have hout : ¬ (k : Int) < ls.length ∨ ((k : Int) < ls.length ∧ ¬ (k : Int) < 80) ∨ ((k : Int) < ls.length ∧ (k : Int) < 80 ∧ ¬ (q : Int) < m) := by omega
        have hqe : q = m := by
          rcases Nat.lt_or_ge q m with h | h
          · have := HEND.out k (by omega) (by rw [← hq.out]; exact hqm)
            have := hq.out
            omega
          · omega
        have hv := HLAW.out k (by omega) (by rw [← hq.out]; exact hqe)
        have HI2 : Hid (RowO P wr v5 (Wl.values (Wl.X ls k))) := by rw [← hv]; exact hI
        subst hqe
        clear hv hI hin hk hk8
        rcases hout with h1 | ⟨h1, h2⟩ | ⟨h1, h2, h3⟩
        all_goals
          go_wp2_with (go_at_call 16; (with_reducible refine useC (HI2.out.same hW.out) ?_); rintro e w9 ⟨rfl, hf⟩; have HF9 := Lib.hid (hS.out.fr.trans hf); clear hf)
          go_ret
          exact ⟨rfl, HF9.out⟩
  · have e1 := decide_eq_false hc
    have e : Wl.crash d n = (d, 1) := by unfold Wl.crash; rw [if_neg hc]
    rw [e] at HCR
    have HE : Hid (errV 1 = .iface 62 (.int .i64 1)) := rfl
    rw [HE.out] at HCR
    clear hc e
    go_enter Try.func8, Try.ntmps8
    go_wp2_with (first
      | (go_at_call 28; (with_reducible refine useC (wl_fact w) ?_); rintro e w1 ⟨rfl, hf⟩; have HF1 := Lib.hid hf; clear hf)
      | (go_at_call 29; (with_reducible refine useC (HL.out w1 HF1.out) ?_); rintro e w2 ⟨b, P2, rfl, hs⟩; have HS2 := Lib.hid (hs.rebase HF1.out); have HK2 := Lib.hid (wl_Log w2 P2 b d HS2.out.file); clear hs)
      | (go_at_call 35; (with_reducible refine useC HK2.out ?_); rintro e w3 ⟨rfl, hf⟩; have HS3 := Lib.hid (HS2.out.step hf); have HK3 := Lib.hid (HCR.out w3 P2 b HS3.out.file); clear hf HK2 HS2)
      | (go_at_call 34; (with_reducible refine useC HK3.out ?_); rintro e w4 ha; obtain ⟨rfl, hs, -⟩ := HS3.out.turn ha; have HF4 := Lib.hid hs.fr; clear ha hs HK3 HS3)
      | (go_at_call 26; (with_reducible refine useC (in2_is n _ _ false _ e1) ?_); rintro e w4 ⟨rfl, rfl⟩))
    go_ret
    exact ⟨rfl, HF4.out⟩
end Go.Proofs.Ytmhmbgkpojgbbaa
