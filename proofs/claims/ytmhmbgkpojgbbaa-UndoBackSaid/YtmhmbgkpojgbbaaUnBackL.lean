/- UndoBack: what is undone was never done. -/
import Derived.Test.YtmhmbgkpojgbbaaUnLaw
import Derived.Test.YtmhmbgkpojgbbaaCIn2
namespace Go.Proofs.Ytmhmbgkpojgbbaa
open Go.RowKit

/-- The disk d, x beside it on which the turn t does nothing. -/
def UnBk (w wr : World) (b c : Nat) (t : Int) : Prop := ∃ P Q d x, Un2 w wr P Q b c d x ∧ Un.Sim t d x
theorem write_no {d : Un.D} {t b v : Int} (h : Un.wrErr d t b v ≠ 0) : Un.write d t b v = d := by
  unfold Un.write
  rw [if_neg h]
set_option maxRecDepth 100000 in
set_option maxHeartbeats 4000000 in
theorem un_backL (w : World) (v : Value) (ls : List (List Int)) (t : Int) (hR : Rw w.heap.size w v ls) :
    Calls Try.prog 6 #[v, .int .i64 t] w (OkT w) := by
  obtain ⟨A, g, o, cc, rfl, hm, hF⟩ := hR
  have HF := Lib.hid hF
  have HN := Lib.hid (fun W => un_New W)
  clear hF
  go_enter Try.func6, Try.ntmps6
  go_wp2_with (first
    | (go_at_call 21; (with_reducible refine useC (un_fact w) ?_); rintro e w1 ⟨rfl, hf⟩; have HF1 := Lib.hid hf; clear hf)
    | (go_at_call 22; (with_reducible refine useC (HN.out w1) ?_); rintro e w2 ⟨b, rfl, hs, hf⟩; obtain ⟨P1, HS2⟩ : ∃ P, Hid (UnS w w2 P b Un.new) := ⟨_, UnS.made HF1.out hs hf⟩; clear hs hf)
    | (go_at_call 22; (with_reducible refine useC (HN.out w2) ?_); rintro e w3 ⟨c, rfl, hs, hf⟩; have HS3 : Hid (UnBk w w3 b c t) := ⟨P1, _, _, _, ⟨HS2.out.step hf, UnS.made HS2.out.fr hs hf, fun k hk hq => (by have := (HS2.out.hP k hk).2; have := hq.1; omega)⟩, Un.sim_new t⟩; clear hs hf))
  go_loopw [8] (fun i wr => ∃ k : Nat, k ≤ ls.length ∧ k ≤ 40 ∧ i = .int .i64 k ∧ Hid (UnBk w wr b c t)) (fun i _ => 40 - (intOf i).toNat)
  case atStart => exact ⟨0, Nat.zero_le _, Nat.zero_le _, rfl, HS3⟩
  case round =>
    clear HS3 HS2
    obtain ⟨k, hk, hk8, rfl, hS⟩ := hrel
    by_cases hin : k < ls.length ∧ k < 40
    · obtain ⟨hlt, h80⟩ := hin
      obtain ⟨P, Q, d, x, hS2, hsim⟩ := hS.out
      obtain ⟨rfl, hg⟩ := HF.out.1 (by omega)
      obtain ⟨u, kb, hcell, hkb, hsl, _⟩ := (HF.out.below (hS2.s.fr.toBelow (Nat.le_refl _) (by simp))).2 k hlt
      obtain ⟨A', o', c', rfl, hm', hA', hc'⟩ := hsl.form
      have i0 : (0 : Int) ≤ k := by omega
      have i1 : (k : Int) < ls.length := by omega
      have i4 : (k : Int) < 40 := by omega
      have H2 := Lib.hid hS2
      have HM := Lib.hid hsim
      clear hsl hS2 hsim hS
      by_cases hl1 : (nthR ls k).length = 1
      · obtain rfl := hA' (by omega)
        have c0 := hc' 0 (by omega)
        rw [Nat.add_zero] at c0
        rw [hl1] at hcell
        have hkw : ¬ P kb := fun hp => by
          have := (H2.out.s.hP kb hp).1
          rcases hkb with h | h
          · omega
          · rw [h] at hl1; cases hl1
        have HKW := Lib.hid hkw
        have HC0 := Lib.hid c0
        clear hc' hA' hl1 hkb hkw
        generalize nth (nthR ls k) 0 = x0 at *
        by_cases ht : x0 = t
        · have b1 : (x0 != t) = false := by simpa using ht
          clear ht
          go_wp2
          go_roundw
          case rel => exact ⟨k + 1, by omega, by omega, by go_num, P, Q, d, x, H2.out, HM.out⟩
          case measure => simp [intOf]; omega
        · have b1 : (x0 != t) = true := by simpa using ht
          have HM2 := Lib.hid (Un.sim_end HM.out ht)
          have HC := Lib.hid (un_End wr P b d x0 H2.out.s.file)
          clear ht
          go_wp2_with (first
            | (go_at_call 23; (with_reducible refine useC HC.out ?_); rintro e w3 ha; obtain ⟨rfl, hfp, P', hs⟩ := H2.out.turn1 ha; have c3 := hfp.cell HC0.out HKW.out; have H3 := Lib.hid hs; have HC3 := Lib.hid (un_End w3 Q c x x0 H3.out.o.file); clear ha hs HC hfp)
            | (go_at_call 23; (with_reducible refine useC HC3.out ?_); rintro e w4 ha; obtain ⟨rfl, -, Q', hs⟩ := H3.out.turn2 ha; have H4 := Lib.hid hs; clear ha hs HC3))
          go_roundw
          case rel => exact ⟨k + 1, by omega, by omega, by go_num, _, _, _, _, H4.out, HM2.out⟩
          case measure => simp [intOf]; omega
      · have b1 : (((nthR ls k).length : Int) == 1) = false := beq_eq_false_iff_ne.2 (by omega)
        by_cases hl3 : (nthR ls k).length = 3
        · obtain rfl := hA' (by omega)
          have c0 := hc' 0 (by omega)
          have c1 := hc' 1 (by omega)
          have c2 := hc' 2 (by omega)
          rw [Nat.add_zero] at c0
          rw [hl3] at hcell
          have hkw : ¬ P kb := fun hp => by
            have := (H2.out.s.hP kb hp).1
            rcases hkb with h | h
            · omega
            · rw [h] at hl3; cases hl3
          have HKW := Lib.hid hkw
          clear hc' hA' hl1 hl3 hkb b1 hkw
          generalize nth (nthR ls k) 0 = x0 at *
          generalize nth (nthR ls k) 1 = x1 at *
          generalize nth (nthR ls k) 2 = x2 at *
          have HC0 : Hid (∀ W, Fr [] wr W → _) := fun W hW => And.intro (hW.cell c0 (by simp)) (And.intro (hW.cell c1 (by simp)) (hW.cell c2 (by simp)))
          obtain ⟨wa, hwa⟩ : ∃ wa, wa = ((wr.alloc (.cells #[.int .i64 x0, .int .i64 x1, .int .i64 x2] 44)).drew) := ⟨_, rfl⟩
          have HF1 : Hid (Fr [] wr wa) := by rw [hwa]; exact ((Fr.refl [] wr).alloc _).drew
          have HX1 : Hid (wa.heap[wr.heap.size]? = some (.cells #[.int .i64 x0, .int .i64 x1, .int .i64 x2] 44 (0, 0))) := by rw [hwa]; exact heap_alloc_new wr _
          have HCA := Lib.hid (HF1.out.cell c0 (by simp))
          have HPX : Hid (¬ P wr.heap.size) := fun hp => by have := (H2.out.s.hP _ hp).2; omega
          have H2A := Lib.hid (H2.out.step HF1.out)
          have HC := Lib.hid (un_Write wa P b d x0 x1 x2 (H2.out.s.file.keep HF1.out))
          unfold UnWr at HC
          have HWA := Lib.hid hwa
          clear hwa
          by_cases hw : Un.wrErr d x0 x1 x2 = 0
          · rw [hw, show errV 0 = .nilIface from rfl] at HC
            by_cases ht : x0 = t
            · have b1 : (x0 != t) = false := by simpa using ht
              have HS4 := Lib.hid (Un.sim_self H2.out.s.ok HM.out x1 x2)
              rw [← ht] at HS4
              have HT := Lib.hid ht
              clear ht
              clear hw
              go_wp2
              (refine wp_region_mix (Fr [] wr ·) 11 [(true, 0), (true, 1), (true, 2), (true, 3), (true, 4), (true, 5), (true, 6), (true, 7), (true, 8), (true, 9), (false, 10)] (by kernel_rfl) (by kernel_rfl) (((Fr.refl [] wr).drew)) ?_; simp only [pickOps, List.map_cons, List.map_nil, List.getD_cons_zero, List.getD_cons_succ, List.drop_succ_cons, List.drop_zero])
              (iterate 10 (first | (refine wpMix_take (v := ?_) (by rfl) ?_ ?_; rotate_left; (focus (intro W hW; (obtain ⟨c0, c1, c2⟩ := HC0.out W hW); go_simp; (try with_reducible rfl); done)); try simp only [Act.put, List.setIfInBounds_toArray, List.set_cons_zero, List.set_cons_succ]) | (refine wpMix_leave (by rfl) ?_; try simp only [Act.put, List.setIfInBounds_toArray, List.set_cons_zero, List.set_cons_succ])))
              refine wpMix_walk ?_
              go_wp2
              refine MixQ.mk (((Fr.refl [] wr).drew).alloc _) ?_
              refine wpMix_nil ?_
              go_wp2_with (rw [← HWA.out]; go_at_call 24; (with_reducible refine useC HC.out ?_); rintro e w3 ha; obtain ⟨rfl, hfp, P', hs⟩ := H2A.out.turn1 ha; have c3 := hfp.cell HCA.out HKW.out; have H3 := Lib.hid hs; clear ha hs hfp)
              go_roundw
              case rel => exact ⟨k + 1, by omega, by omega, by go_num, _, _, _, _, H3.out, by rw [← HT.out]; exact HS4.out⟩
              case measure => simp [intOf]; omega
            · have b1 : (x0 != t) = true := by simpa using ht
              obtain ⟨hx, hs⟩ := Un.sim_write H2.out.s.ok HM.out hw ht
              have HS4 := Lib.hid hs
              have HCX := Lib.hid (fun W Q' (h : UnF Q' W c x) => un_Write W Q' c x x0 x1 x2 h)
              unfold UnWr at HCX
              rw [hx, show errV 0 = .nilIface from rfl] at HCX
              clear ht hx hs
              clear hw
              go_wp2
              (refine wp_region_mix (Fr [] wr ·) 11 [(true, 0), (true, 1), (true, 2), (true, 3), (true, 4), (true, 5), (true, 6), (true, 7), (true, 8), (true, 9), (false, 10)] (by kernel_rfl) (by kernel_rfl) (((Fr.refl [] wr).drew)) ?_; simp only [pickOps, List.map_cons, List.map_nil, List.getD_cons_zero, List.getD_cons_succ, List.drop_succ_cons, List.drop_zero])
              (iterate 10 (first | (refine wpMix_take (v := ?_) (by rfl) ?_ ?_; rotate_left; (focus (intro W hW; (obtain ⟨c0, c1, c2⟩ := HC0.out W hW); go_simp; (try with_reducible rfl); done)); try simp only [Act.put, List.setIfInBounds_toArray, List.set_cons_zero, List.set_cons_succ]) | (refine wpMix_leave (by rfl) ?_; try simp only [Act.put, List.setIfInBounds_toArray, List.set_cons_zero, List.set_cons_succ])))
              refine wpMix_walk ?_
              go_wp2
              refine MixQ.mk (((Fr.refl [] wr).drew).alloc _) ?_
              refine wpMix_nil ?_
              go_wp2_with (first
                | (rw [← HWA.out]; go_at_call 24; (with_reducible refine useC HC.out ?_); rintro e w3 ha; obtain ⟨rfl, hfp, P', hs⟩ := H2A.out.turn1 ha; have c3 := hfp.cell HCA.out HKW.out; have H3 := Lib.hid hs; have HX3 := Lib.hid ((hfp.block _ (lt_of_heap HX1.out) HPX.out).trans HX1.out); obtain ⟨m0, m1, m2⟩ := put_cells HX3.out; have HC3 := Lib.hid (HCX.out w3 Q H3.out.o.file); clear ha hs hfp)
                | (go_at_call 24; (with_reducible refine useC HC3.out ?_); rintro e w4 ha; obtain ⟨rfl, -, Q', hs⟩ := H3.out.turn2 ha; have H4 := Lib.hid hs; clear ha hs))
              go_roundw
              case rel => exact ⟨k + 1, by omega, by omega, by go_num, _, _, _, _, H4.out, HS4.out⟩
              case measure => simp [intOf]; omega
          · have HS4 := Lib.hid (write_no hw)
            have HE := Lib.hid (errV_no hw)
            rw [HS4.out, HE.out] at HC
            clear hw
            go_wp2
            (refine wp_region_mix (Fr [] wr ·) 11 [(true, 0), (true, 1), (true, 2), (true, 3), (true, 4), (true, 5), (true, 6), (true, 7), (true, 8), (true, 9), (false, 10)] (by kernel_rfl) (by kernel_rfl) (((Fr.refl [] wr).drew)) ?_; simp only [pickOps, List.map_cons, List.map_nil, List.getD_cons_zero, List.getD_cons_succ, List.drop_succ_cons, List.drop_zero])
            (iterate 10 (first | (refine wpMix_take (v := ?_) (by rfl) ?_ ?_; rotate_left; (focus (intro W hW; (obtain ⟨c0, c1, c2⟩ := HC0.out W hW); go_simp; (try with_reducible rfl); done)); try simp only [Act.put, List.setIfInBounds_toArray, List.set_cons_zero, List.set_cons_succ]) | (refine wpMix_leave (by rfl) ?_; try simp only [Act.put, List.setIfInBounds_toArray, List.set_cons_zero, List.set_cons_succ])))
            refine wpMix_walk ?_
            go_wp2
            refine MixQ.mk (((Fr.refl [] wr).drew).alloc _) ?_
            refine wpMix_nil ?_
            go_wp2_with (rw [← HWA.out]; go_at_call 24; (with_reducible refine useC HC.out ?_); rintro e w3 ha; obtain ⟨rfl, -, P', hs⟩ := H2A.out.turn1 ha; have H3 := Lib.hid hs; clear ha hs)
            go_roundw
            case rel => exact ⟨k + 1, by omega, by omega, by go_num, _, _, _, _, H3.out, HM.out⟩
            case measure => simp [intOf]; omega
        · have b3 : (((nthR ls k).length : Int) == 3) = false := beq_eq_false_iff_ne.2 (by omega)
          clear hc' hA' hl1 hl3 hkb
          go_wp2
          go_roundw
          case rel => exact ⟨k + 1, by omega, by omega, by go_num, P, Q, d, x, H2.out, HM.out⟩
          case measure => simp [intOf]; omega
    · have hout : ¬ (k : Int) < ls.length ∨ ((k : Int) < ls.length ∧ ¬ (k : Int) < 40) := by omega
      obtain ⟨P, Q, d, x, hS2, hsim⟩ := hS.out
      have H2 := Lib.hid hS2
      have HO := Lib.hid hS2.s.ok
      have HUN := Lib.hid (un_Undo wr P b d t hS2.s.file)
      by_cases ht : Un.okT t
      · have HB := Lib.hid (Un.sim_undo hsim ht)
        rw [show Un.turnErr t = 0 from if_pos ht, show errV 0 = .nilIface from rfl] at HUN
        clear hS hS2 hsim ht HF
        rcases hout with hout | ⟨hout, hout'⟩
        all_goals
          go_wp2_with (first
            | (go_at_call 25; (with_reducible refine useC HUN.out ?_); rintro e w3 ha; obtain ⟨rfl, -, P', hs⟩ := H2.out.turn1 ha; have H3 := Lib.hid hs; have HV3 := Lib.hid (un_Values w3 P' b _ H3.out.s.file); rw [HB.out] at HV3; clear ha hs)
            | (go_at_call 27; (with_reducible refine useC HV3.out ?_); rintro e w4 hn; obtain ⟨v4, rfl, hr, hf⟩ := RowO.ofU H3.out.s hn; have HR4 := Lib.hid hr; have H4 := Lib.hid (H3.out.step hf); have HV4 := Lib.hid (un_Values w4 Q c x H4.out.o.file); clear hn hr hf HV3)
            | (go_at_call 27; (with_reducible refine useC HV4.out ?_); rintro e w5 hn; obtain ⟨v5, rfl, hr, hf⟩ := RowO.ofU H4.out.o hn; have HR5 := Lib.hid hr; have HR4b := Lib.hid (HR4.out.step hf); have H5 := Lib.hid (H4.out.step hf); clear hn hr hf HV4)
            | (go_at_call 16; (with_reducible refine useC (HR4b.out.same HR5.out) ?_); rintro e w6 ⟨rfl, hf⟩; have HF6 := Lib.hid (H5.out.s.fr.trans hf); clear hf))
          go_ret
          exact ⟨rfl, HF6.out⟩
      · have e1 : decide (0 ≤ t ∧ t ≤ 19) = false := decide_eq_false ht
        rw [show Un.turnErr t = 1 from if_neg ht] at HUN
        clear hS hS2 hsim ht HF
        rcases hout with hout | ⟨hout, hout'⟩
        all_goals
          go_wp2_with (first
            | (go_at_call 25; (with_reducible refine useC HUN.out ?_); rintro e w3 ha; obtain ⟨rfl, -, P', hs⟩ := H2.out.turn1 ha; rw [show errV 1 = .iface 62 (.int .i64 1) from rfl]; have H3 := Lib.hid hs; clear ha hs)
            | (go_at_call 26; (with_reducible refine useC (in2_is t _ _ false _ e1) ?_); rintro e w3 ⟨rfl, rfl⟩))
          go_ret
          exact ⟨rfl, H3.out.s.fr⟩
end Go.Proofs.Ytmhmbgkpojgbbaa
