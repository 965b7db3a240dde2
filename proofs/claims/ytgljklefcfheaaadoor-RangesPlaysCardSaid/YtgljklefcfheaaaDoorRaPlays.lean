/- RangesPlays: any table, and anything that is done with it. Printed by wip/gen_raplays.py. -/
import Derived.Test.YtgljklefcfheaaaDoorRaPlays0
import Derived.Test.YtgljklefcfheaaaDoorRaLaw
import Derived.Test.YtgljklefcfheaaaDoorRaRight
namespace Go.Proofs.YtgljklefcfheaaaDoor
open Go.RowKit

theorem Ra.set_eq (T : List Int) (o f n : Int) (a : Bool) (hok : Ra.okL o f n) (hq : ¬ 0 ≤ Ra.against T o.toNat f.toNat n.toNat a 4) : Ra.set T o f n a = Ra.put T o.toNat f.toNat n.toNat (Ra.state a) := by
  unfold Ra.set
  rw [if_pos hok, if_neg hq]
set_option maxRecDepth 100000 in
set_option maxHeartbeats 8000000 in
theorem ra_plays (w : World) (v : Value) (ls : List (List Int)) (hR : Rw w.heap.size w v ls) (hE : ErrType w) :
    Calls Tryd.prog 7 #[v] w (OkT w) := by
  have HE := Lib.hid (fun W (hW : Fr [] w W) => hE.fr hW (by simp))
  obtain ⟨A, g, o, c, rfl, hm, hF⟩ := hR
  have HF := Lib.hid hF
  clear hF hE
  go_enter Tryd.func7, Tryd.ntmps7
  go_wp2_with (first
    | (go_at_call 12; (with_reducible refine useC (ra_New w) ?_); rintro e w0 ⟨rfl, hd, hf⟩; have HD0 := Lib.hid hd; have HF0 := Lib.hid hf; clear hd hf)
    | (go_at_call 22; (with_reducible refine useC (ref_New w0) ?_); rintro e w1 ha; obtain ⟨A1, c1, rfl, hS⟩ := RpS.start HD0.out HF0.out ha; have HS := Lib.hid hS; clear ha hS HD0 HF0))
  revert HS
  generalize w1.alloc (.cells #[.slice A1 256 c1] 47) = wA
  generalize w1.heap.size = X at *
  generalize hbb : w.heap.size = b
  intro HS
  clear hbb
  go_loopw [5] (fun i wr => ∃ k : Nat, k ≤ ls.length ∧ k ≤ 40 ∧ i = .int .i64 k ∧ ∃ A1 c1 T, Hid (RpS w wr b X (.slice A1 256 c1) T T)) (fun i _ => 40 - (intOf i).toNat)
  case atStart => exact ⟨0, Nat.zero_le _, Nat.zero_le _, rfl, _, _, _, HS⟩
  case round =>
    clear HS
    obtain ⟨k, hk, hk6, rfl, A1, c1, T, hS⟩ := hrel
    by_cases hin : k < ls.length ∧ k < 40
    · obtain ⟨hlt, h60⟩ := hin
      obtain ⟨rfl, hg⟩ := HF.out.1 (by omega)
      obtain ⟨u, kb, hcell0, hkb, hsl, _⟩ := HF.out.2 k hlt
      have hcell := hS.out.tab.fr.cell hcell0 (by simp)
      obtain ⟨A', o', c', rfl, hm', hA', hc'⟩ := hsl.form
      have i0 : (0 : Int) ≤ k := by omega
      have i1 : (k : Int) < ls.length := by omega
      have i6 : (k : Int) < 40 := by omega
      clear hsl hcell0 hkb
      by_cases h345 : (nthR ls k).length = 3 ∨ (nthR ls k).length = 4 ∨ (nthR ls k).length = 5
      · obtain rfl := hA' (by omega)
        have c0 := hS.out.tab.fr.cell (hc' 0 (by omega)) (by simp)
        rw [Nat.add_zero] at c0
        have c1' := hS.out.tab.fr.cell (hc' 1 (by omega)) (by simp)
        have c2' := hS.out.tab.fr.cell (hc' 2 (by omega)) (by simp)
        clear hc' hA'
        generalize nth (nthR ls k) 0 = x0 at *
        generalize nth (nthR ls k) 1 = x1 at *
        generalize nth (nthR ls k) 2 = x2 at *
        have HLK := Lib.hid (fun (m : Nat) (al : Bool) (h1 : ((m : Int) == 4) = al) (h2 : 3 ≤ m) (h3 : m ≤ 1000000) => ra_lockOf wr kb o' m c' x0 x1 x2 al h1 h2 h3 c0 c1' c2')
        have hOT := hS.out.ok
        have HL256 := Lib.hid hOT.tab.1
        have HTB := Lib.hid hOT.tab
        have HOK := Lib.hid hOT
        clear c0 c1' c2' hOT
        by_cases hok : Ra.okL x0 x1 x2
        · have HRT := Lib.hid (fun W al => ra_right W x0 x1 x2 al)
          rw [decide_eq_true hok] at HRT
          have HOL := Lib.hid hok
          rcases h345 with hl | hl | hl
          · rw [hl] at hcell
            clear hl
            obtain ⟨q, hq⟩ : ∃ q, q = Ra.against T x0.toNat x1.toNat x2.toNat false 4 := ⟨_, rfl⟩
            have htt : Ra.test T x0 x1 x2 false = (q, 0) := by unfold Ra.test; rw [if_pos hok, hq]
            have hTT : ∀ W, RaD W b T → Calls Tryd.prog 21 #[.pointer (some ⟨b, 0, none⟩), .agg #[.int .i64 x0, .int .i64 x1, .int .i64 x2, .bool false]] W (fun e w' => e = .returned (.tuple #[.int .i64 q, .nilIface]) ∧ Fr [] W w') := fun W hW => by
              have := ra_Test W b T x0 x1 x2 false hW HL256.out
              rw [htt] at this
              exact this
            have HTT := Lib.hid hTT
            have hXT : ∀ W v g, Sl W v g T → Calls Tryd.prog 24 #[.agg #[v], .agg #[.int .i64 x0, .int .i64 x1, .int .i64 x2, .bool false]] W (fun e w' => e = .returned (.int .i64 q) ∧ Fr [] W w') := fun W v g hs => by
              have := ref_Test W v g T x0 x1 x2 false hs HL256.out HOL.out
              rw [← hq] at this
              exact this
            have HXT := Lib.hid hXT
            have herr0 : ∀ W, Fr [] w W → Calls Tryd.prog 15 #[.nilIface, .int .i64 0] W (OkT W) := fun W hW => rerr_ok W 0 (HE.out W hW)
            have HE1 := Lib.hid herr0
            clear herr0
            clear htt hTT hXT
            by_cases hq0 : 0 ≤ q
            · have hop : Ra.set T x0 x1 x2 false = (T, 6) := by unfold Ra.set; rw [if_pos hok, ← hq, if_pos hq0]
              obtain ⟨T5, hT5⟩ : ∃ z, z = T := ⟨_, rfl⟩
              have hop : Ra.set T x0 x1 x2 false = (T5, 6) := by rw [hop, hT5]
              have HT5 := Lib.hid hT5
              clear hT5
              have hfn : ∀ W, RaD W b T → Calls Tryd.prog 14 #[.pointer (some ⟨b, 0, none⟩), .agg #[.int .i64 x0, .int .i64 x1, .int .i64 x2, .bool false]] W (RaAns b (.iface 66 (.int .i64 6)) T5 W) := fun W hW => by
                have := ra_Set W b T x0 x1 x2 false hW HTB.out
                rw [hop] at this
                exact this
              have HFN := Lib.hid hfn
              clear hfn hop
              have HO5 : Hid (Ra.OK T5) := by show Ra.OK T5; rw [HT5.out]; exact HOK.out
              have herr6 : ∀ W, Fr [] w W → Calls Tryd.prog 15 #[.iface 66 (.int .i64 6), .int .i64 6] W (OkT W) := fun W hW => rerr_ok W 6 (HE.out W hW)
              have HEC := Lib.hid herr6
              clear herr6
              clear hok hq
              have HL30 := Lib.hid (HLK.out 3 false (by decide) (by decide) (by decide))
              clear HLK
              go_wp2_with (first
                | (go_at_call 23; (with_reducible refine useC HL30.out ?_); rintro e w2 ⟨rfl, hf⟩; obtain ⟨w3, hw3⟩ : ∃ z, z = w2.alloc (.cells #[.int .i64 x0, .int .i64 x1, .int .i64 x2, .bool false] 29) := ⟨_, rfl⟩; have hl3 := RpL.start (hS.out.step hf) x0 x1 x2 false; rw [← hw3] at hl3; have HL3 := Lib.hid hl3; have HW3 := Lib.hid hw3; clear hw3 hl3 hf)
                | (rw [← HW3.out]; clear HW3; generalize w2.heap.size = LB at *; obtain ⟨⟨c0, c1, c2, c3⟩, b0⟩ := HL3.out.cells)
                | (go_at_call 18; (with_reducible refine useC (HRT.out w3 false) ?_); rintro e w4 ⟨rfl, hf⟩; have HL4 := Lib.hid (HL3.out.step hf); clear hf; clear c0 c1 c2 c3 b0; obtain ⟨⟨c0, c1, c2, c3⟩, b0⟩ := HL4.out.cells)
                | (go_at_call 24; obtain ⟨gx, -, hsx⟩ := HL4.out.s.row; (with_reducible refine useC (HXT.out w4 _ gx hsx) ?_); rintro e w5 ⟨rfl, hf⟩; have HL5 := Lib.hid (HL4.out.step hf); clear hf hsx; clear c0 c1 c2 c3 b0; obtain ⟨⟨c0, c1, c2, c3⟩, b0⟩ := HL5.out.cells)
                | (go_at_call 21; (with_reducible refine useC (HTT.out w5 HL5.out.s.tab.disk) ?_); rintro e w6 ⟨rfl, hf⟩; have HL6 := Lib.hid (HL5.out.step hf); clear hf; clear c0 c1 c2 c3 b0; obtain ⟨⟨c0, c1, c2, c3⟩, b0⟩ := HL6.out.cells)
                | (go_at_call 15; (with_reducible refine useC (HE1.out w6 HL6.out.s.tab.fr) ?_); rintro e w7 ⟨rfl, hf⟩; have HL7 := Lib.hid (HL6.out.step hf); clear hf; clear c0 c1 c2 c3 b0; obtain ⟨⟨c0, c1, c2, c3⟩, b0⟩ := HL7.out.cells)
                | (go_at_call 14; (with_reducible refine useC (HFN.out w7 HL7.out.s.tab.disk) ?_); rintro e w20 ha; obtain ⟨rfl, hs⟩ := HL7.out.s.turn ha HO5.out; obtain ⟨A5, c5, HS20⟩ : ∃ A5 c5, Hid (RpS w w20 b X (.slice A5 256 c5) T5 T5) := ⟨_, _, by rw [HT5.out] at hs ⊢; exact hs⟩; clear ha hs; clear c0 c1 c2 c3 b0; go_wp2_with fail))
              clear HL3 HL4 HL6 HL7 HL5
              have HSX := Lib.hid (fun W (hW : Fr [] w20 W) => HS20.out.step hW)
              have HLP := Lib.hid (fun W (hW : Fr [] w20 W) => ra_List W b T5 (HS20.out.step hW).tab.disk HS20.out.ok.tab)
              have HLX := Lib.hid (fun W (hW : Fr [] w20 W) g (hs : Sl W (.slice A5 256 c5) g T5) => ref_List W _ g T5 hs HS20.out.ok.tab)
              have hl24 : (Ra.locks T5).length ≤ 1000000 := by have := Ra.listTo_len T5 4; show (Ra.listTo T5 4).length ≤ _; omega
              have HE20 := Lib.hid (HEC.out w20.drew HS20.out.tab.fr.drew)
              go_wp2_with fail
              (refine wp_region_mix (Fr [] w20 ·) 8 [(true, 0), (true, 1), (false, 2), (true, 3), (true, 4), (true, 5), (true, 7), (false, 6)] (by kernel_rfl) (by kernel_rfl) ((Fr.refl _ _).drew) ?_; simp only [pickOps, List.map_cons, List.map_nil, List.getD_cons_zero, List.getD_cons_succ, List.drop_succ_cons, List.drop_zero])
              (iterate 2 (first | (refine wpMix_take (v := ?_) (by rfl) ?_ ?_; rotate_left; (focus (intro W hW; skip; go_simp; (try with_reducible rfl); done)); try simp only [Act.put, List.setIfInBounds_toArray, List.set_cons_zero, List.set_cons_succ]) | (refine wpMix_leave (by rfl) ?_; try simp only [Act.put, List.setIfInBounds_toArray, List.set_cons_zero, List.set_cons_succ])))
              refine wpMix_walk ?_
              go_wp2_with (go_at_call 15; (with_reducible refine useC HE20.out ?_); rintro e w21 ⟨rfl, hf⟩; have HF21 : Hid (Fr [] w20 w21) := ((Fr.refl [] w20).drew).trans hf; clear hf)
              refine MixQ.mk (HF21.out) ?_
              (iterate 4 (first | (refine wpMix_take (v := ?_) (by rfl) ?_ ?_; rotate_left; (focus (intro W hW; have y0 := (HSX.out W hW).box.cell; go_simp; (try with_reducible rfl); done)); try simp only [Act.put, List.setIfInBounds_toArray, List.set_cons_zero, List.set_cons_succ]) | (refine wpMix_leave (by rfl) ?_; try simp only [Act.put, List.setIfInBounds_toArray, List.set_cons_zero, List.set_cons_succ])))
              refine wpMix_walk ?_
              go_wp2_with (go_at_call 11; (with_reducible refine useC (HLP.out w21 HF21.out) ?_); rintro e w22 ⟨v22, rfl, hown, hf⟩; obtain ⟨g22, -, hsl⟩ := hown.sl; obtain ⟨A22, o22, c22, rfl, -, -, -⟩ := hsl.form; have HF22 : Hid (Fr [] w20 w22) := HF21.out.trans hf; have HC22 := Lib.hid hsl; clear hown hsl hf)
              refine MixQ.mk (HF22.out) ?_
              refine wpMix_nil ?_
              have hs22 := HSX.out w22 HF22.out
              obtain ⟨gx, -, hsx⟩ := hs22.row
              have HIX := Lib.hid (HLX.out w22 HF22.out gx hsx)
              clear hs22 hsx
              go_wp2_with (first
                | (go_at_call 26; (with_reducible refine useC HIX.out ?_); rintro e w23 ⟨v23, g23, rfl, hsl, hf⟩; obtain ⟨A23, o23, c23, rfl, -, -, -⟩ := hsl.form; have HF23 : Hid (Fr [] w20 w23) := HF22.out.trans hf; have HC23 := Lib.hid hsl; have HC24 := Lib.hid (HC22.out.fr hf (by simp)); clear hsl hf)
                | (go_at_call 27; (with_reducible refine useC (locks_same w23 _ _ g22 g23 _ HC24.out HC23.out hl24) ?_); rintro e w24 ⟨rfl, hf⟩; have HS24 := Lib.hid (HS20.out.step (HF23.out.trans hf)); clear hf))
              go_roundw
              case rel => exact ⟨k + 1, by omega, by omega, by go_num, _, _, _, HS24⟩
              case measure => (simp [intOf]; try omega)
            · have hput : Ra.set T x0 x1 x2 false = Ra.put T x0.toNat x1.toNat x2.toNat (Ra.state false) := Ra.set_eq T x0 x1 x2 false hok (by rw [← hq]; exact hq0)
              obtain ⟨F, hFF⟩ : ∃ F, F = Ra.fillTo T x0.toNat x1.toNat (Ra.state false) x2.toNat := ⟨_, rfl⟩
              have hFI : ∀ W v, RkV (fun g => g ≠ b ∧ g ≠ X) W v T → (∀ k, W.heap.size ≤ k → k ≠ b ∧ k ≠ X) → Calls Tryd.prog 25 #[.agg #[v], .agg #[.int .i64 x0, .int .i64 x1, .int .i64 x2, .bool false], .int .i64 1] W (RfAns (fun g => g ≠ b ∧ g ≠ X) F W) := fun W v hr hn => by
                rw [hFF]
                exact ref_Fill W _ v T x0 x1 x2 false 1 hr HL256.out HOL.out hn
              have HFI := Lib.hid hFI
              clear hFI
              have hFT : Ra.Tab F := by
                rw [hFF]
                obtain ⟨k1, k2, k3⟩ := HOL.out
                exact Ra.fill_tab HTB.out (by omega) (by omega) (by decide)
              have HLI := Lib.hid (fun W v g (hs : Sl W v g F) => ref_List W v g F hs hFT)
              clear hFT
              by_cases hmany : 24 < (Ra.locks F).length
              · have hop : Ra.set T x0 x1 x2 false = (T, 4) := by
                  rw [hput]
                  unfold Ra.put
                  rw [← hFF, if_pos hmany]
                obtain ⟨T5, hT5⟩ : ∃ z, z = T := ⟨_, rfl⟩
                have hop : Ra.set T x0 x1 x2 false = (T5, 4) := by rw [hop, hT5]
                have HT5 := Lib.hid hT5
                clear hT5
                have hfn : ∀ W, RaD W b T → Calls Tryd.prog 14 #[.pointer (some ⟨b, 0, none⟩), .agg #[.int .i64 x0, .int .i64 x1, .int .i64 x2, .bool false]] W (RaAns b (.iface 66 (.int .i64 4)) T5 W) := fun W hW => by
                  have := ra_Set W b T x0 x1 x2 false hW HTB.out
                  rw [hop] at this
                  exact this
                have HFN := Lib.hid hfn
                clear hfn hop
                have HO5 : Hid (Ra.OK T5) := by show Ra.OK T5; rw [HT5.out]; exact HOK.out
                have herr4 : ∀ W, Fr [] w W → Calls Tryd.prog 15 #[.iface 66 (.int .i64 4), .int .i64 4] W (OkT W) := fun W hW => rerr_ok W 4 (HE.out W hW)
                have HEC := Lib.hid herr4
                clear herr4
                have hmI : (24 : Int) < (Ra.locks F).length := by omega
                clear hput hFF hmany hok hq
                generalize Ra.locks F = lsF at *
                have HL30 := Lib.hid (HLK.out 3 false (by decide) (by decide) (by decide))
                clear HLK
                go_wp2_with (first
                  | (go_at_call 23; (with_reducible refine useC HL30.out ?_); rintro e w2 ⟨rfl, hf⟩; obtain ⟨w3, hw3⟩ : ∃ z, z = w2.alloc (.cells #[.int .i64 x0, .int .i64 x1, .int .i64 x2, .bool false] 29) := ⟨_, rfl⟩; have hl3 := RpL.start (hS.out.step hf) x0 x1 x2 false; rw [← hw3] at hl3; have HL3 := Lib.hid hl3; have HW3 := Lib.hid hw3; clear hw3 hl3 hf)
                  | (rw [← HW3.out]; clear HW3; generalize w2.heap.size = LB at *; obtain ⟨⟨c0, c1, c2, c3⟩, b0⟩ := HL3.out.cells)
                  | (go_at_call 18; (with_reducible refine useC (HRT.out w3 false) ?_); rintro e w4 ⟨rfl, hf⟩; have HL4 := Lib.hid (HL3.out.step hf); clear hf; clear c0 c1 c2 c3 b0; obtain ⟨⟨c0, c1, c2, c3⟩, b0⟩ := HL4.out.cells)
                  | (go_at_call 24; obtain ⟨gx, -, hsx⟩ := HL4.out.s.row; (with_reducible refine useC (HXT.out w4 _ gx hsx) ?_); rintro e w5 ⟨rfl, hf⟩; have HL5 := Lib.hid (HL4.out.step hf); clear hf hsx; clear c0 c1 c2 c3 b0; obtain ⟨⟨c0, c1, c2, c3⟩, b0⟩ := HL5.out.cells)
                  | (go_at_call 21; (with_reducible refine useC (HTT.out w5 HL5.out.s.tab.disk) ?_); rintro e w6 ⟨rfl, hf⟩; have HL6 := Lib.hid (HL5.out.step hf); clear hf; clear c0 c1 c2 c3 b0; obtain ⟨⟨c0, c1, c2, c3⟩, b0⟩ := HL6.out.cells)
                  | (go_at_call 15; (with_reducible refine useC (HE1.out w6 HL6.out.s.tab.fr) ?_); rintro e w7 ⟨rfl, hf⟩; have HL7 := Lib.hid (HL6.out.step hf); clear hf; clear c0 c1 c2 c3 b0; obtain ⟨⟨c0, c1, c2, c3⟩, b0⟩ := HL7.out.cells)
                  | (go_at_call 25; (with_reducible refine useC (HFI.out w7 _ HL7.out.s.row HL7.out.s.new) ?_); rintro e w8 ⟨A8, c8, rfl, hv8, hf⟩; obtain ⟨w9, hw9⟩ : ∃ z, z = w8.alloc (.cells #[.slice A8 256 c8] 47) := ⟨_, rfl⟩; have hl9 := (HL7.out.step hf).step ((Fr.refl [] w8).alloc (.cells #[.slice A8 256 c8] 47)); have hv9 := RkV.fr hv8 ((Fr.refl [] w8).alloc (.cells #[.slice A8 256 c8] 47)) (by simp); have hy9 : RkX (w8.alloc (.cells #[.slice A8 256 c8] 47)) w8.heap.size (.slice A8 256 c8) := heap_alloc_new w8 _; rw [← hw9] at hl9 hv9 hy9; have HL9 := Lib.hid hl9; have HV9 := Lib.hid hv9; have HY9 := Lib.hid hy9; have HW9 := Lib.hid hw9; clear hw9 hl9 hv9 hy9 hv8 hf; clear c0 c1 c2 c3 b0)
                  | (rw [← HW9.out]; clear HW9; generalize w8.heap.size = YB at *; have yb := HY9.out.cell; obtain ⟨⟨c0, c1, c2, c3⟩, b0⟩ := HL9.out.cells)
                  | (have hl9 := HL9; clear hl9; go_at_call 26; obtain ⟨gy, -, hsy⟩ := HV9.out; (with_reducible refine useC (HLI.out w9 _ gy hsy) ?_); rintro e w10 ⟨v10, g10, rfl, hsl, hf⟩; obtain ⟨A10, o10, c10, rfl, -, -, -⟩ := hsl.form; have HL10 := Lib.hid (HL9.out.step hf); have HV10 := Lib.hid (RkV.fr HV9.out hf (by simp)); have HY10 := Lib.hid (hf.get HY9.out (by simp)); clear hsl hsy hf; clear yb; have yb := RkX.cell HY10.out; clear c0 c1 c2 c3 b0; obtain ⟨⟨c0, c1, c2, c3⟩, b0⟩ := HL10.out.cells)
                  | (go_at_call 14; (with_reducible refine useC (HFN.out w10 HL10.out.s.tab.disk) ?_); rintro e w20 ha; obtain ⟨rfl, hs⟩ := HL10.out.s.turn ha HO5.out; obtain ⟨A5, c5, HS20⟩ : ∃ A5 c5, Hid (RpS w w20 b X (.slice A5 256 c5) T5 T5) := ⟨_, _, by rw [HT5.out] at hs ⊢; exact hs⟩; clear ha hs; clear c0 c1 c2 c3 b0; go_wp2_with fail))
                clear HL3 HL4 HL6 HL7 HL5
                have HSX := Lib.hid (fun W (hW : Fr [] w20 W) => HS20.out.step hW)
                have HLP := Lib.hid (fun W (hW : Fr [] w20 W) => ra_List W b T5 (HS20.out.step hW).tab.disk HS20.out.ok.tab)
                have HLX := Lib.hid (fun W (hW : Fr [] w20 W) g (hs : Sl W (.slice A5 256 c5) g T5) => ref_List W _ g T5 hs HS20.out.ok.tab)
                have hl24 : (Ra.locks T5).length ≤ 1000000 := by have := Ra.listTo_len T5 4; show (Ra.listTo T5 4).length ≤ _; omega
                have HE20 := Lib.hid (HEC.out w20.drew HS20.out.tab.fr.drew)
                go_wp2_with fail
                (refine wp_region_mix (Fr [] w20 ·) 8 [(true, 0), (true, 1), (false, 2), (true, 3), (true, 4), (true, 5), (true, 7), (false, 6)] (by kernel_rfl) (by kernel_rfl) ((Fr.refl _ _).drew) ?_; simp only [pickOps, List.map_cons, List.map_nil, List.getD_cons_zero, List.getD_cons_succ, List.drop_succ_cons, List.drop_zero])
                (iterate 2 (first | (refine wpMix_take (v := ?_) (by rfl) ?_ ?_; rotate_left; (focus (intro W hW; skip; go_simp; (try with_reducible rfl); done)); try simp only [Act.put, List.setIfInBounds_toArray, List.set_cons_zero, List.set_cons_succ]) | (refine wpMix_leave (by rfl) ?_; try simp only [Act.put, List.setIfInBounds_toArray, List.set_cons_zero, List.set_cons_succ])))
                refine wpMix_walk ?_
                go_wp2_with (go_at_call 15; (with_reducible refine useC HE20.out ?_); rintro e w21 ⟨rfl, hf⟩; have HF21 : Hid (Fr [] w20 w21) := ((Fr.refl [] w20).drew).trans hf; clear hf)
                refine MixQ.mk (HF21.out) ?_
                (iterate 4 (first | (refine wpMix_take (v := ?_) (by rfl) ?_ ?_; rotate_left; (focus (intro W hW; have y0 := (HSX.out W hW).box.cell; go_simp; (try with_reducible rfl); done)); try simp only [Act.put, List.setIfInBounds_toArray, List.set_cons_zero, List.set_cons_succ]) | (refine wpMix_leave (by rfl) ?_; try simp only [Act.put, List.setIfInBounds_toArray, List.set_cons_zero, List.set_cons_succ])))
                refine wpMix_walk ?_
                go_wp2_with (go_at_call 11; (with_reducible refine useC (HLP.out w21 HF21.out) ?_); rintro e w22 ⟨v22, rfl, hown, hf⟩; obtain ⟨g22, -, hsl⟩ := hown.sl; obtain ⟨A22, o22, c22, rfl, -, -, -⟩ := hsl.form; have HF22 : Hid (Fr [] w20 w22) := HF21.out.trans hf; have HC22 := Lib.hid hsl; clear hown hsl hf)
                refine MixQ.mk (HF22.out) ?_
                refine wpMix_nil ?_
                have hs22 := HSX.out w22 HF22.out
                obtain ⟨gx, -, hsx⟩ := hs22.row
                have HIX := Lib.hid (HLX.out w22 HF22.out gx hsx)
                clear hs22 hsx
                go_wp2_with (first
                  | (go_at_call 26; (with_reducible refine useC HIX.out ?_); rintro e w23 ⟨v23, g23, rfl, hsl, hf⟩; obtain ⟨A23, o23, c23, rfl, -, -, -⟩ := hsl.form; have HF23 : Hid (Fr [] w20 w23) := HF22.out.trans hf; have HC23 := Lib.hid hsl; have HC24 := Lib.hid (HC22.out.fr hf (by simp)); clear hsl hf)
                  | (go_at_call 27; (with_reducible refine useC (locks_same w23 _ _ g22 g23 _ HC24.out HC23.out hl24) ?_); rintro e w24 ⟨rfl, hf⟩; have HS24 := Lib.hid (HS20.out.step (HF23.out.trans hf)); clear hf))
                go_roundw
                case rel => exact ⟨k + 1, by omega, by omega, by go_num, _, _, _, HS24⟩
                case measure => (simp [intOf]; try omega)
              · have hop : Ra.set T x0 x1 x2 false = (F, 0) := by
                  rw [hput]
                  unfold Ra.put
                  rw [← hFF, if_neg hmany]
                have hof := Ra.set_ok HOK.out x0 x1 x2 false
                rw [hop] at hof
                have HOF := Lib.hid hof
                clear hof
                obtain ⟨T5, hT5⟩ : ∃ z, z = F := ⟨_, rfl⟩
                have hop : Ra.set T x0 x1 x2 false = (T5, 0) := by rw [hop, hT5]
                have HT5 := Lib.hid hT5
                clear hT5
                have hfn : ∀ W, RaD W b T → Calls Tryd.prog 14 #[.pointer (some ⟨b, 0, none⟩), .agg #[.int .i64 x0, .int .i64 x1, .int .i64 x2, .bool false]] W (RaAns b (.nilIface) T5 W) := fun W hW => by
                  have := ra_Set W b T x0 x1 x2 false hW HTB.out
                  rw [hop] at this
                  exact this
                have HFN := Lib.hid hfn
                clear hfn hop
                have HO5 : Hid (Ra.OK T5) := by show Ra.OK T5; rw [HT5.out]; exact HOF.out
                have HEC := HE1
                have hmI : ¬ (24 : Int) < (Ra.locks F).length := by omega
                clear hput hFF hmany hok hq
                generalize Ra.locks F = lsF at *
                have HL30 := Lib.hid (HLK.out 3 false (by decide) (by decide) (by decide))
                clear HLK
                go_wp2_with (first
                  | (go_at_call 23; (with_reducible refine useC HL30.out ?_); rintro e w2 ⟨rfl, hf⟩; obtain ⟨w3, hw3⟩ : ∃ z, z = w2.alloc (.cells #[.int .i64 x0, .int .i64 x1, .int .i64 x2, .bool false] 29) := ⟨_, rfl⟩; have hl3 := RpL.start (hS.out.step hf) x0 x1 x2 false; rw [← hw3] at hl3; have HL3 := Lib.hid hl3; have HW3 := Lib.hid hw3; clear hw3 hl3 hf)
                  | (rw [← HW3.out]; clear HW3; generalize w2.heap.size = LB at *; obtain ⟨⟨c0, c1, c2, c3⟩, b0⟩ := HL3.out.cells)
                  | (go_at_call 18; (with_reducible refine useC (HRT.out w3 false) ?_); rintro e w4 ⟨rfl, hf⟩; have HL4 := Lib.hid (HL3.out.step hf); clear hf; clear c0 c1 c2 c3 b0; obtain ⟨⟨c0, c1, c2, c3⟩, b0⟩ := HL4.out.cells)
                  | (go_at_call 24; obtain ⟨gx, -, hsx⟩ := HL4.out.s.row; (with_reducible refine useC (HXT.out w4 _ gx hsx) ?_); rintro e w5 ⟨rfl, hf⟩; have HL5 := Lib.hid (HL4.out.step hf); clear hf hsx; clear c0 c1 c2 c3 b0; obtain ⟨⟨c0, c1, c2, c3⟩, b0⟩ := HL5.out.cells)
                  | (go_at_call 21; (with_reducible refine useC (HTT.out w5 HL5.out.s.tab.disk) ?_); rintro e w6 ⟨rfl, hf⟩; have HL6 := Lib.hid (HL5.out.step hf); clear hf; clear c0 c1 c2 c3 b0; obtain ⟨⟨c0, c1, c2, c3⟩, b0⟩ := HL6.out.cells)
                  | (go_at_call 15; (with_reducible refine useC (HE1.out w6 HL6.out.s.tab.fr) ?_); rintro e w7 ⟨rfl, hf⟩; have HL7 := Lib.hid (HL6.out.step hf); clear hf; clear c0 c1 c2 c3 b0; obtain ⟨⟨c0, c1, c2, c3⟩, b0⟩ := HL7.out.cells)
                  | (go_at_call 25; (with_reducible refine useC (HFI.out w7 _ HL7.out.s.row HL7.out.s.new) ?_); rintro e w8 ⟨A8, c8, rfl, hv8, hf⟩; obtain ⟨w9, hw9⟩ : ∃ z, z = w8.alloc (.cells #[.slice A8 256 c8] 47) := ⟨_, rfl⟩; have hl9 := (HL7.out.step hf).step ((Fr.refl [] w8).alloc (.cells #[.slice A8 256 c8] 47)); have hv9 := RkV.fr hv8 ((Fr.refl [] w8).alloc (.cells #[.slice A8 256 c8] 47)) (by simp); have hy9 : RkX (w8.alloc (.cells #[.slice A8 256 c8] 47)) w8.heap.size (.slice A8 256 c8) := heap_alloc_new w8 _; rw [← hw9] at hl9 hv9 hy9; have HL9 := Lib.hid hl9; have HV9 := Lib.hid hv9; have HY9 := Lib.hid hy9; have HW9 := Lib.hid hw9; clear hw9 hl9 hv9 hy9 hv8 hf; clear c0 c1 c2 c3 b0)
                  | (rw [← HW9.out]; clear HW9; generalize w8.heap.size = YB at *; have yb := HY9.out.cell; obtain ⟨⟨c0, c1, c2, c3⟩, b0⟩ := HL9.out.cells)
                  | (have hl9 := HL9; clear hl9; go_at_call 26; obtain ⟨gy, -, hsy⟩ := HV9.out; (with_reducible refine useC (HLI.out w9 _ gy hsy) ?_); rintro e w10 ⟨v10, g10, rfl, hsl, hf⟩; obtain ⟨A10, o10, c10, rfl, -, -, -⟩ := hsl.form; have HL10 := Lib.hid (HL9.out.step hf); have HV10 := Lib.hid (RkV.fr HV9.out hf (by simp)); have HY10 := Lib.hid (hf.get HY9.out (by simp)); clear hsl hsy hf; clear yb; have yb := RkX.cell HY10.out; clear c0 c1 c2 c3 b0; obtain ⟨⟨c0, c1, c2, c3⟩, b0⟩ := HL10.out.cells; have hfx := fun i => free_block HL10.out.s.box i none; obtain ⟨w11, hw11⟩ : ∃ z, z = w10.setCell ⟨X, 0, none⟩ (.slice A8 256 c8) := ⟨_, rfl⟩; have hl11 := HL10.out.put HV10.out HOF.out; rw [← hw11] at hl11; have HL11 := Lib.hid hl11; have HW11 := Lib.hid hw11; clear hw11 hl11)
                  | (rw [← HW11.out]; clear HW11 hfx yb; clear c0 c1 c2 c3 b0; obtain ⟨⟨c0, c1, c2, c3⟩, b0⟩ := HL11.out.cells)
                  | (go_at_call 14; (with_reducible refine useC (HFN.out w11 HL11.out.s.tab.disk) ?_); rintro e w20 ha; obtain ⟨rfl, hs⟩ := HL11.out.s.turn ha HO5.out; obtain ⟨A5, c5, HS20⟩ : ∃ A5 c5, Hid (RpS w w20 b X (.slice A5 256 c5) T5 T5) := ⟨_, _, by rw [HT5.out] at hs ⊢; exact hs⟩; clear ha hs; clear c0 c1 c2 c3 b0; go_wp2_with fail))
                clear HL3 HL4 HL6 HL7 HL5
                have HSX := Lib.hid (fun W (hW : Fr [] w20 W) => HS20.out.step hW)
                have HLP := Lib.hid (fun W (hW : Fr [] w20 W) => ra_List W b T5 (HS20.out.step hW).tab.disk HS20.out.ok.tab)
                have HLX := Lib.hid (fun W (hW : Fr [] w20 W) g (hs : Sl W (.slice A5 256 c5) g T5) => ref_List W _ g T5 hs HS20.out.ok.tab)
                have hl24 : (Ra.locks T5).length ≤ 1000000 := by have := Ra.listTo_len T5 4; show (Ra.listTo T5 4).length ≤ _; omega
                have HE20 := Lib.hid (HEC.out w20.drew HS20.out.tab.fr.drew)
                go_wp2_with fail
                (refine wp_region_mix (Fr [] w20 ·) 8 [(true, 0), (true, 1), (false, 2), (true, 3), (true, 4), (true, 5), (true, 7), (false, 6)] (by kernel_rfl) (by kernel_rfl) ((Fr.refl _ _).drew) ?_; simp only [pickOps, List.map_cons, List.map_nil, List.getD_cons_zero, List.getD_cons_succ, List.drop_succ_cons, List.drop_zero])
                (iterate 2 (first | (refine wpMix_take (v := ?_) (by rfl) ?_ ?_; rotate_left; (focus (intro W hW; skip; go_simp; (try with_reducible rfl); done)); try simp only [Act.put, List.setIfInBounds_toArray, List.set_cons_zero, List.set_cons_succ]) | (refine wpMix_leave (by rfl) ?_; try simp only [Act.put, List.setIfInBounds_toArray, List.set_cons_zero, List.set_cons_succ])))
                refine wpMix_walk ?_
                go_wp2_with (go_at_call 15; (with_reducible refine useC HE20.out ?_); rintro e w21 ⟨rfl, hf⟩; have HF21 : Hid (Fr [] w20 w21) := ((Fr.refl [] w20).drew).trans hf; clear hf)
                refine MixQ.mk (HF21.out) ?_
                (iterate 4 (first | (refine wpMix_take (v := ?_) (by rfl) ?_ ?_; rotate_left; (focus (intro W hW; have y0 := (HSX.out W hW).box.cell; go_simp; (try with_reducible rfl); done)); try simp only [Act.put, List.setIfInBounds_toArray, List.set_cons_zero, List.set_cons_succ]) | (refine wpMix_leave (by rfl) ?_; try simp only [Act.put, List.setIfInBounds_toArray, List.set_cons_zero, List.set_cons_succ])))
                refine wpMix_walk ?_
                go_wp2_with (go_at_call 11; (with_reducible refine useC (HLP.out w21 HF21.out) ?_); rintro e w22 ⟨v22, rfl, hown, hf⟩; obtain ⟨g22, -, hsl⟩ := hown.sl; obtain ⟨A22, o22, c22, rfl, -, -, -⟩ := hsl.form; have HF22 : Hid (Fr [] w20 w22) := HF21.out.trans hf; have HC22 := Lib.hid hsl; clear hown hsl hf)
                refine MixQ.mk (HF22.out) ?_
                refine wpMix_nil ?_
                have hs22 := HSX.out w22 HF22.out
                obtain ⟨gx, -, hsx⟩ := hs22.row
                have HIX := Lib.hid (HLX.out w22 HF22.out gx hsx)
                clear hs22 hsx
                go_wp2_with (first
                  | (go_at_call 26; (with_reducible refine useC HIX.out ?_); rintro e w23 ⟨v23, g23, rfl, hsl, hf⟩; obtain ⟨A23, o23, c23, rfl, -, -, -⟩ := hsl.form; have HF23 : Hid (Fr [] w20 w23) := HF22.out.trans hf; have HC23 := Lib.hid hsl; have HC24 := Lib.hid (HC22.out.fr hf (by simp)); clear hsl hf)
                  | (go_at_call 27; (with_reducible refine useC (locks_same w23 _ _ g22 g23 _ HC24.out HC23.out hl24) ?_); rintro e w24 ⟨rfl, hf⟩; have HS24 := Lib.hid (HS20.out.step (HF23.out.trans hf)); clear hf))
                go_roundw
                case rel => exact ⟨k + 1, by omega, by omega, by go_num, _, _, _, HS24⟩
                case measure => (simp [intOf]; try omega)
          · rw [hl] at hcell
            clear hl
            obtain ⟨q, hq⟩ : ∃ q, q = Ra.against T x0.toNat x1.toNat x2.toNat true 4 := ⟨_, rfl⟩
            have htt : Ra.test T x0 x1 x2 true = (q, 0) := by unfold Ra.test; rw [if_pos hok, hq]
            have hTT : ∀ W, RaD W b T → Calls Tryd.prog 21 #[.pointer (some ⟨b, 0, none⟩), .agg #[.int .i64 x0, .int .i64 x1, .int .i64 x2, .bool true]] W (fun e w' => e = .returned (.tuple #[.int .i64 q, .nilIface]) ∧ Fr [] W w') := fun W hW => by
              have := ra_Test W b T x0 x1 x2 true hW HL256.out
              rw [htt] at this
              exact this
            have HTT := Lib.hid hTT
            have hXT : ∀ W v g, Sl W v g T → Calls Tryd.prog 24 #[.agg #[v], .agg #[.int .i64 x0, .int .i64 x1, .int .i64 x2, .bool true]] W (fun e w' => e = .returned (.int .i64 q) ∧ Fr [] W w') := fun W v g hs => by
              have := ref_Test W v g T x0 x1 x2 true hs HL256.out HOL.out
              rw [← hq] at this
              exact this
            have HXT := Lib.hid hXT
            have herr0 : ∀ W, Fr [] w W → Calls Tryd.prog 15 #[.nilIface, .int .i64 0] W (OkT W) := fun W hW => rerr_ok W 0 (HE.out W hW)
            have HE1 := Lib.hid herr0
            clear herr0
            clear htt hTT hXT
            by_cases hq0 : 0 ≤ q
            · have hop : Ra.set T x0 x1 x2 true = (T, 6) := by unfold Ra.set; rw [if_pos hok, ← hq, if_pos hq0]
              obtain ⟨T5, hT5⟩ : ∃ z, z = T := ⟨_, rfl⟩
              have hop : Ra.set T x0 x1 x2 true = (T5, 6) := by rw [hop, hT5]
              have HT5 := Lib.hid hT5
              clear hT5
              have hfn : ∀ W, RaD W b T → Calls Tryd.prog 14 #[.pointer (some ⟨b, 0, none⟩), .agg #[.int .i64 x0, .int .i64 x1, .int .i64 x2, .bool true]] W (RaAns b (.iface 66 (.int .i64 6)) T5 W) := fun W hW => by
                have := ra_Set W b T x0 x1 x2 true hW HTB.out
                rw [hop] at this
                exact this
              have HFN := Lib.hid hfn
              clear hfn hop
              have HO5 : Hid (Ra.OK T5) := by show Ra.OK T5; rw [HT5.out]; exact HOK.out
              have herr6 : ∀ W, Fr [] w W → Calls Tryd.prog 15 #[.iface 66 (.int .i64 6), .int .i64 6] W (OkT W) := fun W hW => rerr_ok W 6 (HE.out W hW)
              have HEC := Lib.hid herr6
              clear herr6
              clear hok hq
              have HL30 := Lib.hid (HLK.out 4 true (by decide) (by decide) (by decide))
              clear HLK
              go_wp2_with (first
                | (go_at_call 23; (with_reducible refine useC HL30.out ?_); rintro e w2 ⟨rfl, hf⟩; obtain ⟨w3, hw3⟩ : ∃ z, z = w2.alloc (.cells #[.int .i64 x0, .int .i64 x1, .int .i64 x2, .bool true] 29) := ⟨_, rfl⟩; have hl3 := RpL.start (hS.out.step hf) x0 x1 x2 true; rw [← hw3] at hl3; have HL3 := Lib.hid hl3; have HW3 := Lib.hid hw3; clear hw3 hl3 hf)
                | (rw [← HW3.out]; clear HW3; generalize w2.heap.size = LB at *; obtain ⟨⟨c0, c1, c2, c3⟩, b0⟩ := HL3.out.cells)
                | (go_at_call 18; (with_reducible refine useC (HRT.out w3 true) ?_); rintro e w4 ⟨rfl, hf⟩; have HL4 := Lib.hid (HL3.out.step hf); clear hf; clear c0 c1 c2 c3 b0; obtain ⟨⟨c0, c1, c2, c3⟩, b0⟩ := HL4.out.cells)
                | (go_at_call 24; obtain ⟨gx, -, hsx⟩ := HL4.out.s.row; (with_reducible refine useC (HXT.out w4 _ gx hsx) ?_); rintro e w5 ⟨rfl, hf⟩; have HL5 := Lib.hid (HL4.out.step hf); clear hf hsx; clear c0 c1 c2 c3 b0; obtain ⟨⟨c0, c1, c2, c3⟩, b0⟩ := HL5.out.cells)
                | (go_at_call 21; (with_reducible refine useC (HTT.out w5 HL5.out.s.tab.disk) ?_); rintro e w6 ⟨rfl, hf⟩; have HL6 := Lib.hid (HL5.out.step hf); clear hf; clear c0 c1 c2 c3 b0; obtain ⟨⟨c0, c1, c2, c3⟩, b0⟩ := HL6.out.cells)
                | (go_at_call 15; (with_reducible refine useC (HE1.out w6 HL6.out.s.tab.fr) ?_); rintro e w7 ⟨rfl, hf⟩; have HL7 := Lib.hid (HL6.out.step hf); clear hf; clear c0 c1 c2 c3 b0; obtain ⟨⟨c0, c1, c2, c3⟩, b0⟩ := HL7.out.cells)
                | (go_at_call 14; (with_reducible refine useC (HFN.out w7 HL7.out.s.tab.disk) ?_); rintro e w20 ha; obtain ⟨rfl, hs⟩ := HL7.out.s.turn ha HO5.out; obtain ⟨A5, c5, HS20⟩ : ∃ A5 c5, Hid (RpS w w20 b X (.slice A5 256 c5) T5 T5) := ⟨_, _, by rw [HT5.out] at hs ⊢; exact hs⟩; clear ha hs; clear c0 c1 c2 c3 b0; go_wp2_with fail))
              clear HL3 HL4 HL6 HL7 HL5
              have HSX := Lib.hid (fun W (hW : Fr [] w20 W) => HS20.out.step hW)
              have HLP := Lib.hid (fun W (hW : Fr [] w20 W) => ra_List W b T5 (HS20.out.step hW).tab.disk HS20.out.ok.tab)
              have HLX := Lib.hid (fun W (hW : Fr [] w20 W) g (hs : Sl W (.slice A5 256 c5) g T5) => ref_List W _ g T5 hs HS20.out.ok.tab)
              have hl24 : (Ra.locks T5).length ≤ 1000000 := by have := Ra.listTo_len T5 4; show (Ra.listTo T5 4).length ≤ _; omega
              have HE20 := Lib.hid (HEC.out w20.drew HS20.out.tab.fr.drew)
              go_wp2_with fail
              (refine wp_region_mix (Fr [] w20 ·) 8 [(true, 0), (true, 1), (false, 2), (true, 3), (true, 4), (true, 5), (true, 7), (false, 6)] (by kernel_rfl) (by kernel_rfl) ((Fr.refl _ _).drew) ?_; simp only [pickOps, List.map_cons, List.map_nil, List.getD_cons_zero, List.getD_cons_succ, List.drop_succ_cons, List.drop_zero])
              (iterate 2 (first | (refine wpMix_take (v := ?_) (by rfl) ?_ ?_; rotate_left; (focus (intro W hW; skip; go_simp; (try with_reducible rfl); done)); try simp only [Act.put, List.setIfInBounds_toArray, List.set_cons_zero, List.set_cons_succ]) | (refine wpMix_leave (by rfl) ?_; try simp only [Act.put, List.setIfInBounds_toArray, List.set_cons_zero, List.set_cons_succ])))
              refine wpMix_walk ?_
              go_wp2_with (go_at_call 15; (with_reducible refine useC HE20.out ?_); rintro e w21 ⟨rfl, hf⟩; have HF21 : Hid (Fr [] w20 w21) := ((Fr.refl [] w20).drew).trans hf; clear hf)
              refine MixQ.mk (HF21.out) ?_
              (iterate 4 (first | (refine wpMix_take (v := ?_) (by rfl) ?_ ?_; rotate_left; (focus (intro W hW; have y0 := (HSX.out W hW).box.cell; go_simp; (try with_reducible rfl); done)); try simp only [Act.put, List.setIfInBounds_toArray, List.set_cons_zero, List.set_cons_succ]) | (refine wpMix_leave (by rfl) ?_; try simp only [Act.put, List.setIfInBounds_toArray, List.set_cons_zero, List.set_cons_succ])))
              refine wpMix_walk ?_
              go_wp2_with (go_at_call 11; (with_reducible refine useC (HLP.out w21 HF21.out) ?_); rintro e w22 ⟨v22, rfl, hown, hf⟩; obtain ⟨g22, -, hsl⟩ := hown.sl; obtain ⟨A22, o22, c22, rfl, -, -, -⟩ := hsl.form; have HF22 : Hid (Fr [] w20 w22) := HF21.out.trans hf; have HC22 := Lib.hid hsl; clear hown hsl hf)
              refine MixQ.mk (HF22.out) ?_
              refine wpMix_nil ?_
              have hs22 := HSX.out w22 HF22.out
              obtain ⟨gx, -, hsx⟩ := hs22.row
              have HIX := Lib.hid (HLX.out w22 HF22.out gx hsx)
              clear hs22 hsx
              go_wp2_with (first
                | (go_at_call 26; (with_reducible refine useC HIX.out ?_); rintro e w23 ⟨v23, g23, rfl, hsl, hf⟩; obtain ⟨A23, o23, c23, rfl, -, -, -⟩ := hsl.form; have HF23 : Hid (Fr [] w20 w23) := HF22.out.trans hf; have HC23 := Lib.hid hsl; have HC24 := Lib.hid (HC22.out.fr hf (by simp)); clear hsl hf)
                | (go_at_call 27; (with_reducible refine useC (locks_same w23 _ _ g22 g23 _ HC24.out HC23.out hl24) ?_); rintro e w24 ⟨rfl, hf⟩; have HS24 := Lib.hid (HS20.out.step (HF23.out.trans hf)); clear hf))
              go_roundw
              case rel => exact ⟨k + 1, by omega, by omega, by go_num, _, _, _, HS24⟩
              case measure => (simp [intOf]; try omega)
            · have hput : Ra.set T x0 x1 x2 true = Ra.put T x0.toNat x1.toNat x2.toNat (Ra.state true) := Ra.set_eq T x0 x1 x2 true hok (by rw [← hq]; exact hq0)
              obtain ⟨F, hFF⟩ : ∃ F, F = Ra.fillTo T x0.toNat x1.toNat (Ra.state true) x2.toNat := ⟨_, rfl⟩
              have hFI : ∀ W v, RkV (fun g => g ≠ b ∧ g ≠ X) W v T → (∀ k, W.heap.size ≤ k → k ≠ b ∧ k ≠ X) → Calls Tryd.prog 25 #[.agg #[v], .agg #[.int .i64 x0, .int .i64 x1, .int .i64 x2, .bool true], .int .i64 2] W (RfAns (fun g => g ≠ b ∧ g ≠ X) F W) := fun W v hr hn => by
                rw [hFF]
                exact ref_Fill W _ v T x0 x1 x2 true 2 hr HL256.out HOL.out hn
              have HFI := Lib.hid hFI
              clear hFI
              have hFT : Ra.Tab F := by
                rw [hFF]
                obtain ⟨k1, k2, k3⟩ := HOL.out
                exact Ra.fill_tab HTB.out (by omega) (by omega) (by decide)
              have HLI := Lib.hid (fun W v g (hs : Sl W v g F) => ref_List W v g F hs hFT)
              clear hFT
              by_cases hmany : 24 < (Ra.locks F).length
              · have hop : Ra.set T x0 x1 x2 true = (T, 4) := by
                  rw [hput]
                  unfold Ra.put
                  rw [← hFF, if_pos hmany]
                obtain ⟨T5, hT5⟩ : ∃ z, z = T := ⟨_, rfl⟩
                have hop : Ra.set T x0 x1 x2 true = (T5, 4) := by rw [hop, hT5]
                have HT5 := Lib.hid hT5
                clear hT5
                have hfn : ∀ W, RaD W b T → Calls Tryd.prog 14 #[.pointer (some ⟨b, 0, none⟩), .agg #[.int .i64 x0, .int .i64 x1, .int .i64 x2, .bool true]] W (RaAns b (.iface 66 (.int .i64 4)) T5 W) := fun W hW => by
                  have := ra_Set W b T x0 x1 x2 true hW HTB.out
                  rw [hop] at this
                  exact this
                have HFN := Lib.hid hfn
                clear hfn hop
                have HO5 : Hid (Ra.OK T5) := by show Ra.OK T5; rw [HT5.out]; exact HOK.out
                have herr4 : ∀ W, Fr [] w W → Calls Tryd.prog 15 #[.iface 66 (.int .i64 4), .int .i64 4] W (OkT W) := fun W hW => rerr_ok W 4 (HE.out W hW)
                have HEC := Lib.hid herr4
                clear herr4
                have hmI : (24 : Int) < (Ra.locks F).length := by omega
                clear hput hFF hmany hok hq
                generalize Ra.locks F = lsF at *
                have HL30 := Lib.hid (HLK.out 4 true (by decide) (by decide) (by decide))
                clear HLK
                go_wp2_with (first
                  | (go_at_call 23; (with_reducible refine useC HL30.out ?_); rintro e w2 ⟨rfl, hf⟩; obtain ⟨w3, hw3⟩ : ∃ z, z = w2.alloc (.cells #[.int .i64 x0, .int .i64 x1, .int .i64 x2, .bool true] 29) := ⟨_, rfl⟩; have hl3 := RpL.start (hS.out.step hf) x0 x1 x2 true; rw [← hw3] at hl3; have HL3 := Lib.hid hl3; have HW3 := Lib.hid hw3; clear hw3 hl3 hf)
                  | (rw [← HW3.out]; clear HW3; generalize w2.heap.size = LB at *; obtain ⟨⟨c0, c1, c2, c3⟩, b0⟩ := HL3.out.cells)
                  | (go_at_call 18; (with_reducible refine useC (HRT.out w3 true) ?_); rintro e w4 ⟨rfl, hf⟩; have HL4 := Lib.hid (HL3.out.step hf); clear hf; clear c0 c1 c2 c3 b0; obtain ⟨⟨c0, c1, c2, c3⟩, b0⟩ := HL4.out.cells)
                  | (go_at_call 24; obtain ⟨gx, -, hsx⟩ := HL4.out.s.row; (with_reducible refine useC (HXT.out w4 _ gx hsx) ?_); rintro e w5 ⟨rfl, hf⟩; have HL5 := Lib.hid (HL4.out.step hf); clear hf hsx; clear c0 c1 c2 c3 b0; obtain ⟨⟨c0, c1, c2, c3⟩, b0⟩ := HL5.out.cells)
                  | (go_at_call 21; (with_reducible refine useC (HTT.out w5 HL5.out.s.tab.disk) ?_); rintro e w6 ⟨rfl, hf⟩; have HL6 := Lib.hid (HL5.out.step hf); clear hf; clear c0 c1 c2 c3 b0; obtain ⟨⟨c0, c1, c2, c3⟩, b0⟩ := HL6.out.cells)
                  | (go_at_call 15; (with_reducible refine useC (HE1.out w6 HL6.out.s.tab.fr) ?_); rintro e w7 ⟨rfl, hf⟩; have HL7 := Lib.hid (HL6.out.step hf); clear hf; clear c0 c1 c2 c3 b0; obtain ⟨⟨c0, c1, c2, c3⟩, b0⟩ := HL7.out.cells)
                  | (go_at_call 25; (with_reducible refine useC (HFI.out w7 _ HL7.out.s.row HL7.out.s.new) ?_); rintro e w8 ⟨A8, c8, rfl, hv8, hf⟩; obtain ⟨w9, hw9⟩ : ∃ z, z = w8.alloc (.cells #[.slice A8 256 c8] 47) := ⟨_, rfl⟩; have hl9 := (HL7.out.step hf).step ((Fr.refl [] w8).alloc (.cells #[.slice A8 256 c8] 47)); have hv9 := RkV.fr hv8 ((Fr.refl [] w8).alloc (.cells #[.slice A8 256 c8] 47)) (by simp); have hy9 : RkX (w8.alloc (.cells #[.slice A8 256 c8] 47)) w8.heap.size (.slice A8 256 c8) := heap_alloc_new w8 _; rw [← hw9] at hl9 hv9 hy9; have HL9 := Lib.hid hl9; have HV9 := Lib.hid hv9; have HY9 := Lib.hid hy9; have HW9 := Lib.hid hw9; clear hw9 hl9 hv9 hy9 hv8 hf; clear c0 c1 c2 c3 b0)
                  | (rw [← HW9.out]; clear HW9; generalize w8.heap.size = YB at *; have yb := HY9.out.cell; obtain ⟨⟨c0, c1, c2, c3⟩, b0⟩ := HL9.out.cells)
                  | (have hl9 := HL9; clear hl9; go_at_call 26; obtain ⟨gy, -, hsy⟩ := HV9.out; (with_reducible refine useC (HLI.out w9 _ gy hsy) ?_); rintro e w10 ⟨v10, g10, rfl, hsl, hf⟩; obtain ⟨A10, o10, c10, rfl, -, -, -⟩ := hsl.form; have HL10 := Lib.hid (HL9.out.step hf); have HV10 := Lib.hid (RkV.fr HV9.out hf (by simp)); have HY10 := Lib.hid (hf.get HY9.out (by simp)); clear hsl hsy hf; clear yb; have yb := RkX.cell HY10.out; clear c0 c1 c2 c3 b0; obtain ⟨⟨c0, c1, c2, c3⟩, b0⟩ := HL10.out.cells)
                  | (go_at_call 14; (with_reducible refine useC (HFN.out w10 HL10.out.s.tab.disk) ?_); rintro e w20 ha; obtain ⟨rfl, hs⟩ := HL10.out.s.turn ha HO5.out; obtain ⟨A5, c5, HS20⟩ : ∃ A5 c5, Hid (RpS w w20 b X (.slice A5 256 c5) T5 T5) := ⟨_, _, by rw [HT5.out] at hs ⊢; exact hs⟩; clear ha hs; clear c0 c1 c2 c3 b0; go_wp2_with fail))
                clear HL3 HL4 HL6 HL7 HL5
                have HSX := Lib.hid (fun W (hW : Fr [] w20 W) => HS20.out.step hW)
                have HLP := Lib.hid (fun W (hW : Fr [] w20 W) => ra_List W b T5 (HS20.out.step hW).tab.disk HS20.out.ok.tab)
                have HLX := Lib.hid (fun W (hW : Fr [] w20 W) g (hs : Sl W (.slice A5 256 c5) g T5) => ref_List W _ g T5 hs HS20.out.ok.tab)
                have hl24 : (Ra.locks T5).length ≤ 1000000 := by have := Ra.listTo_len T5 4; show (Ra.listTo T5 4).length ≤ _; omega
                have HE20 := Lib.hid (HEC.out w20.drew HS20.out.tab.fr.drew)
                go_wp2_with fail
                (refine wp_region_mix (Fr [] w20 ·) 8 [(true, 0), (true, 1), (false, 2), (true, 3), (true, 4), (true, 5), (true, 7), (false, 6)] (by kernel_rfl) (by kernel_rfl) ((Fr.refl _ _).drew) ?_; simp only [pickOps, List.map_cons, List.map_nil, List.getD_cons_zero, List.getD_cons_succ, List.drop_succ_cons, List.drop_zero])
                (iterate 2 (first | (refine wpMix_take (v := ?_) (by rfl) ?_ ?_; rotate_left; (focus (intro W hW; skip; go_simp; (try with_reducible rfl); done)); try simp only [Act.put, List.setIfInBounds_toArray, List.set_cons_zero, List.set_cons_succ]) | (refine wpMix_leave (by rfl) ?_; try simp only [Act.put, List.setIfInBounds_toArray, List.set_cons_zero, List.set_cons_succ])))
                refine wpMix_walk ?_
                go_wp2_with (go_at_call 15; (with_reducible refine useC HE20.out ?_); rintro e w21 ⟨rfl, hf⟩; have HF21 : Hid (Fr [] w20 w21) := ((Fr.refl [] w20).drew).trans hf; clear hf)
                refine MixQ.mk (HF21.out) ?_
                (iterate 4 (first | (refine wpMix_take (v := ?_) (by rfl) ?_ ?_; rotate_left; (focus (intro W hW; have y0 := (HSX.out W hW).box.cell; go_simp; (try with_reducible rfl); done)); try simp only [Act.put, List.setIfInBounds_toArray, List.set_cons_zero, List.set_cons_succ]) | (refine wpMix_leave (by rfl) ?_; try simp only [Act.put, List.setIfInBounds_toArray, List.set_cons_zero, List.set_cons_succ])))
                refine wpMix_walk ?_
                go_wp2_with (go_at_call 11; (with_reducible refine useC (HLP.out w21 HF21.out) ?_); rintro e w22 ⟨v22, rfl, hown, hf⟩; obtain ⟨g22, -, hsl⟩ := hown.sl; obtain ⟨A22, o22, c22, rfl, -, -, -⟩ := hsl.form; have HF22 : Hid (Fr [] w20 w22) := HF21.out.trans hf; have HC22 := Lib.hid hsl; clear hown hsl hf)
                refine MixQ.mk (HF22.out) ?_
                refine wpMix_nil ?_
                have hs22 := HSX.out w22 HF22.out
                obtain ⟨gx, -, hsx⟩ := hs22.row
                have HIX := Lib.hid (HLX.out w22 HF22.out gx hsx)
                clear hs22 hsx
                go_wp2_with (first
                  | (go_at_call 26; (with_reducible refine useC HIX.out ?_); rintro e w23 ⟨v23, g23, rfl, hsl, hf⟩; obtain ⟨A23, o23, c23, rfl, -, -, -⟩ := hsl.form; have HF23 : Hid (Fr [] w20 w23) := HF22.out.trans hf; have HC23 := Lib.hid hsl; have HC24 := Lib.hid (HC22.out.fr hf (by simp)); clear hsl hf)
                  | (go_at_call 27; (with_reducible refine useC (locks_same w23 _ _ g22 g23 _ HC24.out HC23.out hl24) ?_); rintro e w24 ⟨rfl, hf⟩; have HS24 := Lib.hid (HS20.out.step (HF23.out.trans hf)); clear hf))
                go_roundw
                case rel => exact ⟨k + 1, by omega, by omega, by go_num, _, _, _, HS24⟩
                case measure => (simp [intOf]; try omega)
              · have hop : Ra.set T x0 x1 x2 true = (F, 0) := by
                  rw [hput]
                  unfold Ra.put
                  rw [← hFF, if_neg hmany]
                have hof := Ra.set_ok HOK.out x0 x1 x2 true
                rw [hop] at hof
                have HOF := Lib.hid hof
                clear hof
                obtain ⟨T5, hT5⟩ : ∃ z, z = F := ⟨_, rfl⟩
                have hop : Ra.set T x0 x1 x2 true = (T5, 0) := by rw [hop, hT5]
                have HT5 := Lib.hid hT5
                clear hT5
                have hfn : ∀ W, RaD W b T → Calls Tryd.prog 14 #[.pointer (some ⟨b, 0, none⟩), .agg #[.int .i64 x0, .int .i64 x1, .int .i64 x2, .bool true]] W (RaAns b (.nilIface) T5 W) := fun W hW => by
                  have := ra_Set W b T x0 x1 x2 true hW HTB.out
                  rw [hop] at this
                  exact this
                have HFN := Lib.hid hfn
                clear hfn hop
                have HO5 : Hid (Ra.OK T5) := by show Ra.OK T5; rw [HT5.out]; exact HOF.out
                have HEC := HE1
                have hmI : ¬ (24 : Int) < (Ra.locks F).length := by omega
                clear hput hFF hmany hok hq
                generalize Ra.locks F = lsF at *
                have HL30 := Lib.hid (HLK.out 4 true (by decide) (by decide) (by decide))
                clear HLK
                go_wp2_with (first
                  | (go_at_call 23; (with_reducible refine useC HL30.out ?_); rintro e w2 ⟨rfl, hf⟩; obtain ⟨w3, hw3⟩ : ∃ z, z = w2.alloc (.cells #[.int .i64 x0, .int .i64 x1, .int .i64 x2, .bool true] 29) := ⟨_, rfl⟩; have hl3 := RpL.start (hS.out.step hf) x0 x1 x2 true; rw [← hw3] at hl3; have HL3 := Lib.hid hl3; have HW3 := Lib.hid hw3; clear hw3 hl3 hf)
                  | (rw [← HW3.out]; clear HW3; generalize w2.heap.size = LB at *; obtain ⟨⟨c0, c1, c2, c3⟩, b0⟩ := HL3.out.cells)
                  | (go_at_call 18; (with_reducible refine useC (HRT.out w3 true) ?_); rintro e w4 ⟨rfl, hf⟩; have HL4 := Lib.hid (HL3.out.step hf); clear hf; clear c0 c1 c2 c3 b0; obtain ⟨⟨c0, c1, c2, c3⟩, b0⟩ := HL4.out.cells)
                  | (go_at_call 24; obtain ⟨gx, -, hsx⟩ := HL4.out.s.row; (with_reducible refine useC (HXT.out w4 _ gx hsx) ?_); rintro e w5 ⟨rfl, hf⟩; have HL5 := Lib.hid (HL4.out.step hf); clear hf hsx; clear c0 c1 c2 c3 b0; obtain ⟨⟨c0, c1, c2, c3⟩, b0⟩ := HL5.out.cells)
                  | (go_at_call 21; (with_reducible refine useC (HTT.out w5 HL5.out.s.tab.disk) ?_); rintro e w6 ⟨rfl, hf⟩; have HL6 := Lib.hid (HL5.out.step hf); clear hf; clear c0 c1 c2 c3 b0; obtain ⟨⟨c0, c1, c2, c3⟩, b0⟩ := HL6.out.cells)
                  | (go_at_call 15; (with_reducible refine useC (HE1.out w6 HL6.out.s.tab.fr) ?_); rintro e w7 ⟨rfl, hf⟩; have HL7 := Lib.hid (HL6.out.step hf); clear hf; clear c0 c1 c2 c3 b0; obtain ⟨⟨c0, c1, c2, c3⟩, b0⟩ := HL7.out.cells)
                  | (go_at_call 25; (with_reducible refine useC (HFI.out w7 _ HL7.out.s.row HL7.out.s.new) ?_); rintro e w8 ⟨A8, c8, rfl, hv8, hf⟩; obtain ⟨w9, hw9⟩ : ∃ z, z = w8.alloc (.cells #[.slice A8 256 c8] 47) := ⟨_, rfl⟩; have hl9 := (HL7.out.step hf).step ((Fr.refl [] w8).alloc (.cells #[.slice A8 256 c8] 47)); have hv9 := RkV.fr hv8 ((Fr.refl [] w8).alloc (.cells #[.slice A8 256 c8] 47)) (by simp); have hy9 : RkX (w8.alloc (.cells #[.slice A8 256 c8] 47)) w8.heap.size (.slice A8 256 c8) := heap_alloc_new w8 _; rw [← hw9] at hl9 hv9 hy9; have HL9 := Lib.hid hl9; have HV9 := Lib.hid hv9; have HY9 := Lib.hid hy9; have HW9 := Lib.hid hw9; clear hw9 hl9 hv9 hy9 hv8 hf; clear c0 c1 c2 c3 b0)
                  | (rw [← HW9.out]; clear HW9; generalize w8.heap.size = YB at *; have yb := HY9.out.cell; obtain ⟨⟨c0, c1, c2, c3⟩, b0⟩ := HL9.out.cells)
                  | (have hl9 := HL9; clear hl9; go_at_call 26; obtain ⟨gy, -, hsy⟩ := HV9.out; (with_reducible refine useC (HLI.out w9 _ gy hsy) ?_); rintro e w10 ⟨v10, g10, rfl, hsl, hf⟩; obtain ⟨A10, o10, c10, rfl, -, -, -⟩ := hsl.form; have HL10 := Lib.hid (HL9.out.step hf); have HV10 := Lib.hid (RkV.fr HV9.out hf (by simp)); have HY10 := Lib.hid (hf.get HY9.out (by simp)); clear hsl hsy hf; clear yb; have yb := RkX.cell HY10.out; clear c0 c1 c2 c3 b0; obtain ⟨⟨c0, c1, c2, c3⟩, b0⟩ := HL10.out.cells; have hfx := fun i => free_block HL10.out.s.box i none; obtain ⟨w11, hw11⟩ : ∃ z, z = w10.setCell ⟨X, 0, none⟩ (.slice A8 256 c8) := ⟨_, rfl⟩; have hl11 := HL10.out.put HV10.out HOF.out; rw [← hw11] at hl11; have HL11 := Lib.hid hl11; have HW11 := Lib.hid hw11; clear hw11 hl11)
                  | (rw [← HW11.out]; clear HW11 hfx yb; clear c0 c1 c2 c3 b0; obtain ⟨⟨c0, c1, c2, c3⟩, b0⟩ := HL11.out.cells)
                  | (go_at_call 14; (with_reducible refine useC (HFN.out w11 HL11.out.s.tab.disk) ?_); rintro e w20 ha; obtain ⟨rfl, hs⟩ := HL11.out.s.turn ha HO5.out; obtain ⟨A5, c5, HS20⟩ : ∃ A5 c5, Hid (RpS w w20 b X (.slice A5 256 c5) T5 T5) := ⟨_, _, by rw [HT5.out] at hs ⊢; exact hs⟩; clear ha hs; clear c0 c1 c2 c3 b0; go_wp2_with fail))
                clear HL3 HL4 HL6 HL7 HL5
                have HSX := Lib.hid (fun W (hW : Fr [] w20 W) => HS20.out.step hW)
                have HLP := Lib.hid (fun W (hW : Fr [] w20 W) => ra_List W b T5 (HS20.out.step hW).tab.disk HS20.out.ok.tab)
                have HLX := Lib.hid (fun W (hW : Fr [] w20 W) g (hs : Sl W (.slice A5 256 c5) g T5) => ref_List W _ g T5 hs HS20.out.ok.tab)
                have hl24 : (Ra.locks T5).length ≤ 1000000 := by have := Ra.listTo_len T5 4; show (Ra.listTo T5 4).length ≤ _; omega
                have HE20 := Lib.hid (HEC.out w20.drew HS20.out.tab.fr.drew)
                go_wp2_with fail
                (refine wp_region_mix (Fr [] w20 ·) 8 [(true, 0), (true, 1), (false, 2), (true, 3), (true, 4), (true, 5), (true, 7), (false, 6)] (by kernel_rfl) (by kernel_rfl) ((Fr.refl _ _).drew) ?_; simp only [pickOps, List.map_cons, List.map_nil, List.getD_cons_zero, List.getD_cons_succ, List.drop_succ_cons, List.drop_zero])
                (iterate 2 (first | (refine wpMix_take (v := ?_) (by rfl) ?_ ?_; rotate_left; (focus (intro W hW; skip; go_simp; (try with_reducible rfl); done)); try simp only [Act.put, List.setIfInBounds_toArray, List.set_cons_zero, List.set_cons_succ]) | (refine wpMix_leave (by rfl) ?_; try simp only [Act.put, List.setIfInBounds_toArray, List.set_cons_zero, List.set_cons_succ])))
                refine wpMix_walk ?_
                go_wp2_with (go_at_call 15; (with_reducible refine useC HE20.out ?_); rintro e w21 ⟨rfl, hf⟩; have HF21 : Hid (Fr [] w20 w21) := ((Fr.refl [] w20).drew).trans hf; clear hf)
                refine MixQ.mk (HF21.out) ?_
                (iterate 4 (first | (refine wpMix_take (v := ?_) (by rfl) ?_ ?_; rotate_left; (focus (intro W hW; have y0 := (HSX.out W hW).box.cell; go_simp; (try with_reducible rfl); done)); try simp only [Act.put, List.setIfInBounds_toArray, List.set_cons_zero, List.set_cons_succ]) | (refine wpMix_leave (by rfl) ?_; try simp only [Act.put, List.setIfInBounds_toArray, List.set_cons_zero, List.set_cons_succ])))
                refine wpMix_walk ?_
                go_wp2_with (go_at_call 11; (with_reducible refine useC (HLP.out w21 HF21.out) ?_); rintro e w22 ⟨v22, rfl, hown, hf⟩; obtain ⟨g22, -, hsl⟩ := hown.sl; obtain ⟨A22, o22, c22, rfl, -, -, -⟩ := hsl.form; have HF22 : Hid (Fr [] w20 w22) := HF21.out.trans hf; have HC22 := Lib.hid hsl; clear hown hsl hf)
                refine MixQ.mk (HF22.out) ?_
                refine wpMix_nil ?_
                have hs22 := HSX.out w22 HF22.out
                obtain ⟨gx, -, hsx⟩ := hs22.row
                have HIX := Lib.hid (HLX.out w22 HF22.out gx hsx)
                clear hs22 hsx
                go_wp2_with (first
                  | (go_at_call 26; (with_reducible refine useC HIX.out ?_); rintro e w23 ⟨v23, g23, rfl, hsl, hf⟩; obtain ⟨A23, o23, c23, rfl, -, -, -⟩ := hsl.form; have HF23 : Hid (Fr [] w20 w23) := HF22.out.trans hf; have HC23 := Lib.hid hsl; have HC24 := Lib.hid (HC22.out.fr hf (by simp)); clear hsl hf)
                  | (go_at_call 27; (with_reducible refine useC (locks_same w23 _ _ g22 g23 _ HC24.out HC23.out hl24) ?_); rintro e w24 ⟨rfl, hf⟩; have HS24 := Lib.hid (HS20.out.step (HF23.out.trans hf)); clear hf))
                go_roundw
                case rel => exact ⟨k + 1, by omega, by omega, by go_num, _, _, _, HS24⟩
                case measure => (simp [intOf]; try omega)
          · rw [hl] at hcell
            clear hl
            obtain ⟨q, hq⟩ : ∃ q, q = Ra.against T x0.toNat x1.toNat x2.toNat false 4 := ⟨_, rfl⟩
            have htt : Ra.test T x0 x1 x2 false = (q, 0) := by unfold Ra.test; rw [if_pos hok, hq]
            have hTT : ∀ W, RaD W b T → Calls Tryd.prog 21 #[.pointer (some ⟨b, 0, none⟩), .agg #[.int .i64 x0, .int .i64 x1, .int .i64 x2, .bool false]] W (fun e w' => e = .returned (.tuple #[.int .i64 q, .nilIface]) ∧ Fr [] W w') := fun W hW => by
              have := ra_Test W b T x0 x1 x2 false hW HL256.out
              rw [htt] at this
              exact this
            have HTT := Lib.hid hTT
            have hXT : ∀ W v g, Sl W v g T → Calls Tryd.prog 24 #[.agg #[v], .agg #[.int .i64 x0, .int .i64 x1, .int .i64 x2, .bool false]] W (fun e w' => e = .returned (.int .i64 q) ∧ Fr [] W w') := fun W v g hs => by
              have := ref_Test W v g T x0 x1 x2 false hs HL256.out HOL.out
              rw [← hq] at this
              exact this
            have HXT := Lib.hid hXT
            have herr0 : ∀ W, Fr [] w W → Calls Tryd.prog 15 #[.nilIface, .int .i64 0] W (OkT W) := fun W hW => rerr_ok W 0 (HE.out W hW)
            have HE1 := Lib.hid herr0
            clear herr0
            clear htt hTT hXT
            have hput : Ra.free T x0 x1 x2 = Ra.put T x0.toNat x1.toNat x2.toNat 0 := by unfold Ra.free; rw [if_pos hok]
            obtain ⟨F, hFF⟩ : ∃ F, F = Ra.fillTo T x0.toNat x1.toNat 0 x2.toNat := ⟨_, rfl⟩
            have hFI : ∀ W v, RkV (fun g => g ≠ b ∧ g ≠ X) W v T → (∀ k, W.heap.size ≤ k → k ≠ b ∧ k ≠ X) → Calls Tryd.prog 25 #[.agg #[v], .agg #[.int .i64 x0, .int .i64 x1, .int .i64 x2, .bool false], .int .i64 0] W (RfAns (fun g => g ≠ b ∧ g ≠ X) F W) := fun W v hr hn => by
              rw [hFF]
              exact ref_Fill W _ v T x0 x1 x2 false 0 hr HL256.out HOL.out hn
            have HFI := Lib.hid hFI
            clear hFI
            have hFT : Ra.Tab F := by
              rw [hFF]
              obtain ⟨k1, k2, k3⟩ := HOL.out
              exact Ra.fill_tab HTB.out (by omega) (by omega) (by decide)
            have HLI := Lib.hid (fun W v g (hs : Sl W v g F) => ref_List W v g F hs hFT)
            clear hFT
            by_cases hmany : 24 < (Ra.locks F).length
            · have hop : Ra.free T x0 x1 x2 = (T, 4) := by
                rw [hput]
                unfold Ra.put
                rw [← hFF, if_pos hmany]
              obtain ⟨T5, hT5⟩ : ∃ z, z = T := ⟨_, rfl⟩
              have hop : Ra.free T x0 x1 x2 = (T5, 4) := by rw [hop, hT5]
              have HT5 := Lib.hid hT5
              clear hT5
              have hfn : ∀ W, RaD W b T → Calls Tryd.prog 19 #[.pointer (some ⟨b, 0, none⟩), .agg #[.int .i64 x0, .int .i64 x1, .int .i64 x2, .bool false]] W (RaAns b (.iface 66 (.int .i64 4)) T5 W) := fun W hW => by
                have := ra_Free W b T x0 x1 x2 false hW HTB.out
                rw [hop] at this
                exact this
              have HFN := Lib.hid hfn
              clear hfn hop
              have HO5 : Hid (Ra.OK T5) := by show Ra.OK T5; rw [HT5.out]; exact HOK.out
              have herr4 : ∀ W, Fr [] w W → Calls Tryd.prog 15 #[.iface 66 (.int .i64 4), .int .i64 4] W (OkT W) := fun W hW => rerr_ok W 4 (HE.out W hW)
              have HEC := Lib.hid herr4
              clear herr4
              have hmI : (24 : Int) < (Ra.locks F).length := by omega
              clear hput hFF hmany hok hq
              generalize Ra.locks F = lsF at *
              have HL30 := Lib.hid (HLK.out 5 false (by decide) (by decide) (by decide))
              clear HLK
              go_wp2_with (first
                | (go_at_call 23; (with_reducible refine useC HL30.out ?_); rintro e w2 ⟨rfl, hf⟩; obtain ⟨w3, hw3⟩ : ∃ z, z = w2.alloc (.cells #[.int .i64 x0, .int .i64 x1, .int .i64 x2, .bool false] 29) := ⟨_, rfl⟩; have hl3 := RpL.start (hS.out.step hf) x0 x1 x2 false; rw [← hw3] at hl3; have HL3 := Lib.hid hl3; have HW3 := Lib.hid hw3; clear hw3 hl3 hf)
                | (rw [← HW3.out]; clear HW3; generalize w2.heap.size = LB at *; obtain ⟨⟨c0, c1, c2, c3⟩, b0⟩ := HL3.out.cells)
                | (go_at_call 18; (with_reducible refine useC (HRT.out w3 false) ?_); rintro e w4 ⟨rfl, hf⟩; have HL4 := Lib.hid (HL3.out.step hf); clear hf; clear c0 c1 c2 c3 b0; obtain ⟨⟨c0, c1, c2, c3⟩, b0⟩ := HL4.out.cells)
                | (go_at_call 24; obtain ⟨gx, -, hsx⟩ := HL4.out.s.row; (with_reducible refine useC (HXT.out w4 _ gx hsx) ?_); rintro e w5 ⟨rfl, hf⟩; have HL5 := Lib.hid (HL4.out.step hf); clear hf hsx; clear c0 c1 c2 c3 b0; obtain ⟨⟨c0, c1, c2, c3⟩, b0⟩ := HL5.out.cells)
                | (go_at_call 21; (with_reducible refine useC (HTT.out w5 HL5.out.s.tab.disk) ?_); rintro e w6 ⟨rfl, hf⟩; have HL6 := Lib.hid (HL5.out.step hf); clear hf; clear c0 c1 c2 c3 b0; obtain ⟨⟨c0, c1, c2, c3⟩, b0⟩ := HL6.out.cells)
                | (go_at_call 15; (with_reducible refine useC (HE1.out w6 HL6.out.s.tab.fr) ?_); rintro e w7 ⟨rfl, hf⟩; have HL7 := Lib.hid (HL6.out.step hf); clear hf; clear c0 c1 c2 c3 b0; obtain ⟨⟨c0, c1, c2, c3⟩, b0⟩ := HL7.out.cells)
                | (go_at_call 25; (with_reducible refine useC (HFI.out w7 _ HL7.out.s.row HL7.out.s.new) ?_); rintro e w8 ⟨A8, c8, rfl, hv8, hf⟩; obtain ⟨w9, hw9⟩ : ∃ z, z = w8.alloc (.cells #[.slice A8 256 c8] 47) := ⟨_, rfl⟩; have hl9 := (HL7.out.step hf).step ((Fr.refl [] w8).alloc (.cells #[.slice A8 256 c8] 47)); have hv9 := RkV.fr hv8 ((Fr.refl [] w8).alloc (.cells #[.slice A8 256 c8] 47)) (by simp); have hy9 : RkX (w8.alloc (.cells #[.slice A8 256 c8] 47)) w8.heap.size (.slice A8 256 c8) := heap_alloc_new w8 _; rw [← hw9] at hl9 hv9 hy9; have HL9 := Lib.hid hl9; have HV9 := Lib.hid hv9; have HY9 := Lib.hid hy9; have HW9 := Lib.hid hw9; clear hw9 hl9 hv9 hy9 hv8 hf; clear c0 c1 c2 c3 b0)
                | (rw [← HW9.out]; clear HW9; generalize w8.heap.size = YB at *; have yb := HY9.out.cell; obtain ⟨⟨c0, c1, c2, c3⟩, b0⟩ := HL9.out.cells)
                | (have hl9 := HL9; clear hl9; go_at_call 26; obtain ⟨gy, -, hsy⟩ := HV9.out; (with_reducible refine useC (HLI.out w9 _ gy hsy) ?_); rintro e w10 ⟨v10, g10, rfl, hsl, hf⟩; obtain ⟨A10, o10, c10, rfl, -, -, -⟩ := hsl.form; have HL10 := Lib.hid (HL9.out.step hf); have HV10 := Lib.hid (RkV.fr HV9.out hf (by simp)); have HY10 := Lib.hid (hf.get HY9.out (by simp)); clear hsl hsy hf; clear yb; have yb := RkX.cell HY10.out; clear c0 c1 c2 c3 b0; obtain ⟨⟨c0, c1, c2, c3⟩, b0⟩ := HL10.out.cells)
                | (go_at_call 19; (with_reducible refine useC (HFN.out w10 HL10.out.s.tab.disk) ?_); rintro e w20 ha; obtain ⟨rfl, hs⟩ := HL10.out.s.turn ha HO5.out; obtain ⟨A5, c5, HS20⟩ : ∃ A5 c5, Hid (RpS w w20 b X (.slice A5 256 c5) T5 T5) := ⟨_, _, by rw [HT5.out] at hs ⊢; exact hs⟩; clear ha hs; clear c0 c1 c2 c3 b0; go_wp2_with fail))
              clear HL3 HL4 HL6 HL7 HL5
              have HSX := Lib.hid (fun W (hW : Fr [] w20 W) => HS20.out.step hW)
              have HLP := Lib.hid (fun W (hW : Fr [] w20 W) => ra_List W b T5 (HS20.out.step hW).tab.disk HS20.out.ok.tab)
              have HLX := Lib.hid (fun W (hW : Fr [] w20 W) g (hs : Sl W (.slice A5 256 c5) g T5) => ref_List W _ g T5 hs HS20.out.ok.tab)
              have hl24 : (Ra.locks T5).length ≤ 1000000 := by have := Ra.listTo_len T5 4; show (Ra.listTo T5 4).length ≤ _; omega
              have HE20 := Lib.hid (HEC.out w20.drew HS20.out.tab.fr.drew)
              go_wp2_with fail
              (refine wp_region_mix (Fr [] w20 ·) 8 [(true, 0), (true, 1), (false, 2), (true, 3), (true, 4), (true, 5), (true, 7), (false, 6)] (by kernel_rfl) (by kernel_rfl) ((Fr.refl _ _).drew) ?_; simp only [pickOps, List.map_cons, List.map_nil, List.getD_cons_zero, List.getD_cons_succ, List.drop_succ_cons, List.drop_zero])
              (iterate 2 (first | (refine wpMix_take (v := ?_) (by rfl) ?_ ?_; rotate_left; (focus (intro W hW; skip; go_simp; (try with_reducible rfl); done)); try simp only [Act.put, List.setIfInBounds_toArray, List.set_cons_zero, List.set_cons_succ]) | (refine wpMix_leave (by rfl) ?_; try simp only [Act.put, List.setIfInBounds_toArray, List.set_cons_zero, List.set_cons_succ])))
              refine wpMix_walk ?_
              go_wp2_with (go_at_call 15; (with_reducible refine useC HE20.out ?_); rintro e w21 ⟨rfl, hf⟩; have HF21 : Hid (Fr [] w20 w21) := ((Fr.refl [] w20).drew).trans hf; clear hf)
              refine MixQ.mk (HF21.out) ?_
              (iterate 4 (first | (refine wpMix_take (v := ?_) (by rfl) ?_ ?_; rotate_left; (focus (intro W hW; have y0 := (HSX.out W hW).box.cell; go_simp; (try with_reducible rfl); done)); try simp only [Act.put, List.setIfInBounds_toArray, List.set_cons_zero, List.set_cons_succ]) | (refine wpMix_leave (by rfl) ?_; try simp only [Act.put, List.setIfInBounds_toArray, List.set_cons_zero, List.set_cons_succ])))
              refine wpMix_walk ?_
              go_wp2_with (go_at_call 11; (with_reducible refine useC (HLP.out w21 HF21.out) ?_); rintro e w22 ⟨v22, rfl, hown, hf⟩; obtain ⟨g22, -, hsl⟩ := hown.sl; obtain ⟨A22, o22, c22, rfl, -, -, -⟩ := hsl.form; have HF22 : Hid (Fr [] w20 w22) := HF21.out.trans hf; have HC22 := Lib.hid hsl; clear hown hsl hf)
              refine MixQ.mk (HF22.out) ?_
              refine wpMix_nil ?_
              have hs22 := HSX.out w22 HF22.out
              obtain ⟨gx, -, hsx⟩ := hs22.row
              have HIX := Lib.hid (HLX.out w22 HF22.out gx hsx)
              clear hs22 hsx
              go_wp2_with (first
                | (go_at_call 26; (with_reducible refine useC HIX.out ?_); rintro e w23 ⟨v23, g23, rfl, hsl, hf⟩; obtain ⟨A23, o23, c23, rfl, -, -, -⟩ := hsl.form; have HF23 : Hid (Fr [] w20 w23) := HF22.out.trans hf; have HC23 := Lib.hid hsl; have HC24 := Lib.hid (HC22.out.fr hf (by simp)); clear hsl hf)
                | (go_at_call 27; (with_reducible refine useC (locks_same w23 _ _ g22 g23 _ HC24.out HC23.out hl24) ?_); rintro e w24 ⟨rfl, hf⟩; have HS24 := Lib.hid (HS20.out.step (HF23.out.trans hf)); clear hf))
              go_roundw
              case rel => exact ⟨k + 1, by omega, by omega, by go_num, _, _, _, HS24⟩
              case measure => (simp [intOf]; try omega)
            · have hop : Ra.free T x0 x1 x2 = (F, 0) := by
                rw [hput]
                unfold Ra.put
                rw [← hFF, if_neg hmany]
              have hof := Ra.free_ok HOK.out x0 x1 x2
              rw [hop] at hof
              have HOF := Lib.hid hof
              clear hof
              obtain ⟨T5, hT5⟩ : ∃ z, z = F := ⟨_, rfl⟩
              have hop : Ra.free T x0 x1 x2 = (T5, 0) := by rw [hop, hT5]
              have HT5 := Lib.hid hT5
              clear hT5
              have hfn : ∀ W, RaD W b T → Calls Tryd.prog 19 #[.pointer (some ⟨b, 0, none⟩), .agg #[.int .i64 x0, .int .i64 x1, .int .i64 x2, .bool false]] W (RaAns b (.nilIface) T5 W) := fun W hW => by
                have := ra_Free W b T x0 x1 x2 false hW HTB.out
                rw [hop] at this
                exact this
              have HFN := Lib.hid hfn
              clear hfn hop
              have HO5 : Hid (Ra.OK T5) := by show Ra.OK T5; rw [HT5.out]; exact HOF.out
              have HEC := HE1
              have hmI : ¬ (24 : Int) < (Ra.locks F).length := by omega
              clear hput hFF hmany hok hq
              generalize Ra.locks F = lsF at *
              have HL30 := Lib.hid (HLK.out 5 false (by decide) (by decide) (by decide))
              clear HLK
              go_wp2_with (first
                | (go_at_call 23; (with_reducible refine useC HL30.out ?_); rintro e w2 ⟨rfl, hf⟩; obtain ⟨w3, hw3⟩ : ∃ z, z = w2.alloc (.cells #[.int .i64 x0, .int .i64 x1, .int .i64 x2, .bool false] 29) := ⟨_, rfl⟩; have hl3 := RpL.start (hS.out.step hf) x0 x1 x2 false; rw [← hw3] at hl3; have HL3 := Lib.hid hl3; have HW3 := Lib.hid hw3; clear hw3 hl3 hf)
                | (rw [← HW3.out]; clear HW3; generalize w2.heap.size = LB at *; obtain ⟨⟨c0, c1, c2, c3⟩, b0⟩ := HL3.out.cells)
                | (go_at_call 18; (with_reducible refine useC (HRT.out w3 false) ?_); rintro e w4 ⟨rfl, hf⟩; have HL4 := Lib.hid (HL3.out.step hf); clear hf; clear c0 c1 c2 c3 b0; obtain ⟨⟨c0, c1, c2, c3⟩, b0⟩ := HL4.out.cells)
                | (go_at_call 24; obtain ⟨gx, -, hsx⟩ := HL4.out.s.row; (with_reducible refine useC (HXT.out w4 _ gx hsx) ?_); rintro e w5 ⟨rfl, hf⟩; have HL5 := Lib.hid (HL4.out.step hf); clear hf hsx; clear c0 c1 c2 c3 b0; obtain ⟨⟨c0, c1, c2, c3⟩, b0⟩ := HL5.out.cells)
                | (go_at_call 21; (with_reducible refine useC (HTT.out w5 HL5.out.s.tab.disk) ?_); rintro e w6 ⟨rfl, hf⟩; have HL6 := Lib.hid (HL5.out.step hf); clear hf; clear c0 c1 c2 c3 b0; obtain ⟨⟨c0, c1, c2, c3⟩, b0⟩ := HL6.out.cells)
                | (go_at_call 15; (with_reducible refine useC (HE1.out w6 HL6.out.s.tab.fr) ?_); rintro e w7 ⟨rfl, hf⟩; have HL7 := Lib.hid (HL6.out.step hf); clear hf; clear c0 c1 c2 c3 b0; obtain ⟨⟨c0, c1, c2, c3⟩, b0⟩ := HL7.out.cells)
                | (go_at_call 25; (with_reducible refine useC (HFI.out w7 _ HL7.out.s.row HL7.out.s.new) ?_); rintro e w8 ⟨A8, c8, rfl, hv8, hf⟩; obtain ⟨w9, hw9⟩ : ∃ z, z = w8.alloc (.cells #[.slice A8 256 c8] 47) := ⟨_, rfl⟩; have hl9 := (HL7.out.step hf).step ((Fr.refl [] w8).alloc (.cells #[.slice A8 256 c8] 47)); have hv9 := RkV.fr hv8 ((Fr.refl [] w8).alloc (.cells #[.slice A8 256 c8] 47)) (by simp); have hy9 : RkX (w8.alloc (.cells #[.slice A8 256 c8] 47)) w8.heap.size (.slice A8 256 c8) := heap_alloc_new w8 _; rw [← hw9] at hl9 hv9 hy9; have HL9 := Lib.hid hl9; have HV9 := Lib.hid hv9; have HY9 := Lib.hid hy9; have HW9 := Lib.hid hw9; clear hw9 hl9 hv9 hy9 hv8 hf; clear c0 c1 c2 c3 b0)
                | (rw [← HW9.out]; clear HW9; generalize w8.heap.size = YB at *; have yb := HY9.out.cell; obtain ⟨⟨c0, c1, c2, c3⟩, b0⟩ := HL9.out.cells)
                | (have hl9 := HL9; clear hl9; go_at_call 26; obtain ⟨gy, -, hsy⟩ := HV9.out; (with_reducible refine useC (HLI.out w9 _ gy hsy) ?_); rintro e w10 ⟨v10, g10, rfl, hsl, hf⟩; obtain ⟨A10, o10, c10, rfl, -, -, -⟩ := hsl.form; have HL10 := Lib.hid (HL9.out.step hf); have HV10 := Lib.hid (RkV.fr HV9.out hf (by simp)); have HY10 := Lib.hid (hf.get HY9.out (by simp)); clear hsl hsy hf; clear yb; have yb := RkX.cell HY10.out; clear c0 c1 c2 c3 b0; obtain ⟨⟨c0, c1, c2, c3⟩, b0⟩ := HL10.out.cells; have hfx := fun i => free_block HL10.out.s.box i none; obtain ⟨w11, hw11⟩ : ∃ z, z = w10.setCell ⟨X, 0, none⟩ (.slice A8 256 c8) := ⟨_, rfl⟩; have hl11 := HL10.out.put HV10.out HOF.out; rw [← hw11] at hl11; have HL11 := Lib.hid hl11; have HW11 := Lib.hid hw11; clear hw11 hl11)
                | (rw [← HW11.out]; clear HW11 hfx yb; clear c0 c1 c2 c3 b0; obtain ⟨⟨c0, c1, c2, c3⟩, b0⟩ := HL11.out.cells)
                | (go_at_call 19; (with_reducible refine useC (HFN.out w11 HL11.out.s.tab.disk) ?_); rintro e w20 ha; obtain ⟨rfl, hs⟩ := HL11.out.s.turn ha HO5.out; obtain ⟨A5, c5, HS20⟩ : ∃ A5 c5, Hid (RpS w w20 b X (.slice A5 256 c5) T5 T5) := ⟨_, _, by rw [HT5.out] at hs ⊢; exact hs⟩; clear ha hs; clear c0 c1 c2 c3 b0; go_wp2_with fail))
              clear HL3 HL4 HL6 HL7 HL5
              have HSX := Lib.hid (fun W (hW : Fr [] w20 W) => HS20.out.step hW)
              have HLP := Lib.hid (fun W (hW : Fr [] w20 W) => ra_List W b T5 (HS20.out.step hW).tab.disk HS20.out.ok.tab)
              have HLX := Lib.hid (fun W (hW : Fr [] w20 W) g (hs : Sl W (.slice A5 256 c5) g T5) => ref_List W _ g T5 hs HS20.out.ok.tab)
              have hl24 : (Ra.locks T5).length ≤ 1000000 := by have := Ra.listTo_len T5 4; show (Ra.listTo T5 4).length ≤ _; omega
              have HE20 := Lib.hid (HEC.out w20.drew HS20.out.tab.fr.drew)
              go_wp2_with fail
              (refine wp_region_mix (Fr [] w20 ·) 8 [(true, 0), (true, 1), (false, 2), (true, 3), (true, 4), (true, 5), (true, 7), (false, 6)] (by kernel_rfl) (by kernel_rfl) ((Fr.refl _ _).drew) ?_; simp only [pickOps, List.map_cons, List.map_nil, List.getD_cons_zero, List.getD_cons_succ, List.drop_succ_cons, List.drop_zero])
              (iterate 2 (first | (refine wpMix_take (v := ?_) (by rfl) ?_ ?_; rotate_left; (focus (intro W hW; skip; go_simp; (try with_reducible rfl); done)); try simp only [Act.put, List.setIfInBounds_toArray, List.set_cons_zero, List.set_cons_succ]) | (refine wpMix_leave (by rfl) ?_; try simp only [Act.put, List.setIfInBounds_toArray, List.set_cons_zero, List.set_cons_succ])))
              refine wpMix_walk ?_
              go_wp2_with (go_at_call 15; (with_reducible refine useC HE20.out ?_); rintro e w21 ⟨rfl, hf⟩; have HF21 : Hid (Fr [] w20 w21) := ((Fr.refl [] w20).drew).trans hf; clear hf)
              refine MixQ.mk (HF21.out) ?_
              (iterate 4 (first | (refine wpMix_take (v := ?_) (by rfl) ?_ ?_; rotate_left; (focus (intro W hW; have y0 := (HSX.out W hW).box.cell; go_simp; (try with_reducible rfl); done)); try simp only [Act.put, List.setIfInBounds_toArray, List.set_cons_zero, List.set_cons_succ]) | (refine wpMix_leave (by rfl) ?_; try simp only [Act.put, List.setIfInBounds_toArray, List.set_cons_zero, List.set_cons_succ])))
              refine wpMix_walk ?_
              go_wp2_with (go_at_call 11; (with_reducible refine useC (HLP.out w21 HF21.out) ?_); rintro e w22 ⟨v22, rfl, hown, hf⟩; obtain ⟨g22, -, hsl⟩ := hown.sl; obtain ⟨A22, o22, c22, rfl, -, -, -⟩ := hsl.form; have HF22 : Hid (Fr [] w20 w22) := HF21.out.trans hf; have HC22 := Lib.hid hsl; clear hown hsl hf)
              refine MixQ.mk (HF22.out) ?_
              refine wpMix_nil ?_
              have hs22 := HSX.out w22 HF22.out
              obtain ⟨gx, -, hsx⟩ := hs22.row
              have HIX := Lib.hid (HLX.out w22 HF22.out gx hsx)
              clear hs22 hsx
              go_wp2_with (first
                | (go_at_call 26; (with_reducible refine useC HIX.out ?_); rintro e w23 ⟨v23, g23, rfl, hsl, hf⟩; obtain ⟨A23, o23, c23, rfl, -, -, -⟩ := hsl.form; have HF23 : Hid (Fr [] w20 w23) := HF22.out.trans hf; have HC23 := Lib.hid hsl; have HC24 := Lib.hid (HC22.out.fr hf (by simp)); clear hsl hf)
                | (go_at_call 27; (with_reducible refine useC (locks_same w23 _ _ g22 g23 _ HC24.out HC23.out hl24) ?_); rintro e w24 ⟨rfl, hf⟩; have HS24 := Lib.hid (HS20.out.step (HF23.out.trans hf)); clear hf))
              go_roundw
              case rel => exact ⟨k + 1, by omega, by omega, by go_num, _, _, _, HS24⟩
              case measure => (simp [intOf]; try omega)
        · have HRT := Lib.hid (fun W al => ra_right W x0 x1 x2 al)
          rw [decide_eq_false hok] at HRT
          rcases h345 with hl | hl | hl
          · rw [hl] at hcell
            clear hl
            have hop : Ra.set T x0 x1 x2 false = (T, 1) := if_neg hok
            have htt : Ra.test T x0 x1 x2 false = (0, 1) := if_neg hok
            have hTT : ∀ W, RaD W b T → Calls Tryd.prog 21 #[.pointer (some ⟨b, 0, none⟩), .agg #[.int .i64 x0, .int .i64 x1, .int .i64 x2, .bool false]] W (fun e w' => e = .returned (.tuple #[.int .i64 0, .iface 66 (.int .i64 1)]) ∧ Fr [] W w') := fun W hW => by
              have := ra_Test W b T x0 x1 x2 false hW HL256.out
              rw [htt, show testAns (0, 1) = .tuple #[.int .i64 0, .iface 66 (.int .i64 1)] from rfl] at this
              exact this
            have HTT := Lib.hid hTT
            clear hTT
            have herr1 : ∀ W, Fr [] w W → Calls Tryd.prog 15 #[.iface 66 (.int .i64 1), .int .i64 1] W (OkT W) := fun W hW => rerr_ok W 1 (HE.out W hW)
            have HE1 := Lib.hid herr1
            clear herr1
            clear hok htt
            obtain ⟨T5, hT5⟩ : ∃ z, z = T := ⟨_, rfl⟩
            have hop : Ra.set T x0 x1 x2 false = (T5, 1) := by rw [hop, hT5]
            have HT5 := Lib.hid hT5
            clear hT5
            have hfn : ∀ W, RaD W b T → Calls Tryd.prog 14 #[.pointer (some ⟨b, 0, none⟩), .agg #[.int .i64 x0, .int .i64 x1, .int .i64 x2, .bool false]] W (RaAns b (.iface 66 (.int .i64 1)) T5 W) := fun W hW => by
              have := ra_Set W b T x0 x1 x2 false hW HTB.out
              rw [hop] at this
              exact this
            have HFN := Lib.hid hfn
            clear hfn hop
            have HO5 : Hid (Ra.OK T5) := by show Ra.OK T5; rw [HT5.out]; exact HOK.out
            have HEC := HE1
            have HL30 := Lib.hid (HLK.out 3 false (by decide) (by decide) (by decide))
            clear HLK
            go_wp2_with (first
              | (go_at_call 23; (with_reducible refine useC HL30.out ?_); rintro e w2 ⟨rfl, hf⟩; obtain ⟨w3, hw3⟩ : ∃ z, z = w2.alloc (.cells #[.int .i64 x0, .int .i64 x1, .int .i64 x2, .bool false] 29) := ⟨_, rfl⟩; have hl3 := RpL.start (hS.out.step hf) x0 x1 x2 false; rw [← hw3] at hl3; have HL3 := Lib.hid hl3; have HW3 := Lib.hid hw3; clear hw3 hl3 hf)
              | (rw [← HW3.out]; clear HW3; generalize w2.heap.size = LB at *; obtain ⟨⟨c0, c1, c2, c3⟩, b0⟩ := HL3.out.cells)
              | (go_at_call 18; (with_reducible refine useC (HRT.out w3 false) ?_); rintro e w4 ⟨rfl, hf⟩; have HL4 := Lib.hid (HL3.out.step hf); clear hf; clear c0 c1 c2 c3 b0; obtain ⟨⟨c0, c1, c2, c3⟩, b0⟩ := HL4.out.cells)
              | (go_at_call 21; (with_reducible refine useC (HTT.out w4 HL4.out.s.tab.disk) ?_); rintro e w6 ⟨rfl, hf⟩; have HL6 := Lib.hid (HL4.out.step hf); clear hf; clear c0 c1 c2 c3 b0; obtain ⟨⟨c0, c1, c2, c3⟩, b0⟩ := HL6.out.cells)
              | (go_at_call 15; (with_reducible refine useC (HE1.out w6 HL6.out.s.tab.fr) ?_); rintro e w7 ⟨rfl, hf⟩; have HL7 := Lib.hid (HL6.out.step hf); clear hf; clear c0 c1 c2 c3 b0; obtain ⟨⟨c0, c1, c2, c3⟩, b0⟩ := HL7.out.cells)
              | (go_at_call 14; (with_reducible refine useC (HFN.out w7 HL7.out.s.tab.disk) ?_); rintro e w20 ha; obtain ⟨rfl, hs⟩ := HL7.out.s.turn ha HO5.out; obtain ⟨A5, c5, HS20⟩ : ∃ A5 c5, Hid (RpS w w20 b X (.slice A5 256 c5) T5 T5) := ⟨_, _, by rw [HT5.out] at hs ⊢; exact hs⟩; clear ha hs; clear c0 c1 c2 c3 b0; go_wp2_with fail))
            clear HL3 HL4 HL6 HL7
            have HSX := Lib.hid (fun W (hW : Fr [] w20 W) => HS20.out.step hW)
            have HLP := Lib.hid (fun W (hW : Fr [] w20 W) => ra_List W b T5 (HS20.out.step hW).tab.disk HS20.out.ok.tab)
            have HLX := Lib.hid (fun W (hW : Fr [] w20 W) g (hs : Sl W (.slice A5 256 c5) g T5) => ref_List W _ g T5 hs HS20.out.ok.tab)
            have hl24 : (Ra.locks T5).length ≤ 1000000 := by have := Ra.listTo_len T5 4; show (Ra.listTo T5 4).length ≤ _; omega
            have HE20 := Lib.hid (HEC.out w20.drew HS20.out.tab.fr.drew)
            go_wp2_with fail
            (refine wp_region_mix (Fr [] w20 ·) 8 [(true, 0), (true, 1), (false, 2), (true, 3), (true, 4), (true, 5), (true, 7), (false, 6)] (by kernel_rfl) (by kernel_rfl) ((Fr.refl _ _).drew) ?_; simp only [pickOps, List.map_cons, List.map_nil, List.getD_cons_zero, List.getD_cons_succ, List.drop_succ_cons, List.drop_zero])
            (iterate 2 (first | (refine wpMix_take (v := ?_) (by rfl) ?_ ?_; rotate_left; (focus (intro W hW; skip; go_simp; (try with_reducible rfl); done)); try simp only [Act.put, List.setIfInBounds_toArray, List.set_cons_zero, List.set_cons_succ]) | (refine wpMix_leave (by rfl) ?_; try simp only [Act.put, List.setIfInBounds_toArray, List.set_cons_zero, List.set_cons_succ])))
            refine wpMix_walk ?_
            go_wp2_with (go_at_call 15; (with_reducible refine useC HE20.out ?_); rintro e w21 ⟨rfl, hf⟩; have HF21 : Hid (Fr [] w20 w21) := ((Fr.refl [] w20).drew).trans hf; clear hf)
            refine MixQ.mk (HF21.out) ?_
            (iterate 4 (first | (refine wpMix_take (v := ?_) (by rfl) ?_ ?_; rotate_left; (focus (intro W hW; have y0 := (HSX.out W hW).box.cell; go_simp; (try with_reducible rfl); done)); try simp only [Act.put, List.setIfInBounds_toArray, List.set_cons_zero, List.set_cons_succ]) | (refine wpMix_leave (by rfl) ?_; try simp only [Act.put, List.setIfInBounds_toArray, List.set_cons_zero, List.set_cons_succ])))
            refine wpMix_walk ?_
            go_wp2_with (go_at_call 11; (with_reducible refine useC (HLP.out w21 HF21.out) ?_); rintro e w22 ⟨v22, rfl, hown, hf⟩; obtain ⟨g22, -, hsl⟩ := hown.sl; obtain ⟨A22, o22, c22, rfl, -, -, -⟩ := hsl.form; have HF22 : Hid (Fr [] w20 w22) := HF21.out.trans hf; have HC22 := Lib.hid hsl; clear hown hsl hf)
            refine MixQ.mk (HF22.out) ?_
            refine wpMix_nil ?_
            have hs22 := HSX.out w22 HF22.out
            obtain ⟨gx, -, hsx⟩ := hs22.row
            have HIX := Lib.hid (HLX.out w22 HF22.out gx hsx)
            clear hs22 hsx
            go_wp2_with (first
              | (go_at_call 26; (with_reducible refine useC HIX.out ?_); rintro e w23 ⟨v23, g23, rfl, hsl, hf⟩; obtain ⟨A23, o23, c23, rfl, -, -, -⟩ := hsl.form; have HF23 : Hid (Fr [] w20 w23) := HF22.out.trans hf; have HC23 := Lib.hid hsl; have HC24 := Lib.hid (HC22.out.fr hf (by simp)); clear hsl hf)
              | (go_at_call 27; (with_reducible refine useC (locks_same w23 _ _ g22 g23 _ HC24.out HC23.out hl24) ?_); rintro e w24 ⟨rfl, hf⟩; have HS24 := Lib.hid (HS20.out.step (HF23.out.trans hf)); clear hf))
            go_roundw
            case rel => exact ⟨k + 1, by omega, by omega, by go_num, _, _, _, HS24⟩
            case measure => (simp [intOf]; try omega)
          · rw [hl] at hcell
            clear hl
            have hop : Ra.set T x0 x1 x2 true = (T, 1) := if_neg hok
            have htt : Ra.test T x0 x1 x2 true = (0, 1) := if_neg hok
            have hTT : ∀ W, RaD W b T → Calls Tryd.prog 21 #[.pointer (some ⟨b, 0, none⟩), .agg #[.int .i64 x0, .int .i64 x1, .int .i64 x2, .bool true]] W (fun e w' => e = .returned (.tuple #[.int .i64 0, .iface 66 (.int .i64 1)]) ∧ Fr [] W w') := fun W hW => by
              have := ra_Test W b T x0 x1 x2 true hW HL256.out
              rw [htt, show testAns (0, 1) = .tuple #[.int .i64 0, .iface 66 (.int .i64 1)] from rfl] at this
              exact this
            have HTT := Lib.hid hTT
            clear hTT
            have herr1 : ∀ W, Fr [] w W → Calls Tryd.prog 15 #[.iface 66 (.int .i64 1), .int .i64 1] W (OkT W) := fun W hW => rerr_ok W 1 (HE.out W hW)
            have HE1 := Lib.hid herr1
            clear herr1
            clear hok htt
            obtain ⟨T5, hT5⟩ : ∃ z, z = T := ⟨_, rfl⟩
            have hop : Ra.set T x0 x1 x2 true = (T5, 1) := by rw [hop, hT5]
            have HT5 := Lib.hid hT5
            clear hT5
            have hfn : ∀ W, RaD W b T → Calls Tryd.prog 14 #[.pointer (some ⟨b, 0, none⟩), .agg #[.int .i64 x0, .int .i64 x1, .int .i64 x2, .bool true]] W (RaAns b (.iface 66 (.int .i64 1)) T5 W) := fun W hW => by
              have := ra_Set W b T x0 x1 x2 true hW HTB.out
              rw [hop] at this
              exact this
            have HFN := Lib.hid hfn
            clear hfn hop
            have HO5 : Hid (Ra.OK T5) := by show Ra.OK T5; rw [HT5.out]; exact HOK.out
            have HEC := HE1
            have HL30 := Lib.hid (HLK.out 4 true (by decide) (by decide) (by decide))
            clear HLK
            go_wp2_with (first
              | (go_at_call 23; (with_reducible refine useC HL30.out ?_); rintro e w2 ⟨rfl, hf⟩; obtain ⟨w3, hw3⟩ : ∃ z, z = w2.alloc (.cells #[.int .i64 x0, .int .i64 x1, .int .i64 x2, .bool true] 29) := ⟨_, rfl⟩; have hl3 := RpL.start (hS.out.step hf) x0 x1 x2 true; rw [← hw3] at hl3; have HL3 := Lib.hid hl3; have HW3 := Lib.hid hw3; clear hw3 hl3 hf)
              | (rw [← HW3.out]; clear HW3; generalize w2.heap.size = LB at *; obtain ⟨⟨c0, c1, c2, c3⟩, b0⟩ := HL3.out.cells)
              | (go_at_call 18; (with_reducible refine useC (HRT.out w3 true) ?_); rintro e w4 ⟨rfl, hf⟩; have HL4 := Lib.hid (HL3.out.step hf); clear hf; clear c0 c1 c2 c3 b0; obtain ⟨⟨c0, c1, c2, c3⟩, b0⟩ := HL4.out.cells)
              | (go_at_call 21; (with_reducible refine useC (HTT.out w4 HL4.out.s.tab.disk) ?_); rintro e w6 ⟨rfl, hf⟩; have HL6 := Lib.hid (HL4.out.step hf); clear hf; clear c0 c1 c2 c3 b0; obtain ⟨⟨c0, c1, c2, c3⟩, b0⟩ := HL6.out.cells)
              | (go_at_call 15; (with_reducible refine useC (HE1.out w6 HL6.out.s.tab.fr) ?_); rintro e w7 ⟨rfl, hf⟩; have HL7 := Lib.hid (HL6.out.step hf); clear hf; clear c0 c1 c2 c3 b0; obtain ⟨⟨c0, c1, c2, c3⟩, b0⟩ := HL7.out.cells)
              | (go_at_call 14; (with_reducible refine useC (HFN.out w7 HL7.out.s.tab.disk) ?_); rintro e w20 ha; obtain ⟨rfl, hs⟩ := HL7.out.s.turn ha HO5.out; obtain ⟨A5, c5, HS20⟩ : ∃ A5 c5, Hid (RpS w w20 b X (.slice A5 256 c5) T5 T5) := ⟨_, _, by rw [HT5.out] at hs ⊢; exact hs⟩; clear ha hs; clear c0 c1 c2 c3 b0; go_wp2_with fail))
            clear HL3 HL4 HL6 HL7
            have HSX := Lib.hid (fun W (hW : Fr [] w20 W) => HS20.out.step hW)
            have HLP := Lib.hid (fun W (hW : Fr [] w20 W) => ra_List W b T5 (HS20.out.step hW).tab.disk HS20.out.ok.tab)
            have HLX := Lib.hid (fun W (hW : Fr [] w20 W) g (hs : Sl W (.slice A5 256 c5) g T5) => ref_List W _ g T5 hs HS20.out.ok.tab)
            have hl24 : (Ra.locks T5).length ≤ 1000000 := by have := Ra.listTo_len T5 4; show (Ra.listTo T5 4).length ≤ _; omega
            have HE20 := Lib.hid (HEC.out w20.drew HS20.out.tab.fr.drew)
            go_wp2_with fail
            (refine wp_region_mix (Fr [] w20 ·) 8 [(true, 0), (true, 1), (false, 2), (true, 3), (true, 4), (true, 5), (true, 7), (false, 6)] (by kernel_rfl) (by kernel_rfl) ((Fr.refl _ _).drew) ?_; simp only [pickOps, List.map_cons, List.map_nil, List.getD_cons_zero, List.getD_cons_succ, List.drop_succ_cons, List.drop_zero])
            (iterate 2 (first | (refine wpMix_take (v := ?_) (by rfl) ?_ ?_; rotate_left; (focus (intro W hW; skip; go_simp; (try with_reducible rfl); done)); try simp only [Act.put, List.setIfInBounds_toArray, List.set_cons_zero, List.set_cons_succ]) | (refine wpMix_leave (by rfl) ?_; try simp only [Act.put, List.setIfInBounds_toArray, List.set_cons_zero, List.set_cons_succ])))
            refine wpMix_walk ?_
            go_wp2_with (go_at_call 15; (with_reducible refine useC HE20.out ?_); rintro e w21 ⟨rfl, hf⟩; have HF21 : Hid (Fr [] w20 w21) := ((Fr.refl [] w20).drew).trans hf; clear hf)
            refine MixQ.mk (HF21.out) ?_
            (iterate 4 (first | (refine wpMix_take (v := ?_) (by rfl) ?_ ?_; rotate_left; (focus (intro W hW; have y0 := (HSX.out W hW).box.cell; go_simp; (try with_reducible rfl); done)); try simp only [Act.put, List.setIfInBounds_toArray, List.set_cons_zero, List.set_cons_succ]) | (refine wpMix_leave (by rfl) ?_; try simp only [Act.put, List.setIfInBounds_toArray, List.set_cons_zero, List.set_cons_succ])))
            refine wpMix_walk ?_
            go_wp2_with (go_at_call 11; (with_reducible refine useC (HLP.out w21 HF21.out) ?_); rintro e w22 ⟨v22, rfl, hown, hf⟩; obtain ⟨g22, -, hsl⟩ := hown.sl; obtain ⟨A22, o22, c22, rfl, -, -, -⟩ := hsl.form; have HF22 : Hid (Fr [] w20 w22) := HF21.out.trans hf; have HC22 := Lib.hid hsl; clear hown hsl hf)
            refine MixQ.mk (HF22.out) ?_
            refine wpMix_nil ?_
            have hs22 := HSX.out w22 HF22.out
            obtain ⟨gx, -, hsx⟩ := hs22.row
            have HIX := Lib.hid (HLX.out w22 HF22.out gx hsx)
            clear hs22 hsx
            go_wp2_with (first
              | (go_at_call 26; (with_reducible refine useC HIX.out ?_); rintro e w23 ⟨v23, g23, rfl, hsl, hf⟩; obtain ⟨A23, o23, c23, rfl, -, -, -⟩ := hsl.form; have HF23 : Hid (Fr [] w20 w23) := HF22.out.trans hf; have HC23 := Lib.hid hsl; have HC24 := Lib.hid (HC22.out.fr hf (by simp)); clear hsl hf)
              | (go_at_call 27; (with_reducible refine useC (locks_same w23 _ _ g22 g23 _ HC24.out HC23.out hl24) ?_); rintro e w24 ⟨rfl, hf⟩; have HS24 := Lib.hid (HS20.out.step (HF23.out.trans hf)); clear hf))
            go_roundw
            case rel => exact ⟨k + 1, by omega, by omega, by go_num, _, _, _, HS24⟩
            case measure => (simp [intOf]; try omega)
          · rw [hl] at hcell
            clear hl
            have hop : Ra.free T x0 x1 x2 = (T, 1) := if_neg hok
            have htt : Ra.test T x0 x1 x2 false = (0, 1) := if_neg hok
            have hTT : ∀ W, RaD W b T → Calls Tryd.prog 21 #[.pointer (some ⟨b, 0, none⟩), .agg #[.int .i64 x0, .int .i64 x1, .int .i64 x2, .bool false]] W (fun e w' => e = .returned (.tuple #[.int .i64 0, .iface 66 (.int .i64 1)]) ∧ Fr [] W w') := fun W hW => by
              have := ra_Test W b T x0 x1 x2 false hW HL256.out
              rw [htt, show testAns (0, 1) = .tuple #[.int .i64 0, .iface 66 (.int .i64 1)] from rfl] at this
              exact this
            have HTT := Lib.hid hTT
            clear hTT
            have herr1 : ∀ W, Fr [] w W → Calls Tryd.prog 15 #[.iface 66 (.int .i64 1), .int .i64 1] W (OkT W) := fun W hW => rerr_ok W 1 (HE.out W hW)
            have HE1 := Lib.hid herr1
            clear herr1
            clear hok htt
            obtain ⟨T5, hT5⟩ : ∃ z, z = T := ⟨_, rfl⟩
            have hop : Ra.free T x0 x1 x2 = (T5, 1) := by rw [hop, hT5]
            have HT5 := Lib.hid hT5
            clear hT5
            have hfn : ∀ W, RaD W b T → Calls Tryd.prog 19 #[.pointer (some ⟨b, 0, none⟩), .agg #[.int .i64 x0, .int .i64 x1, .int .i64 x2, .bool false]] W (RaAns b (.iface 66 (.int .i64 1)) T5 W) := fun W hW => by
              have := ra_Free W b T x0 x1 x2 false hW HTB.out
              rw [hop] at this
              exact this
            have HFN := Lib.hid hfn
            clear hfn hop
            have HO5 : Hid (Ra.OK T5) := by show Ra.OK T5; rw [HT5.out]; exact HOK.out
            have HEC := HE1
            have HL30 := Lib.hid (HLK.out 5 false (by decide) (by decide) (by decide))
            clear HLK
            go_wp2_with (first
              | (go_at_call 23; (with_reducible refine useC HL30.out ?_); rintro e w2 ⟨rfl, hf⟩; obtain ⟨w3, hw3⟩ : ∃ z, z = w2.alloc (.cells #[.int .i64 x0, .int .i64 x1, .int .i64 x2, .bool false] 29) := ⟨_, rfl⟩; have hl3 := RpL.start (hS.out.step hf) x0 x1 x2 false; rw [← hw3] at hl3; have HL3 := Lib.hid hl3; have HW3 := Lib.hid hw3; clear hw3 hl3 hf)
              | (rw [← HW3.out]; clear HW3; generalize w2.heap.size = LB at *; obtain ⟨⟨c0, c1, c2, c3⟩, b0⟩ := HL3.out.cells)
              | (go_at_call 18; (with_reducible refine useC (HRT.out w3 false) ?_); rintro e w4 ⟨rfl, hf⟩; have HL4 := Lib.hid (HL3.out.step hf); clear hf; clear c0 c1 c2 c3 b0; obtain ⟨⟨c0, c1, c2, c3⟩, b0⟩ := HL4.out.cells)
              | (go_at_call 21; (with_reducible refine useC (HTT.out w4 HL4.out.s.tab.disk) ?_); rintro e w6 ⟨rfl, hf⟩; have HL6 := Lib.hid (HL4.out.step hf); clear hf; clear c0 c1 c2 c3 b0; obtain ⟨⟨c0, c1, c2, c3⟩, b0⟩ := HL6.out.cells)
              | (go_at_call 15; (with_reducible refine useC (HE1.out w6 HL6.out.s.tab.fr) ?_); rintro e w7 ⟨rfl, hf⟩; have HL7 := Lib.hid (HL6.out.step hf); clear hf; clear c0 c1 c2 c3 b0; obtain ⟨⟨c0, c1, c2, c3⟩, b0⟩ := HL7.out.cells)
              | (go_at_call 19; (with_reducible refine useC (HFN.out w7 HL7.out.s.tab.disk) ?_); rintro e w20 ha; obtain ⟨rfl, hs⟩ := HL7.out.s.turn ha HO5.out; obtain ⟨A5, c5, HS20⟩ : ∃ A5 c5, Hid (RpS w w20 b X (.slice A5 256 c5) T5 T5) := ⟨_, _, by rw [HT5.out] at hs ⊢; exact hs⟩; clear ha hs; clear c0 c1 c2 c3 b0; go_wp2_with fail))
            clear HL3 HL4 HL6 HL7
            have HSX := Lib.hid (fun W (hW : Fr [] w20 W) => HS20.out.step hW)
            have HLP := Lib.hid (fun W (hW : Fr [] w20 W) => ra_List W b T5 (HS20.out.step hW).tab.disk HS20.out.ok.tab)
            have HLX := Lib.hid (fun W (hW : Fr [] w20 W) g (hs : Sl W (.slice A5 256 c5) g T5) => ref_List W _ g T5 hs HS20.out.ok.tab)
            have hl24 : (Ra.locks T5).length ≤ 1000000 := by have := Ra.listTo_len T5 4; show (Ra.listTo T5 4).length ≤ _; omega
            have HE20 := Lib.hid (HEC.out w20.drew HS20.out.tab.fr.drew)
            go_wp2_with fail
            (refine wp_region_mix (Fr [] w20 ·) 8 [(true, 0), (true, 1), (false, 2), (true, 3), (true, 4), (true, 5), (true, 7), (false, 6)] (by kernel_rfl) (by kernel_rfl) ((Fr.refl _ _).drew) ?_; simp only [pickOps, List.map_cons, List.map_nil, List.getD_cons_zero, List.getD_cons_succ, List.drop_succ_cons, List.drop_zero])
            (iterate 2 (first | (refine wpMix_take (v := ?_) (by rfl) ?_ ?_; rotate_left; (focus (intro W hW; skip; go_simp; (try with_reducible rfl); done)); try simp only [Act.put, List.setIfInBounds_toArray, List.set_cons_zero, List.set_cons_succ]) | (refine wpMix_leave (by rfl) ?_; try simp only [Act.put, List.setIfInBounds_toArray, List.set_cons_zero, List.set_cons_succ])))
            refine wpMix_walk ?_
            go_wp2_with (go_at_call 15; (with_reducible refine useC HE20.out ?_); rintro e w21 ⟨rfl, hf⟩; have HF21 : Hid (Fr [] w20 w21) := ((Fr.refl [] w20).drew).trans hf; clear hf)
            refine MixQ.mk (HF21.out) ?_
            (iterate 4 (first | (refine wpMix_take (v := ?_) (by rfl) ?_ ?_; rotate_left; (focus (intro W hW; have y0 := (HSX.out W hW).box.cell; go_simp; (try with_reducible rfl); done)); try simp only [Act.put, List.setIfInBounds_toArray, List.set_cons_zero, List.set_cons_succ]) | (refine wpMix_leave (by rfl) ?_; try simp only [Act.put, List.setIfInBounds_toArray, List.set_cons_zero, List.set_cons_succ])))
            refine wpMix_walk ?_
            go_wp2_with (go_at_call 11; (with_reducible refine useC (HLP.out w21 HF21.out) ?_); rintro e w22 ⟨v22, rfl, hown, hf⟩; obtain ⟨g22, -, hsl⟩ := hown.sl; obtain ⟨A22, o22, c22, rfl, -, -, -⟩ := hsl.form; have HF22 : Hid (Fr [] w20 w22) := HF21.out.trans hf; have HC22 := Lib.hid hsl; clear hown hsl hf)
            refine MixQ.mk (HF22.out) ?_
            refine wpMix_nil ?_
            have hs22 := HSX.out w22 HF22.out
            obtain ⟨gx, -, hsx⟩ := hs22.row
            have HIX := Lib.hid (HLX.out w22 HF22.out gx hsx)
            clear hs22 hsx
            go_wp2_with (first
              | (go_at_call 26; (with_reducible refine useC HIX.out ?_); rintro e w23 ⟨v23, g23, rfl, hsl, hf⟩; obtain ⟨A23, o23, c23, rfl, -, -, -⟩ := hsl.form; have HF23 : Hid (Fr [] w20 w23) := HF22.out.trans hf; have HC23 := Lib.hid hsl; have HC24 := Lib.hid (HC22.out.fr hf (by simp)); clear hsl hf)
              | (go_at_call 27; (with_reducible refine useC (locks_same w23 _ _ g22 g23 _ HC24.out HC23.out hl24) ?_); rintro e w24 ⟨rfl, hf⟩; have HS24 := Lib.hid (HS20.out.step (HF23.out.trans hf)); clear hf))
            go_roundw
            case rel => exact ⟨k + 1, by omega, by omega, by go_num, _, _, _, HS24⟩
            case measure => (simp [intOf]; try omega)
      · have b3 : ((nthR ls k).length : Int) < 3 ∨ (¬ ((nthR ls k).length : Int) < 3 ∧ (5 : Int) < (nthR ls k).length) := by omega
        have b0 := hS.out.box.cell
        clear hc' hA' h345
        rcases b3 with b3 | ⟨b3, b5⟩
        all_goals
          go_wp2
          go_roundw
          case rel => exact ⟨k + 1, by omega, by omega, by go_num, _, _, _, hS⟩
          case measure => (simp [intOf]; try omega)
    · have hout : ¬ (k : Int) < ls.length ∨ ((k : Int) < ls.length ∧ ¬ (k : Int) < 40) := by omega
      rcases hout with hout | ⟨hout, hout'⟩
      all_goals
        go_wp2
        go_ret
        exact ⟨rfl, hS.out.tab.fr⟩
end Go.Proofs.YtgljklefcfheaaaDoor
