/- FsckSays: for all arguments the functions of package fsck return what the document specifies. -/
import Derived.Test.YtbohlbnbaomkiaaDoorFkRef
import Derived.Test.YtbohlbnbaomkiaaDoorOwn2
import Derived.Test.YtbohlbnbaomkiaaDoorErr2
namespace Go.Proofs.YtbohlbnbaomkiaaDoor
open Go.RowKit

/-- What the loops of the law know: the image in block wb, the rows of the law's own. -/
structure SaySt (w0 wr : World) (wb : Nat) (bc be : Value) (rs : List Row) : Prop where
  box : Im2 wr wb bc be
  rows : Rows_ wr (wb + 1) rs
  fr : Fr [] w0 wr
  ge : w0.heap.size ≤ wb
section
variable {w0 wr w' : World} {wb : Nat} {bc be : Value} {rs rs' : List Row}
theorem SaySt.step (h : SaySt w0 wr wb bc be rs) (hf : Fr [] wr w') : SaySt w0 w' wb bc be rs := ⟨hf.get h.box (by simp), h.rows.fr hf (by simp), h.fr.trans hf, h.ge⟩
theorem SaySt.lt (h : SaySt w0 wr wb bc be rs) : wb < wr.heap.size := lt_of_heap h.box
theorem SaySt.grow (h : SaySt w0 wr wb bc be rs) {r : Row} (hr : r.in wr (wb + 1)) (hg : wr.grownBy w' r.v.ownBlock) (h' : Rows_ w' (wb + 1) rs') : SaySt w0 w' wb bc be rs' :=
  ⟨(hg.block wb h.lt (fun e => by have := (Row.ge hr wb e.symm).1; omega)).trans h.box, h', h.fr.push hr hg (by have := h.ge; omega), h.ge⟩
theorem SaySt.put0 (h : SaySt w0 wr wb bc be rs) (v : Value) : SaySt w0 (wr.setCell ⟨wb, 0, none⟩ v) wb v be rs :=
  have hf : Fr [wb] wr (wr.setCell ⟨wb, 0, none⟩ v) := (Fr.refl _ wr).setCell (.inl (by simp)) _
  ⟨set_block h.box v, h.rows.fr hf (by simp), h.fr.step hf (fun x hx => .inr (by simp only [List.mem_singleton] at hx; subst hx; exact h.ge)), h.ge⟩
theorem SaySt.put1 (h : SaySt w0 wr wb bc be rs) (v : Value) : SaySt w0 (wr.setCell ⟨wb, 1, none⟩ v) wb bc v rs :=
  have hf : Fr [wb] wr (wr.setCell ⟨wb, 1, none⟩ v) := (Fr.refl _ wr).setCell (.inl (by simp)) _
  ⟨set_block h.box v, h.rows.fr hf (by simp), h.fr.step hf (fun x hx => .inr (by simp only [List.mem_singleton] at hx; subst hx; exact h.ge)), h.ge⟩
end
theorem error_same (c : Int) (w : World) (hg : ErrType w) : Calls Tryd.prog 5 #[.iface 44 (.int .i64 c), .int .i64 c] w (OkT w) :=
  (error_at c c w hg).mono fun _ _ ⟨h1, h2⟩ => ⟨by rw [h1]; simp, h2⟩
theorem error_none (w : World) (hg : ErrType w) : Calls Tryd.prog 5 #[.nilIface, .int .i64 0] w (OkT w) := error_yes 0 w hg
theorem im2_at (w : World) (c e : Value) {w' : World} (hf : Fr [] (w.alloc (.cells #[c, e] 25)) w') : w'.cell? ⟨w.heap.size, 0, none⟩ = some c ∧ w'.cell? ⟨w.heap.size, 1, none⟩ = some e := Im2.cells (hf.get (im2_new w c e) (by simp))
theorem sl_nil (w : World) : Sl w (.slice none 0 0) 0 [] := .inl ⟨rfl, none, 0, rfl⟩
theorem imV_nil (w : World) : ImV w (.agg #[.slice none 0 0, .slice none 0 0]) [] [] := ⟨_, _, 0, 0, rfl, sl_nil w, .inl ⟨rfl, none, 0, rfl⟩⟩
set_option maxRecDepth 100000 in
set_option maxHeartbeats 4000000 in
theorem fk_says_bad (w : World) (v : Value) (C : List Int) (E : List (Int × Int)) (hv : ImV w v C E) (hE : ErrType w) (hok : Fk.check C E ≠ 0) :
    Calls Tryd.prog 3 #[v] w (OkT w) := by
  have HV := Lib.hid (fun W (hW : Fr [] w W) => hv.fr hW)
  have HET := Lib.hid (fun W (hW : Fr [] w W) => hE.fr hW (by simp))
  obtain ⟨A1, c1, A2, c2, rfl⟩ := hv.form
  have HF : Hid (Fr [] w (w.alloc (.cells #[.slice A1 C.length c1, .slice A2 E.length c2] 25))) := (Fr.refl _ _).alloc _
  have HOK := Lib.hid hok
  have HNE := Lib.hid (errV_no hok)
  have e0 : (Fk.check C E == 0) = false := by simpa using hok
  clear hv hok hE
  go_enter Tryd.func3, Tryd.ntmps3
  go_wp2_with (first
    | (go_at_call 4; (with_reducible refine useC (fk_RImage _ _ C E (HV.out _ HF.out)) ?_); rintro e w2 ⟨rfl, hf⟩; have HK2 := Lib.hid hf; have HF2 := Lib.hid (HF.out.trans hf); obtain ⟨b0, b1⟩ := im2_at _ _ _ hf; clear hf)
    | (go_at_call 6; (with_reducible refine useC (fk_Check _ _ C E (HV.out _ HF2.out)) ?_); rw [HNE.out]; rintro e w3 ⟨rfl, hf⟩; have HK3 := Lib.hid (HK2.out.trans hf); have HF3 := Lib.hid (HF2.out.trans hf); clear hf)
    | (go_at_call 5; (with_reducible refine useC (error_same _ w3 (HET.out _ HF3.out)) ?_); rintro e w4 ⟨rfl, hf⟩; have HF4 := Lib.hid (HF3.out.trans hf); have HK4 := Lib.hid ((HK3.out.trans hf).alloc (.cells #[.slice none 0 0, .slice none 0 0] 25)); obtain ⟨b2, b3⟩ := im2_at _ _ _ HK4.out; have HF4a : Hid (Fr [] w (w4.alloc (.cells #[.slice none 0 0, .slice none 0 0] 25))) := HF4.out.alloc _; clear hf)
    | (go_at_call 9; (with_reducible refine useC (fk_Faults_bad _ _ C E (HV.out _ HF4a.out) HOK.out) ?_); rintro e w5 ⟨rfl, hf⟩; have HF5 := Lib.hid (HF4a.out.trans hf); have HK5 := Lib.hid (HK4.out.trans hf); have HW5 := Lib.hid hf; clear hf)
    | (go_at_call 5; (with_reducible refine useC (error_same _ w5 (HET.out _ HF5.out)) ?_); rintro e w6 ⟨rfl, hf⟩; have HF6 := Lib.hid (HF5.out.trans hf); have HK6 := Lib.hid (HK5.out.trans hf); have HW6 := Lib.hid (HW5.out.trans hf); clear hf)
    | (go_at_call 10; (with_reducible refine useC (ints_same w6 _ _ 0 0 [] (sl_nil _) (sl_nil _)) ?_); rintro e w7 ⟨rfl, hdr⟩; have hf := hdr.fr []; have HF7 := Lib.hid (HF6.out.trans hf); have HK7 := Lib.hid (HK6.out.trans hf); have HW7 := Lib.hid (HW6.out.trans hf); clear hf hdr)
    | (go_at_call 10; (with_reducible refine useC (ints_same w7 _ _ 0 0 [] (sl_nil _) (sl_nil _)) ?_); rintro e w8 ⟨rfl, hdr⟩; have hf := hdr.fr []; have HF8 := Lib.hid (HF7.out.trans hf); have HK8 := Lib.hid (HK7.out.trans hf); have HW8 := Lib.hid (HW7.out.trans hf); obtain ⟨b4, b5⟩ := im2_at _ _ _ HK8.out; clear hf hdr)
    | (go_at_call 11; (with_reducible refine useC (fk_Mend_bad _ _ C E (HV.out _ HF8.out) HOK.out) ?_); rintro e w9 ⟨rfl, hf⟩; have HF9 := Lib.hid ((HF8.out.trans hf).alloc (.cells #[.slice none 0 0, .slice none 0 0] 25)); have HW9 := Lib.hid ((HW8.out.trans hf).alloc (.cells #[.slice none 0 0, .slice none 0 0] 25)); clear hf)
    | (go_at_call 5; (with_reducible refine useC (error_same _ (w9.alloc (.cells #[.slice none 0 0, .slice none 0 0] 25)) (HET.out _ HF9.out)) ?_); rintro e w10 ⟨rfl, hf⟩; have HF10 := Lib.hid (HF9.out.trans hf); obtain ⟨b6, b7⟩ := im2_at _ _ _ (HW9.out.trans hf); obtain ⟨b8, b9⟩ := im2_at _ _ _ hf; clear hf)
    | (go_at_call 12; (with_reducible refine useC (fk_images _ _ _ [] [] (imV_nil _) (imV_nil _) (by decide)) ?_); rintro e w11 ⟨rfl, hf⟩; have HF11 := Lib.hid (HF10.out.trans hf); clear hf))
  go_ret
  exact ⟨rfl, HF11.out⟩
theorem Own.slice {w : World} {B e : Nat} {v : Value} {xs : List Int} (h : Own w B e v xs) : ∃ A n c, v = .slice A n c := by
  obtain ⟨_, _, hs⟩ := h.sl
  obtain ⟨A, _, c, rfl, _⟩ := hs.form
  exact ⟨_, _, _, rfl⟩
theorem Fk.take_nms (C : List Int) (E : List (Int × Int)) (j : Nat) (hj : j < C.length) : (Fk.nms C E E.length).take (j + 1) = (Fk.nms C E E.length).take j ++ [Fk.nm C E E.length j] := by
  rw [List.take_succ_eq_append_getElem (by rw [Fk.nms_len]; exact hj)]
  congr 2
  have := Fk.nms_nth C E E.length j hj
  rw [← this]
  simp [nth, List.getD, show j < (Fk.nms C E E.length).length by rw [Fk.nms_len]; exact hj]
set_option maxRecDepth 100000 in
set_option maxHeartbeats 8000000 in
theorem fk_says_ok (w : World) (v : Value) (C : List Int) (E : List (Int × Int)) (hv : ImV w v C E) (hE : ErrType w) (hok : Fk.check C E = 0) :
    Calls Tryd.prog 3 #[v] w (OkT w) := by
  have HV := Lib.hid (fun W (hW : Fr [] w W) => hv.fr hW)
  have HET := Lib.hid (fun W (hW : Fr [] w W) => hE.fr hW (by simp))
  obtain ⟨vc, ve, g1, g2, rfl, hC, hE2⟩ := hv
  obtain ⟨A1, o1, c1, rfl, m1, hA1, hc1⟩ := hC.form
  obtain ⟨A2, o2, c2, rfl, m2, hA2, hc2⟩ := hE2.formE
  have HF : Hid (Fr [] w (w.alloc (.cells #[.slice A1 C.length c1, .slice A2 E.length c2] 25))) := (Fr.refl _ _).alloc _
  have HOK := Lib.hid hok
  have HNE : Hid (errV (Fk.check C E) = .nilIface) := by show _ = _; rw [hok]; rfl
  obtain ⟨h8, h12, hoc, hoe⟩ := Fk.check_ok hok
  have HOE := Lib.hid hoe
  have HA1 := Lib.hid hA1
  have HA2 := Lib.hid hA2
  have HC := Lib.hid (fun W (hW : Fr [] w W) k (hk : k < C.length) => hW.cell (hc1 k hk) (by simp))
  have HE := Lib.hid (fun W (hW : Fr [] w W) k (hk : k < E.length) => And.intro (hW.cell (hc2 k hk).1 (by simp)) (hW.cell (hc2 k hk).2 (by simp)))
  clear hC hE2 hok hoc hoe hA1 hA2 hc1 hc2 hE
  go_enter Tryd.func3, Tryd.ntmps3
  go_wp2_with (first
    | (go_at_call 4; (with_reducible refine useC (fk_RImage _ _ C E (HV.out _ HF.out)) ?_); rw [HOK.out]; rintro e w2 ⟨rfl, hf⟩; have HK2 := Lib.hid hf; have HF2 := Lib.hid (HF.out.trans hf); obtain ⟨b0, b1⟩ := im2_at _ _ _ hf; clear hf)
    | (go_at_call 6; (with_reducible refine useC (fk_Check _ _ C E (HV.out _ HF2.out)) ?_); rw [HNE.out]; rintro e w3 ⟨rfl, hf⟩; have HK3 := Lib.hid (HK2.out.trans hf); have HF3 := Lib.hid (HF2.out.trans hf); clear hf)
    | (go_at_call 5; (with_reducible refine useC (error_none w3 (HET.out _ HF3.out)) ?_); rintro e w4 ⟨rfl, hf⟩; have HF4 := Lib.hid (HF3.out.trans hf); have HKM := Lib.hid (HK3.out.trans hf); have HK4 := Lib.hid ((HK3.out.trans hf).alloc (.cells #[.slice none 0 0, .slice none 0 0] 25)); obtain ⟨b2, b3⟩ := im2_at _ _ _ HK4.out; clear hf))
  have HS : Hid (SaySt w4 (w4.alloc (.cells #[.slice none 0 0, .slice none 0 0] 25)) w4.heap.size (.slice none 0 0) (.slice none 0 0) [rI 3 (.slice none 0 0) [], rE enE 33 (.slice none 0 0) [], rI 3 (.slice none 0 0) [], rI 3 (.slice none 0 0) []]) := by
    refine ⟨im2_new w4 _ _, ⟨fun r hr => ?_, ?_⟩, (Fr.refl _ _).alloc _, Nat.le_refl _⟩
    · simp only [List.mem_cons, List.not_mem_nil, or_false] at hr
      rcases hr with rfl | rfl | rfl | rfl
      · exact World.ownsRow_nil _ _ _ _
      · exact World.ownsRow_nil _ _ _ _
      · exact World.ownsRow_nil _ _ _ _
      · exact World.ownsRow_nil _ _ _ _
    · simp [Apart, rI, rE, Value.ownBlock]
  clear b0 b1 b2 b3
  have HM : Hid (∀ W, Fr [] w4 W → W.cell? ⟨w.heap.size, 0, none⟩ = some (.slice A1 C.length c1) ∧ W.cell? ⟨w.heap.size, 1, none⟩ = some (.slice A2 E.length c2)) := fun W hW => im2_at _ _ _ (HKM.out.trans hW)
  have hBw : w.heap.size < w4.heap.size := lt_of_heap (HKM.out.get (im2_new w _ _) (by simp))
  clear HK4 HKM HK3 HK2 HF2 HF3 HF
  revert HS
  generalize (w4.alloc (.cells #[.slice none 0 0, .slice none 0 0] 25)) = w5
  generalize hwb : w4.heap.size = wb
  have HWB := Lib.hid hwb
  generalize w.heap.size = B at *
  intro HS
  have HWL := Lib.hid (fun n => Fk.wr_len C E n)
  have HKL := Lib.hid (fun n => Fk.kp_len C E n)
  have hBB : B < wb := by omega
  clear hwb hBw
  go_loopw [5, 8] (fun v i wr => ∃ k : Nat, k ≤ E.length ∧ i = .int .i64 k ∧ ∃ vW, Hid (SaySt w4 wr wb (.slice none 0 0) vW [rI 3 v (Fk.wr C E k), rE enE 33 vW (Fk.kp C E k), rI 3 (.slice none 0 0) [], rI 3 (.slice none 0 0) []])) (fun _ i _ => E.length - (intOf i).toNat)
  case atStart => exact ⟨0, Nat.zero_le _, rfl, _, HS⟩
  case round =>
    obtain ⟨k, hk, rfl, vW, hS⟩ := hrel
    obtain ⟨m0, m1⟩ := HM.out wr hS.out.fr
    have hFw := Lib.hid (HF4.out.trans hS.out.fr)
    have hszr := hS.out.lt
    by_cases hlt : k < E.length
    · obtain rfl := HA2.out (by omega)
      have i1 : (k : Int) < E.length := by omega
      have i2 : (0 : Int) ≤ (k : Int) := by omega
      have HWR := Lib.hid (fk_Wrong wr _ C E k (HV.out wr hFw.out) hlt HOE.out)
      have HWS := Lib.hid (Fk.wr_step C E k)
      have HKS := Lib.hid (Fk.kp_step C E k)
      cases hw : Fk.wrong C E k with
      | true =>
        have HW := Lib.hid hw
        clear hw
        go_wp2_with (first
          | (go_at_call 7; (with_reducible refine useC HWR.out ?_); rw [HW.out]; rintro e w6 ⟨rfl, hf⟩; have H6 := Lib.hid (hS.out.step hf); have hsz6 := (hS.out.step hf).lt; clear hf)
          | (at_builtin; refine wpList_push_int2 Tryd.intT rfl _ _ rfl (wb + 1) _ (Fk.wr C E k) rfl H6.out.rows.p0 rfl (by have := HWL.out k; omega) (by omega) ?_; intro v' w7 h1 hg hm; have H7 : Hid (SaySt w4 w7 wb (.slice none 0 0) vW [rI 3 v' (Fk.wr C E k ++ [(k : Int)]), rE enE 33 vW (Fk.kp C E k), rI 3 (.slice none 0 0) [], rI 3 (.slice none 0 0) []]) := H6.out.grow H6.out.rows.p0 hg (H6.out.rows.push0 (r' := rI 3 v' (Fk.wr C E k ++ [(k : Int)])) (by exact h1) hg hm (by omega)); clear h1 hg hm))
        go_roundw
        case rel => exact ⟨k + 1, by omega, by go_num, vW, by show SaySt _ _ _ _ _ _; rw [HWS.out, if_pos HW.out, HKS.out, if_pos HW.out]; exact H7.out⟩
        case measure => simp [intOf]; omega
      | false =>
        have HW := Lib.hid hw
        clear hw
        go_wp2_with (first
          | (go_at_call 7; (with_reducible refine useC HWR.out ?_); rw [HW.out]; rintro e w6 ⟨rfl, hf⟩; have H6 := Lib.hid (hS.out.step hf); have hsz6 := (hS.out.step hf).lt; have hF6 := Lib.hid (hFw.out.trans hf); clear hf))
        (refine wp_region_mix (Fr [] w6 ·) 8 [(true, 0), (true, 1), (true, 2), (true, 3), (true, 4), (true, 5), (true, 6), (false, 7)] (by kernel_rfl) (by kernel_rfl) ((Fr.refl _ _).drew) ?_; simp only [pickOps, List.map_cons, List.map_nil, List.getD_cons_zero, List.getD_cons_succ, List.drop_succ_cons, List.drop_zero])
        (iterate 7 (first | (refine wpMix_take (v := ?_) (by rfl) ?_ ?_; rotate_left; (focus (intro W hW; (obtain ⟨q0, q1⟩ := HE.out W (hF6.out.trans hW) k hlt; obtain ⟨d0, d1⟩ := HM.out W (H6.out.fr.trans hW); obtain ⟨d2, d3⟩ := Im2.cells (hW.get H6.out.box (by simp))); go_simp; (try with_reducible rfl); done)); try simp only [Act.put, List.setIfInBounds_toArray, List.set_cons_zero, List.set_cons_succ]) | (refine wpMix_leave (by rfl) ?_; try simp only [Act.put, List.setIfInBounds_toArray, List.set_cons_zero, List.set_cons_succ])))
        refine wpMix_walk ?_
        go_wp2
        refine MixQ.mk (((Fr.refl _ _).drew).alloc _) ?_
        refine wpMix_nil ?_
        have HPR := Lib.hid (show E.getD k (0, 0) = (entN E k, entI E k) from rfl)
        have H6d := Lib.hid (H6.out.step (Fr.refl [] w6).drew)
        go_wp2_with (first
          | (at_builtin; refine wpList_push_enc2 (E := enE) (wr := w6.drew) (y := (entN E k, entI E k)) Tryd.underlying23 Tryd.info_ent rfl (by decide) rfl _ _ rfl (wb + 1) _ (Fk.kp C E k) rfl rfl H6d.out.rows.p1 rfl (by have := HKL.out k; omega) hsz6 ?_; intro v' w7 h1 hg hm; obtain ⟨A', n', c', rfl⟩ := h1.slice; have H7 : Hid (SaySt w4 w7 wb (.slice none 0 0) vW [rI 3 u5 (Fk.wr C E k), rE enE 33 (.slice A' n' c') (Fk.kp C E k ++ [(entN E k, entI E k)]), rI 3 (.slice none 0 0) [], rI 3 (.slice none 0 0) []]) := H6d.out.grow H6d.out.rows.p1 hg (H6d.out.rows.push1 (r' := rE enE 33 (.slice A' n' c') (Fk.kp C E k ++ [(entN E k, entI E k)])) (by exact h1) hg hm (by show w6.heap.size ≤ w6.heap.size + 1; omega)); obtain ⟨d2, d3⟩ := H7.out.box.cells; have hfz := free_block H7.out.box 1 none; clear h1 hg hm)
          | fail)
        go_roundw
        case rel => exact ⟨k + 1, by omega, by go_num, _, by show SaySt _ _ _ _ _ _; rw [HWS.out, if_neg (by rw [HW.out]; decide), HKS.out, if_neg (by rw [HW.out]; decide), HPR.out]; exact H7.out.put1 _⟩
        case measure => simp [intOf]; omega
    · have hk' : k = E.length := by omega
      rw [hk'] at hS
      clear hk' HS
      obtain ⟨wA, hA⟩ : ∃ x, x = wr := ⟨_, rfl⟩
      subst hA
      have HS : Hid (SaySt w4 wA wb (.slice none 0 0) vW [rI 3 u5 (Fk.wr C E E.length), rE enE 33 vW (Fk.kp C E E.length), rI 3 (.slice none 0 0) ((Fk.nms C E E.length).take 0), rI 3 (.slice none 0 0) (Fk.od C (Fk.nms C E E.length) 0)]) := hS.out
      clear hS
      have HOL := Lib.hid (fun n => Fk.od_len C (Fk.nms C E E.length) n)
      have HNL := Lib.hid (Fk.nms_len C E E.length)
      go_wp2
      go_loopw [6, 9] (fun v i wr => ∃ j : Nat, j ≤ C.length ∧ i = .int .i64 j ∧ ∃ vC, Hid (SaySt w4 wr wb vC vW [rI 3 u5 (Fk.wr C E E.length), rE enE 33 vW (Fk.kp C E E.length), rI 3 vC ((Fk.nms C E E.length).take j), rI 3 v (Fk.od C (Fk.nms C E E.length) j)])) (fun _ i _ => C.length - (intOf i).toNat)
      case atStart => exact ⟨0, Nat.zero_le _, rfl, _, HS⟩
      case round =>
        obtain ⟨j, hj, rfl, vC, hS⟩ := hrel
        obtain ⟨m0, m1⟩ := HM.out wr hS.out.fr
        have hFw := Lib.hid (HF4.out.trans hS.out.fr)
        have hszr := hS.out.lt
        by_cases hlt : j < C.length
        · obtain rfl := HA1.out (by omega)
          have i1 : (j : Int) < C.length := by omega
          have i2 : (0 : Int) ≤ (j : Int) := by omega
          have HWR := Lib.hid (fk_Named wr _ C E j (HV.out wr hFw.out) HOE.out h12)
          have HTS := Lib.hid (Fk.take_nms C E j hlt)
          have HOS := Lib.hid (Fk.od_step C (Fk.nms C E E.length) j)
          have HNN := Lib.hid (Fk.nms_nth C E E.length j hlt)
          have HTL := Lib.hid (show ((Fk.nms C E E.length).take j).length < 1000000 by rw [List.length_take, HNL.out]; omega)
          generalize Fk.nm C E E.length j = y at *
          have hc := fun W hW => HC.out W hW j hlt
          by_cases hy : y = nth C j
          · have HOE2 := Lib.hid (show Fk.od C (Fk.nms C E E.length) (j + 1) = Fk.od C (Fk.nms C E E.length) j from by rw [HOS.out, HNN.out, hy]; simp)
            have eB : (y != nth C j) = false := by simp [hy]
            clear hy
            generalize nth C j = x at *
            have HCC := Lib.hid hc
            clear hc
            go_wp2_with (first
              | (go_at_call 8; (with_reducible refine useC HWR.out ?_); rintro e w6 ⟨rfl, hf⟩; have H6 := Lib.hid (hS.out.step hf); have hsz6 := (hS.out.step hf).lt; obtain ⟨d0, d1⟩ := (hS.out.step hf).box.cells; clear hf)
              | (at_builtin; refine wpList_push_int2 Tryd.intT rfl _ _ rfl (wb + 1) _ ((Fk.nms C E E.length).take j) rfl H6.out.rows.p2 rfl HTL.out (by omega) ?_; intro v' w7 h1 hg hm; obtain ⟨A', n', c', rfl⟩ := h1.slice; have H7 : Hid (SaySt w4 w7 wb vC vW [rI 3 u5 (Fk.wr C E E.length), rE enE 33 vW (Fk.kp C E E.length), rI 3 (.slice A' n' c') ((Fk.nms C E E.length).take j ++ [y]), rI 3 u6 (Fk.od C (Fk.nms C E E.length) j)]) := H6.out.grow H6.out.rows.p2 hg (H6.out.rows.push2 (r' := rI 3 (.slice A' n' c') ((Fk.nms C E E.length).take j ++ [y])) (by exact h1) hg hm (by omega)); obtain ⟨d2, d3⟩ := H7.out.box.cells; have hfz := free_block H7.out.box 0 none; have H8 := Lib.hid (H7.out.put0 (.slice A' n' c')); obtain ⟨m0, m1⟩ := HM.out _ H8.out.fr; have hcc := HCC.out _ (HF4.out.trans H8.out.fr); clear h1 hg hm))
            go_roundw
            case rel => exact ⟨j + 1, by omega, by go_num, _, by show SaySt _ _ _ _ _ _; rw [HTS.out, HOE2.out]; exact H8.out⟩
            case measure => simp [intOf]; omega
          · have HOE2 := Lib.hid (show Fk.od C (Fk.nms C E E.length) (j + 1) = Fk.od C (Fk.nms C E E.length) j ++ [(j : Int)] from by rw [HOS.out, HNN.out]; simp [hy])
            have eB : (y != nth C j) = true := by simp [hy]
            clear hy
            generalize nth C j = x at *
            have HCC := Lib.hid hc
            clear hc
            go_wp2_with (first
              | (go_at_call 8; (with_reducible refine useC HWR.out ?_); rintro e w6 ⟨rfl, hf⟩; have H6 := Lib.hid (hS.out.step hf); have hsz6 := (hS.out.step hf).lt; obtain ⟨d0, d1⟩ := (hS.out.step hf).box.cells; clear hf)
              | (at_builtin; refine wpList_push_int2 Tryd.intT rfl _ _ rfl (wb + 1) _ ((Fk.nms C E E.length).take j) rfl H6.out.rows.p2 rfl HTL.out (by omega) ?_; intro v' w7 h1 hg hm; obtain ⟨A', n', c', rfl⟩ := h1.slice; have H7 : Hid (SaySt w4 w7 wb vC vW [rI 3 u5 (Fk.wr C E E.length), rE enE 33 vW (Fk.kp C E E.length), rI 3 (.slice A' n' c') ((Fk.nms C E E.length).take j ++ [y]), rI 3 u6 (Fk.od C (Fk.nms C E E.length) j)]) := H6.out.grow H6.out.rows.p2 hg (H6.out.rows.push2 (r' := rI 3 (.slice A' n' c') ((Fk.nms C E E.length).take j ++ [y])) (by exact h1) hg hm (by omega)); obtain ⟨d2, d3⟩ := H7.out.box.cells; have hfz := free_block H7.out.box 0 none; clear h1 hg hm)
              | (refine wpList_store_one rfl 22 _ _ rfl wb 0 (.slice A' n' c') _ rfl rfl (by kernel_rfl) rfl rfl d2 hfz ?_; intro w8 h8; have H8 : Hid (SaySt w4 w8 wb (.slice A' n' c') vW [rI 3 u5 (Fk.wr C E E.length), rE enE 33 vW (Fk.kp C E E.length), rI 3 (.slice A' n' c') ((Fk.nms C E E.length).take j ++ [y]), rI 3 u6 (Fk.od C (Fk.nms C E E.length) j)]) := (by rw [h8]; exact H7.out.put0 _); clear h8 d2 d3 hfz; obtain ⟨m0, m1⟩ := HM.out _ H8.out.fr; have hcc := HCC.out _ (HF4.out.trans H8.out.fr); have hsz8 := H8.out.lt)
              | (at_builtin; refine wpList_push_int2 Tryd.intT rfl _ _ rfl (wb + 1) _ (Fk.od C (Fk.nms C E E.length) j) rfl H8.out.rows.p3 rfl (by have := HOL.out j; omega) H8.out.lt ?_; intro v' w9 h1 hg hm; have H9 : Hid (SaySt w4 w9 wb (.slice A' n' c') vW [rI 3 u5 (Fk.wr C E E.length), rE enE 33 vW (Fk.kp C E E.length), rI 3 (.slice A' n' c') ((Fk.nms C E E.length).take j ++ [y]), rI 3 v' (Fk.od C (Fk.nms C E E.length) j ++ [(j : Int)])]) := H8.out.grow H8.out.rows.p3 hg (H8.out.rows.push3 (r' := rI 3 v' (Fk.od C (Fk.nms C E E.length) j ++ [(j : Int)])) (by exact h1) hg hm (Nat.le_succ _)); clear h1 hg hm))
            go_roundw
            case rel => exact ⟨j + 1, by omega, by go_num, _, by show SaySt _ _ _ _ _ _; rw [HTS.out, HOE2.out]; exact H9.out⟩
            case measure => simp [intOf]; omega
        · have hj' : j = C.length := by omega
          rw [hj'] at hS
          clear hj' HS
          have HSE : Hid (SaySt w4 wr wb vC vW [rI 3 u5 (Fk.faults1 C E), rE enE 33 vW (Fk.mendE C E), rI 3 vC (Fk.mendC C E), rI 3 u6 (Fk.faults2 C E)]) := by
            have e1 : (Fk.nms C E E.length).take C.length = Fk.mendC C E := by rw [← HNL.out, List.take_length]; rfl
            have h := hS.out
            rw [e1] at h
            exact h
          clear hS
          have HIM : Hid (∀ W, Fr [] wr W → ImV W (.agg #[vC, vW]) (Fk.mendC C E) (Fk.mendE C E)) := fun W hW => by
            obtain ⟨g1, _, hs1⟩ := Own.sl (e := 3) (v := vC) (xs := Fk.mendC C E) HSE.out.rows.p2
            obtain ⟨g2, _, hs2⟩ := OwnR.sl (E := enE) (e := 33) (v := vW) (l := Fk.mendE C E) HSE.out.rows.p1
            exact ⟨vC, vW, g1, g2, rfl, hs1.fr hW (by simp), hs2.fr hW (by simp)⟩
          obtain ⟨gE, _, hsE⟩ := Own.sl (e := 3) (v := u5) (xs := Fk.faults1 C E) HSE.out.rows.p0
          obtain ⟨gI, _, hsI⟩ := Own.sl (e := 3) (v := u6) (xs := Fk.faults2 C E) HSE.out.rows.p3
          have HSL := Lib.hid (fun W (hW : Fr [] wr W) => And.intro (hsE.fr hW (by simp)) (hsI.fr hW (by simp)))
          have HWA := Lib.hid (HF4.out.trans HSE.out.fr)
          have HBX := Lib.hid (fun W (hW : Fr [] wr W) => Im2.cells (hW.get HSE.out.box (by simp)))
          have hml : (Fk.mendE C E).length ≤ 1000 := by have := Fk.kp_len C E E.length; unfold Fk.mendE; omega
          clear hsE hsI
          go_wp2_with (first
            | (go_at_call 9; (with_reducible refine useC (fk_Faults_ok wr _ C E (HV.out _ HWA.out) HOK.out) ?_); rintro e w6 ⟨v1, v2, rfl, ho1, ho2, hf⟩; obtain ⟨k1, _, hs1⟩ := ho1.sl; obtain ⟨k2, _, hs2⟩ := ho2.sl; have HS1 := Lib.hid hs1; have HS2 := Lib.hid hs2; have HF6 := Lib.hid hf; clear hf ho1 ho2 hs1 hs2)
            | (go_at_call 5; (with_reducible refine useC (error_none w6 (HET.out _ (HWA.out.trans HF6.out))) ?_); rintro e w7 ⟨rfl, hf⟩; have HG7 := Lib.hid hf; have HF7 := Lib.hid (HF6.out.trans hf); clear hf)
            | (go_at_call 10; (with_reducible refine useC (ints_same w7 _ _ _ _ (Fk.faults1 C E) (HS1.out.fr HG7.out (by simp)) (HSL.out _ HF7.out).1) ?_); rintro e w8 ⟨rfl, hdr⟩; have hf := hdr.fr []; have HG8 := Lib.hid (HG7.out.trans hf); have HF8 := Lib.hid (HF7.out.trans hf); clear hf hdr)
            | (go_at_call 10; (with_reducible refine useC (ints_same w8 _ _ _ _ (Fk.faults2 C E) (HS2.out.fr HG8.out (by simp)) (HSL.out _ HF8.out).2) ?_); rintro e w9 ⟨rfl, hdr⟩; have hf := hdr.fr []; have HF9 := Lib.hid (HF8.out.trans hf); obtain ⟨m0, m1⟩ := HM.out _ (HSE.out.fr.trans HF9.out); clear hf hdr)
            | (go_at_call 11; (with_reducible refine useC (fk_Mend_ok w9 _ C E (HV.out _ (HWA.out.trans HF9.out)) HOK.out) ?_); rintro e w10 ⟨vx, rfl, hvx, hf⟩; obtain ⟨X1, x1, X2, x2, rfl⟩ := hvx.form; have HVX := Lib.hid hvx; have HF10 := Lib.hid ((HF9.out.trans hf).alloc (.cells #[.slice X1 (Fk.mendC C E).length x1, .slice X2 (Fk.mendE C E).length x2] 25)); clear hf hvx)
            | (go_at_call 5; (with_reducible refine useC (error_none (w10.alloc (.cells #[.slice X1 (Fk.mendC C E).length x1, .slice X2 (Fk.mendE C E).length x2] 25)) (HET.out _ (HWA.out.trans HF10.out))) ?_); rintro e w11 ⟨rfl, hf⟩; have HF11 := Lib.hid (HF10.out.trans hf); have HG11 := Lib.hid (((Fr.refl [] w10).alloc (.cells #[.slice X1 (Fk.mendC C E).length x1, .slice X2 (Fk.mendE C E).length x2] 25)).trans hf); obtain ⟨z0, z1⟩ := im2_at _ _ _ hf; obtain ⟨y0, y1⟩ := HBX.out _ (HF10.out.trans hf); clear hf)
            | (go_at_call 12; (with_reducible refine useC (fk_images w11 _ _ (Fk.mendC C E) (Fk.mendE C E) (HVX.out.fr HG11.out) (HIM.out _ HF11.out) hml) ?_); rintro e w12 ⟨rfl, hf⟩; have HF12 := Lib.hid (HWA.out.trans (HF11.out.trans hf)); clear hf))
          go_ret
          exact ⟨rfl, HF12.out⟩
theorem fk_says (w : World) (v : Value) (C : List Int) (E : List (Int × Int)) (hv : ImV w v C E) (hE : ErrType w) : Calls Tryd.prog 3 #[v] w (OkT w) := by
  by_cases h : Fk.check C E = 0
  · exact fk_says_ok w v C E hv hE h
  · exact fk_says_bad w v C E hv hE h
end Go.Proofs.YtbohlbnbaomkiaaDoor
