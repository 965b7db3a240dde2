/- FsckKeeps: what is right stays. -/
import Derived.Test.YtbohlbnbaomkiaaFkMends
import Derived.Test.YtbohlbnbaomkiaaCHas
namespace Go.Proofs.Ytbohlbnbaomkiaa
open Go.RowKit

namespace Fk
/-- What the last loop of the law asks of the k-th entry: is it the next one that stayed? -/
theorem next_right (C : List Int) (E : List (Int × Int)) (k : Nat) (hk : k < E.length) (h : wrong C E k = false) :
    (kp C E k).length < (mendE C E).length ∧ (mendE C E).getD (kp C E k).length (0, 0) = E.getD k (0, 0) ∧ (kp C E (k + 1)).length = (kp C E k).length + 1 := by
  have h1 := kp_step C E k
  rw [if_neg (by rw [h]; decide)] at h1
  have pre : ∀ n, k + 1 + n ≤ E.length → ∃ l, kp C E (k + 1 + n) = kp C E (k + 1) ++ l := by
    intro n
    induction n with
    | zero => intro _; exact ⟨[], by simp⟩
    | succ n ih =>
      intro hn
      obtain ⟨l, hl⟩ := ih (by omega)
      rw [← Nat.add_assoc, kp_step, hl]
      split
      · exact ⟨l, rfl⟩
      · exact ⟨l ++ [_], by rw [List.append_assoc]⟩
  obtain ⟨l, hl⟩ := pre (E.length - (k + 1)) (by omega)
  rw [show k + 1 + (E.length - (k + 1)) = E.length by omega] at hl
  unfold mendE
  rw [hl, h1]
  refine ⟨by simp, ?_, by simp⟩
  simp [List.getD]
theorem next_wrong (C : List Int) (E : List (Int × Int)) (k : Nat) (h : wrong C E k = true) : (kp C E (k + 1)).length = (kp C E k).length := by
  rw [kp_step, if_pos h]
end Fk
theorem fk_as {w : World} {v : Value} {C X : List Int} {E Y : List (Int × Int)} (hX : X = C) (hY : Y = E) (h : ImV w v X Y) : ImV w v C E := by rw [← hX, ← hY]; exact h
set_option maxRecDepth 100000 in
set_option maxHeartbeats 8000000 in
theorem fk_keeps (w : World) (v : Value) (C : List Int) (E : List (Int × Int)) (hv : ImV w v C E) :
    Calls Try.prog 4 #[v] w (OkT w) := by
  have HV := Lib.hid (fun W (hW : Fr [] w W) => hv.fr hW)
  obtain ⟨vc, ve, g1, g2, rfl, hC, hE⟩ := hv
  obtain ⟨A1, o1, c1, rfl, m1, hA1, hc1⟩ := hC.form
  obtain ⟨A2, o2, c2, rfl, m2, hA2, hc2⟩ := hE.formE
  clear hC hE
  have HF : Hid (Fr [] w (w.alloc (.cells #[.slice A1 C.length c1, .slice A2 E.length c2] 25))) := (Fr.refl _ _).alloc _
  by_cases hok : Fk.check C E = 0
  · have HOK := Lib.hid hok
    obtain ⟨h8, h12, hoc, hoe⟩ := Fk.check_ok hok
    obtain ⟨k1, k2⟩ := Fk.keeps_len C E
    have hl : E.length ≤ 1000 := by omega
    have K1 := Lib.hid k1
    have z3 : (((Fk.mendE C E).length : Int) + (Fk.faults1 C E).length != E.length) = false := by simp; omega
    have HZ := Lib.hid (fun i hi h => Fk.keeps_zero C E hoe i hi h)
    have HKL := Lib.hid (fun n => Fk.kp_len C E n)
    have HA1 := Lib.hid hA1
    have HA2 := Lib.hid hA2
    have hf2l := Fk.od_len C (Fk.nms C E E.length) C.length
    have hf2 : (Fk.faults2 C E).length ≤ 8 := by unfold Fk.faults2; omega
    clear k1 hok hoc hoe hA1 hA2 hf2l
    by_cases hall : Fk.faults1 C E = [] ∧ Fk.faults2 C E = []
    · obtain ⟨hA, hB⟩ := hall
      obtain ⟨hXC, hYE⟩ := Fk.keeps_all hA hB
      have HXC := Lib.hid hXC
      have HYE := Lib.hid hYE
      have z1 : (((Fk.faults1 C E).length : Int) + (Fk.faults2 C E).length == 0) = true := by rw [hA, hB]; rfl
      have z1' : ((Fk.faults1 C E).length : Int) + (Fk.faults2 C E).length = 0 := by rw [hA, hB]; rfl
      clear hA hB hXC hYE
      go_enter Try.func4, Try.ntmps4
      go_wp2_with (first
        | (go_at_call 7; (with_reducible refine useC (fk_fact _) ?_); rintro e w2 ⟨rfl, hf⟩; have HF2 := Lib.hid (HF.out.trans hf); have HB2 := Lib.hid (im2_keep _ _ _ hf); obtain ⟨b0, b1⟩ := HB2.out.cells; clear hf)
        | (go_at_call 9; (with_reducible refine useC (fk_Faults_ok _ _ C E (HV.out _ HF2.out) HOK.out) ?_); rintro e w3 ⟨v1, v2, rfl, ho1, ho2, hf3⟩; obtain ⟨s1, _, hs1⟩ := ho1.sl; obtain ⟨_, _, k1, rfl, _⟩ := hs1.form; obtain ⟨_, _, hs2⟩ := ho2.sl; obtain ⟨_, _, k2, rfl, _⟩ := hs2.form; have HF3 := Lib.hid (HF2.out.trans hf3); have HB3 := Lib.hid (HB2.out.fr hf3); have HS3 := Lib.hid hs1; obtain ⟨b2, b3⟩ := HB3.out.cells; clear ho1 ho2 hs1 hs2 hf3)
        | (go_at_call 8; (with_reducible refine useC (fk_Mend_ok _ _ C E (HV.out _ HF3.out) HOK.out) ?_); rintro e w4 ⟨v4, rfl, hv4, hf4⟩; have HV4 := Lib.hid hv4; obtain ⟨vx, vy, g3, g4, rfl, hX, hY⟩ := hv4; obtain ⟨A3, o3, c3, hvx, _, haX, hcX⟩ := hX.form; rw [K1.out] at hvx haX hcX; subst hvx; obtain ⟨A4, o4, c4, rfl, _, haY, hcY⟩ := hY.formE; have HF4 := Lib.hid (HF3.out.trans hf4); have HB4 := Lib.hid (HB3.out.fr hf4); have HS4 := Lib.hid (fun W (hW : Fr [] w4 W) => HS3.out.fr (hf4.trans hW) (by simp)); obtain ⟨b4, b5⟩ := HB4.out.cells; have hlt4 := lt_of_heap HB4.out; clear hX hY hf4 b0 b1 b2 b3; have HVA := Lib.hid (HV4.out.fr ((Fr.refl [] w4).alloc (.cells #[.slice A3 C.length c3, .slice A4 (Fk.mendE C E).length c4] 25))))
        | (go_at_call 10; (with_reducible refine useC (fk_images _ _ _ C E (fk_as HXC.out HYE.out HVA.out) (HV.out _ (HF4.out.alloc _)) hl) ?_); rintro e wA ⟨rfl, hf6⟩; have HFA := Lib.hid ((HF4.out.alloc _).trans hf6); have HXA := Lib.hid (im2_keep _ _ _ hf6); have HBA := Lib.hid (HB4.out.fr (((Fr.refl [] w4).alloc _).trans hf6)); have HF46 := Lib.hid (((Fr.refl [] w4).alloc _).trans hf6); obtain ⟨d0, d1⟩ := HXA.out.cells; obtain ⟨d2, d3⟩ := HBA.out.cells; clear hf6))
      clear b4 b5
      have HS1 := Lib.hid (fun W (hW : Fr [] wA W) => HS4.out W (HF46.out.trans hW))
      replace hcX := fun k hk => HF46.out.cell (hcX k hk) (by simp)
      replace hcY := fun k hk => And.intro (HF46.out.cell (hcY k hk).1 (by simp)) (HF46.out.cell (hcY k hk).2 (by simp))
      clear d0 d1 d2 d3
      have cX := Lib.hid (fun W (hW : Fr [] wA W) k (hk : k < C.length) => hW.cell (hcX k hk) (by simp))
      have cC := Lib.hid (fun W (hW : Fr [] wA W) k (hk : k < C.length) => (HFA.out.trans hW).cell (hc1 k hk) (by simp))
      have cY := Lib.hid (fun W (hW : Fr [] wA W) k (hk : k < (Fk.mendE C E).length) => And.intro (hW.cell (hcY k hk).1 (by simp)) (hW.cell (hcY k hk).2 (by simp)))
      have cE := Lib.hid (fun W (hW : Fr [] wA W) k (hk : k < E.length) => And.intro ((HFA.out.trans hW).cell (hc2 k hk).1 (by simp)) ((HFA.out.trans hW).cell (hc2 k hk).2 (by simp)))
      have aX := Lib.hid haX
      have aY := Lib.hid haY
      clear hcX hcY haX haY
      obtain ⟨b0, b1⟩ := HBA.out.cells
      obtain ⟨x0, x1⟩ := HXA.out.cells
      go_loop [9] (fun i => ∃ k : Nat, k ≤ C.length ∧ i = .int .i64 k) (fun i => C.length - (intOf i).toNat)
      case atStart => exact ⟨0, Nat.zero_le _, rfl⟩
      case round =>
        obtain ⟨k, hk, rfl⟩ := hrel
        by_cases hlt : k < C.length
        · obtain rfl := HA1.out (by omega)
          obtain rfl := aX.out (by omega)
          have q0 := cC.out wA (Fr.refl _ _) k hlt
          have q1 := cX.out wA (Fr.refl _ _) k hlt
          have i1 : (0 : Int) ≤ (k : Int) := by omega
          have i2 : (k : Int) < C.length := by omega
          by_cases hz : nth C k = 0
          · have hz2 := HZ.out k hlt hz
            rw [hz] at q0
            rw [hz2] at q1
            clear hz hz2
            go_wp2
            go_round
            case rel => exact ⟨k + 1, by omega, by go_num⟩
            case measure => simp [intOf]; omega
          · have e9 : (nth C k == 0) = false := by simpa using hz
            clear hz
            go_wp2
            go_round
            case rel => exact ⟨k + 1, by omega, by go_num⟩
            case measure => simp [intOf]; omega
        · have hk' : k = C.length := by omega
          subst hk'
          go_wp2
          clear b0 b1 x0 x1
          go_loopw [10, 11] (fun a i wr => ∃ k : Nat, k ≤ E.length ∧ i = .int .i64 k ∧ ∃ m : Nat, a = .int .i64 m ∧ Hid (m = (Fk.kp C E k).length) ∧ Hid (Fr [] wA wr)) (fun _ i _ => E.length - (intOf i).toNat)
          case atStart => exact ⟨0, Nat.zero_le _, rfl, 0, rfl, (by show _ = _; simp [Fk.kp]), Fr.refl _ _⟩
          case round =>
            obtain ⟨k, hk, rfl, m, rfl, hm, hF⟩ := hrel
            obtain ⟨b0, b1⟩ := Im2.cells (HBA.out.fr hF.out)
            obtain ⟨x0, x1⟩ := Im2.cells (HXA.out.fr hF.out)
            by_cases hltE : k < E.length
            · obtain rfl := HA2.out (by omega)
              obtain ⟨e0, e1⟩ := cE.out wr hF.out k hltE
              obtain ⟨f0, f1⟩ := cE.out wr.drew hF.out.drew k hltE
              have i1 : (0 : Int) ≤ (k : Int) := by omega
              have i2 : (k : Int) < E.length := by omega
              have i4 : (0 : Int) ≤ (m : Int) := by omega
              have hmk := Lib.hid (HKL.out k)
              have HHW := Lib.hid (Fk.has_wr C E E.length k hltE)
              cases hw : Fk.wrong C E k with
              | false =>
                obtain ⟨n1, n2, n3⟩ := Fk.next_right C E k hltE hw
                rw [← hm.out] at n1 n2 n3
                have i5 : (m : Int) < (Fk.mendE C E).length := by omega
                obtain rfl := aY.out (by omega)
                obtain ⟨y0, y1⟩ := cY.out wr hF.out m n1
                have en : entN (Fk.mendE C E) m = entN E k := by unfold entN; rw [n2]
                have ei : entI (Fk.mendE C E) m = entI E k := by unfold entI; rw [n2]
                rw [en] at y0
                rw [ei] at y1
                have N3 := Lib.hid n3
                have HHB := Lib.hid (show hasB (Fk.faults1 C E) k = false from HHW.out.trans hw)
                have hm12 : (m : Int) ≤ 12 := by have := hmk.out; have := hm.out; omega
                clear n2 n3 en ei hw HHW
                go_wp2
                (refine wp_region_mixq 21 [(true, 0), (true, 1), (true, 2), (true, 3), (true, 4), (true, 5), (true, 6), (true, 7), (true, 8), (true, 9), (true, 10), (true, 11), (true, 12), (true, 13), (true, 14), (true, 15), (true, 16), (true, 17), (true, 18), (true, 19), (true, 20)] (by kernel_rfl) (by kernel_rfl) ?_; simp only [pickOps, List.map_cons, List.map_nil, List.getD_cons_zero, List.getD_cons_succ, List.drop_succ_cons, List.drop_zero]; (iterate 21 (first | (refine wpMix_take (v := ?_) (by rfl) ?_ ?_; rotate_left; (focus (intro W hW; subst hW; go_simp; (try with_reducible rfl); done)); try simp only [Act.put, List.setIfInBounds_toArray, List.set_cons_zero, List.set_cons_succ]) | (refine wpMix_leave (by rfl) ?_; try simp only [Act.put, List.setIfInBounds_toArray, List.set_cons_zero, List.set_cons_succ]))); refine wpMix_nil ?_)
                go_wp2_with (go_at_call 11; (with_reducible refine useC (has_any _ _ _ _ _ (HS1.out _ hF.out.drew)) ?_); rw [HHB.out]; rintro e w7 ⟨rfl, rfl⟩)
                go_roundw
                case rel => exact ⟨k + 1, by omega, by go_num, m + 1, by go_num, N3.out.symm, hF.out.drew⟩
                case measure => simp [intOf]; omega
              | true =>
                have N3 := Lib.hid (Fk.next_wrong C E k hw)
                have HHB := Lib.hid (show hasB (Fk.faults1 C E) k = true from HHW.out.trans hw)
                clear hw HHW
                by_cases hmY : m < (Fk.mendE C E).length
                · have i5 : (m : Int) < (Fk.mendE C E).length := by omega
                  obtain rfl := aY.out (by omega)
                  obtain ⟨y0, y1⟩ := cY.out wr hF.out m hmY
                  generalize entN (Fk.mendE C E) m = pN at *
                  generalize entI (Fk.mendE C E) m = pI at *
                  by_cases heq : pN = entN E k ∧ pI = entI E k
                  · obtain ⟨rfl, rfl⟩ := heq
                    go_wp2
                    (refine wp_region_mixq 21 [(true, 0), (true, 1), (true, 2), (true, 3), (true, 4), (true, 5), (true, 6), (true, 7), (true, 8), (true, 9), (true, 10), (true, 11), (true, 12), (true, 13), (true, 14), (true, 15), (true, 16), (true, 17), (true, 18), (true, 19), (true, 20)] (by kernel_rfl) (by kernel_rfl) ?_; simp only [pickOps, List.map_cons, List.map_nil, List.getD_cons_zero, List.getD_cons_succ, List.drop_succ_cons, List.drop_zero]; (iterate 21 (first | (refine wpMix_take (v := ?_) (by rfl) ?_ ?_; rotate_left; (focus (intro W hW; subst hW; go_simp; (try with_reducible rfl); done)); try simp only [Act.put, List.setIfInBounds_toArray, List.set_cons_zero, List.set_cons_succ]) | (refine wpMix_leave (by rfl) ?_; try simp only [Act.put, List.setIfInBounds_toArray, List.set_cons_zero, List.set_cons_succ]))); refine wpMix_nil ?_)
                    go_wp2_with (go_at_call 11; (with_reducible refine useC (has_any _ _ _ _ _ (HS1.out _ hF.out.drew)) ?_); rw [HHB.out]; rintro e w7 ⟨rfl, rfl⟩)
                    go_roundw
                    case rel => exact ⟨k + 1, by omega, by go_num, m, rfl, (hm.out.trans N3.out.symm), hF.out.drew⟩
                    case measure => simp [intOf]; omega
                  · by_cases hpn : pN = entN E k
                    · have hpi : (pI == entI E k) = false := by simpa using fun h => heq ⟨hpn, h⟩
                      subst hpn
                      clear heq
                      go_wp2
                      (refine wp_region_mixq 21 [(true, 0), (true, 1), (true, 2), (true, 3), (true, 4), (true, 5), (true, 6), (true, 7), (true, 8), (true, 9), (true, 10), (true, 11), (true, 12), (true, 13), (true, 14), (true, 15), (true, 16), (true, 17), (true, 18), (true, 19), (true, 20)] (by kernel_rfl) (by kernel_rfl) ?_; simp only [pickOps, List.map_cons, List.map_nil, List.getD_cons_zero, List.getD_cons_succ, List.drop_succ_cons, List.drop_zero]; (iterate 21 (first | (refine wpMix_take (v := ?_) (by rfl) ?_ ?_; rotate_left; (focus (intro W hW; subst hW; go_simp; (try with_reducible rfl); done)); try simp only [Act.put, List.setIfInBounds_toArray, List.set_cons_zero, List.set_cons_succ]) | (refine wpMix_leave (by rfl) ?_; try simp only [Act.put, List.setIfInBounds_toArray, List.set_cons_zero, List.set_cons_succ]))); refine wpMix_nil ?_)
                      go_wp2
                      go_roundw
                      case rel => exact ⟨k + 1, by omega, by go_num, m, rfl, (hm.out.trans N3.out.symm), hF.out.drew⟩
                      case measure => simp [intOf]; omega
                    · have hpi : (pN == entN E k) = false := by simpa using hpn
                      clear heq hpn
                      go_wp2
                      (refine wp_region_mixq 21 [(true, 0), (true, 1), (true, 2), (true, 3), (true, 4), (true, 5), (true, 6), (true, 7), (true, 8), (true, 9), (true, 10), (true, 11), (true, 12), (true, 13), (true, 14), (true, 15), (true, 16), (true, 17), (true, 18), (true, 19), (true, 20)] (by kernel_rfl) (by kernel_rfl) ?_; simp only [pickOps, List.map_cons, List.map_nil, List.getD_cons_zero, List.getD_cons_succ, List.drop_succ_cons, List.drop_zero]; (iterate 21 (first | (refine wpMix_take (v := ?_) (by rfl) ?_ ?_; rotate_left; (focus (intro W hW; subst hW; go_simp; (try with_reducible rfl); done)); try simp only [Act.put, List.setIfInBounds_toArray, List.set_cons_zero, List.set_cons_succ]) | (refine wpMix_leave (by rfl) ?_; try simp only [Act.put, List.setIfInBounds_toArray, List.set_cons_zero, List.set_cons_succ]))); refine wpMix_nil ?_)
                      go_wp2
                      go_roundw
                      case rel => exact ⟨k + 1, by omega, by go_num, m, rfl, (hm.out.trans N3.out.symm), hF.out.drew⟩
                      case measure => simp [intOf]; omega
                · have i5 : ¬ (m : Int) < (Fk.mendE C E).length := by omega
                  have i6 : decide ((m : Int) < (Fk.mendE C E).length) = false := decide_eq_false i5
                  have i7 : decide (m < (Fk.mendE C E).length) = false := decide_eq_false hmY
                  go_wp2
                  (refine wp_region_mixq 21 [(true, 0), (true, 1), (true, 2), (true, 3), (true, 4), (true, 5), (true, 6), (true, 7), (true, 8), (true, 9), (true, 10), (true, 11), (true, 12), (true, 13), (true, 14), (true, 15), (true, 16), (true, 17), (true, 18), (true, 19), (true, 20)] (by kernel_rfl) (by kernel_rfl) ?_; simp only [pickOps, List.map_cons, List.map_nil, List.getD_cons_zero, List.getD_cons_succ, List.drop_succ_cons, List.drop_zero]; (iterate 21 (first | (refine wpMix_take (v := ?_) (by rfl) ?_ ?_; rotate_left; (focus (intro W hW; subst hW; go_simp; (try with_reducible rfl); done)); try simp only [Act.put, List.setIfInBounds_toArray, List.set_cons_zero, List.set_cons_succ]) | (refine wpMix_leave (by rfl) ?_; try simp only [Act.put, List.setIfInBounds_toArray, List.set_cons_zero, List.set_cons_succ]))); refine wpMix_nil ?_)
                  go_wp2
                  go_roundw
                  case rel => exact ⟨k + 1, by omega, by go_num, m, rfl, (hm.out.trans N3.out.symm), hF.out.drew⟩
                  case measure => simp [intOf]; omega
            · have hk' : k = E.length := by omega
              subst hk'
              have e9 : ((m : Int) == (Fk.mendE C E).length) = true := by have h := hm.out; unfold Fk.mendE; simp; omega
              go_wp2
              go_ret
              exact ⟨rfl, HFA.out.trans hF.out⟩
    · have z1 : (((Fk.faults1 C E).length : Int) + (Fk.faults2 C E).length == 0) = false := by
        simp only [beq_eq_false_iff_ne, ne_eq]
        intro h
        exact hall ⟨List.eq_nil_of_length_eq_zero (by omega), List.eq_nil_of_length_eq_zero (by omega)⟩
      have z1' : ¬ ((Fk.faults1 C E).length : Int) + (Fk.faults2 C E).length = 0 := by simpa using z1
      clear hall
      go_enter Try.func4, Try.ntmps4
      go_wp2_with (first
        | (go_at_call 7; (with_reducible refine useC (fk_fact _) ?_); rintro e w2 ⟨rfl, hf⟩; have HF2 := Lib.hid (HF.out.trans hf); have HB2 := Lib.hid (im2_keep _ _ _ hf); obtain ⟨b0, b1⟩ := HB2.out.cells; clear hf)
        | (go_at_call 9; (with_reducible refine useC (fk_Faults_ok _ _ C E (HV.out _ HF2.out) HOK.out) ?_); rintro e w3 ⟨v1, v2, rfl, ho1, ho2, hf3⟩; obtain ⟨s1, _, hs1⟩ := ho1.sl; obtain ⟨_, _, k1, rfl, _⟩ := hs1.form; obtain ⟨_, _, hs2⟩ := ho2.sl; obtain ⟨_, _, k2, rfl, _⟩ := hs2.form; have HF3 := Lib.hid (HF2.out.trans hf3); have HB3 := Lib.hid (HB2.out.fr hf3); have HS3 := Lib.hid hs1; obtain ⟨b2, b3⟩ := HB3.out.cells; clear ho1 ho2 hs1 hs2 hf3)
        | (go_at_call 8; (with_reducible refine useC (fk_Mend_ok _ _ C E (HV.out _ HF3.out) HOK.out) ?_); rintro e w4 ⟨v4, rfl, hv4, hf4⟩; have HV4 := Lib.hid hv4; obtain ⟨vx, vy, g3, g4, rfl, hX, hY⟩ := hv4; obtain ⟨A3, o3, c3, hvx, _, haX, hcX⟩ := hX.form; rw [K1.out] at hvx haX hcX; subst hvx; obtain ⟨A4, o4, c4, rfl, _, haY, hcY⟩ := hY.formE; have HF4 := Lib.hid (HF3.out.trans hf4); have HB4 := Lib.hid (HB3.out.fr hf4); have HS4 := Lib.hid (fun W (hW : Fr [] w4 W) => HS3.out.fr (hf4.trans hW) (by simp)); obtain ⟨b4, b5⟩ := HB4.out.cells; have hlt4 := lt_of_heap HB4.out; clear hX hY hf4 b0 b1 b2 b3)
        | fail)
      have HFA := Lib.hid (HF4.out.alloc (.cells #[.slice A3 C.length c3, .slice A4 (Fk.mendE C E).length c4] 25))
      have HXA := Lib.hid (im2_new w4 (.slice A3 C.length c3) (.slice A4 (Fk.mendE C E).length c4))
      have HBA := Lib.hid (HB4.out.fr ((Fr.refl [] w4).alloc (.cells #[.slice A3 C.length c3, .slice A4 (Fk.mendE C E).length c4] 25)))
      have HF46 := Lib.hid ((Fr.refl [] w4).alloc (.cells #[.slice A3 C.length c3, .slice A4 (Fk.mendE C E).length c4] 25))
      revert HFA
      revert HXA
      revert HBA
      revert HF46
      generalize (w4.alloc (.cells #[.slice A3 C.length c3, .slice A4 (Fk.mendE C E).length c4] 25)) = wA
      intro HF46 HBA HXA HFA
      clear b4 b5
      have HS1 := Lib.hid (fun W (hW : Fr [] wA W) => HS4.out W (HF46.out.trans hW))
      replace hcX := fun k hk => HF46.out.cell (hcX k hk) (by simp)
      replace hcY := fun k hk => And.intro (HF46.out.cell (hcY k hk).1 (by simp)) (HF46.out.cell (hcY k hk).2 (by simp))
      have cX := Lib.hid (fun W (hW : Fr [] wA W) k (hk : k < C.length) => hW.cell (hcX k hk) (by simp))
      have cC := Lib.hid (fun W (hW : Fr [] wA W) k (hk : k < C.length) => (HFA.out.trans hW).cell (hc1 k hk) (by simp))
      have cY := Lib.hid (fun W (hW : Fr [] wA W) k (hk : k < (Fk.mendE C E).length) => And.intro (hW.cell (hcY k hk).1 (by simp)) (hW.cell (hcY k hk).2 (by simp)))
      have cE := Lib.hid (fun W (hW : Fr [] wA W) k (hk : k < E.length) => And.intro ((HFA.out.trans hW).cell (hc2 k hk).1 (by simp)) ((HFA.out.trans hW).cell (hc2 k hk).2 (by simp)))
      have aX := Lib.hid haX
      have aY := Lib.hid haY
      clear hcX hcY haX haY
      obtain ⟨b0, b1⟩ := HBA.out.cells
      obtain ⟨x0, x1⟩ := HXA.out.cells
      go_loop [9] (fun i => ∃ k : Nat, k ≤ C.length ∧ i = .int .i64 k) (fun i => C.length - (intOf i).toNat)
      case atStart => exact ⟨0, Nat.zero_le _, rfl⟩
      case round =>
        obtain ⟨k, hk, rfl⟩ := hrel
        by_cases hlt : k < C.length
        · obtain rfl := HA1.out (by omega)
          obtain rfl := aX.out (by omega)
          have q0 := cC.out wA (Fr.refl _ _) k hlt
          have q1 := cX.out wA (Fr.refl _ _) k hlt
          have i1 : (0 : Int) ≤ (k : Int) := by omega
          have i2 : (k : Int) < C.length := by omega
          by_cases hz : nth C k = 0
          · have hz2 := HZ.out k hlt hz
            rw [hz] at q0
            rw [hz2] at q1
            clear hz hz2
            go_wp2
            go_round
            case rel => exact ⟨k + 1, by omega, by go_num⟩
            case measure => simp [intOf]; omega
          · have e9 : (nth C k == 0) = false := by simpa using hz
            clear hz
            go_wp2
            go_round
            case rel => exact ⟨k + 1, by omega, by go_num⟩
            case measure => simp [intOf]; omega
        · have hk' : k = C.length := by omega
          subst hk'
          go_wp2
          clear b0 b1 x0 x1
          go_loopw [10, 11] (fun a i wr => ∃ k : Nat, k ≤ E.length ∧ i = .int .i64 k ∧ ∃ m : Nat, a = .int .i64 m ∧ Hid (m = (Fk.kp C E k).length) ∧ Hid (Fr [] wA wr)) (fun _ i _ => E.length - (intOf i).toNat)
          case atStart => exact ⟨0, Nat.zero_le _, rfl, 0, rfl, (by show _ = _; simp [Fk.kp]), Fr.refl _ _⟩
          case round =>
            obtain ⟨k, hk, rfl, m, rfl, hm, hF⟩ := hrel
            obtain ⟨b0, b1⟩ := Im2.cells (HBA.out.fr hF.out)
            obtain ⟨x0, x1⟩ := Im2.cells (HXA.out.fr hF.out)
            by_cases hltE : k < E.length
            · obtain rfl := HA2.out (by omega)
              obtain ⟨e0, e1⟩ := cE.out wr hF.out k hltE
              obtain ⟨f0, f1⟩ := cE.out wr.drew hF.out.drew k hltE
              have i1 : (0 : Int) ≤ (k : Int) := by omega
              have i2 : (k : Int) < E.length := by omega
              have i4 : (0 : Int) ≤ (m : Int) := by omega
              have hmk := Lib.hid (HKL.out k)
              have HHW := Lib.hid (Fk.has_wr C E E.length k hltE)
              cases hw : Fk.wrong C E k with
              | false =>
                obtain ⟨n1, n2, n3⟩ := Fk.next_right C E k hltE hw
                rw [← hm.out] at n1 n2 n3
                have i5 : (m : Int) < (Fk.mendE C E).length := by omega
                obtain rfl := aY.out (by omega)
                obtain ⟨y0, y1⟩ := cY.out wr hF.out m n1
                have en : entN (Fk.mendE C E) m = entN E k := by unfold entN; rw [n2]
                have ei : entI (Fk.mendE C E) m = entI E k := by unfold entI; rw [n2]
                rw [en] at y0
                rw [ei] at y1
                have N3 := Lib.hid n3
                have HHB := Lib.hid (show hasB (Fk.faults1 C E) k = false from HHW.out.trans hw)
                have hm12 : (m : Int) ≤ 12 := by have := hmk.out; have := hm.out; omega
                clear n2 n3 en ei hw HHW
                go_wp2
                (refine wp_region_mixq 21 [(true, 0), (true, 1), (true, 2), (true, 3), (true, 4), (true, 5), (true, 6), (true, 7), (true, 8), (true, 9), (true, 10), (true, 11), (true, 12), (true, 13), (true, 14), (true, 15), (true, 16), (true, 17), (true, 18), (true, 19), (true, 20)] (by kernel_rfl) (by kernel_rfl) ?_; simp only [pickOps, List.map_cons, List.map_nil, List.getD_cons_zero, List.getD_cons_succ, List.drop_succ_cons, List.drop_zero]; (iterate 21 (first | (refine wpMix_take (v := ?_) (by rfl) ?_ ?_; rotate_left; (focus (intro W hW; subst hW; go_simp; (try with_reducible rfl); done)); try simp only [Act.put, List.setIfInBounds_toArray, List.set_cons_zero, List.set_cons_succ]) | (refine wpMix_leave (by rfl) ?_; try simp only [Act.put, List.setIfInBounds_toArray, List.set_cons_zero, List.set_cons_succ]))); refine wpMix_nil ?_)
                go_wp2_with (go_at_call 11; (with_reducible refine useC (has_any _ _ _ _ _ (HS1.out _ hF.out.drew)) ?_); rw [HHB.out]; rintro e w7 ⟨rfl, rfl⟩)
                go_roundw
                case rel => exact ⟨k + 1, by omega, by go_num, m + 1, by go_num, N3.out.symm, hF.out.drew⟩
                case measure => simp [intOf]; omega
              | true =>
                have N3 := Lib.hid (Fk.next_wrong C E k hw)
                have HHB := Lib.hid (show hasB (Fk.faults1 C E) k = true from HHW.out.trans hw)
                clear hw HHW
                by_cases hmY : m < (Fk.mendE C E).length
                · have i5 : (m : Int) < (Fk.mendE C E).length := by omega
                  obtain rfl := aY.out (by omega)
                  obtain ⟨y0, y1⟩ := cY.out wr hF.out m hmY
                  generalize entN (Fk.mendE C E) m = pN at *
                  generalize entI (Fk.mendE C E) m = pI at *
                  by_cases heq : pN = entN E k ∧ pI = entI E k
                  · obtain ⟨rfl, rfl⟩ := heq
                    go_wp2
                    (refine wp_region_mixq 21 [(true, 0), (true, 1), (true, 2), (true, 3), (true, 4), (true, 5), (true, 6), (true, 7), (true, 8), (true, 9), (true, 10), (true, 11), (true, 12), (true, 13), (true, 14), (true, 15), (true, 16), (true, 17), (true, 18), (true, 19), (true, 20)] (by kernel_rfl) (by kernel_rfl) ?_; simp only [pickOps, List.map_cons, List.map_nil, List.getD_cons_zero, List.getD_cons_succ, List.drop_succ_cons, List.drop_zero]; (iterate 21 (first | (refine wpMix_take (v := ?_) (by rfl) ?_ ?_; rotate_left; (focus (intro W hW; subst hW; go_simp; (try with_reducible rfl); done)); try simp only [Act.put, List.setIfInBounds_toArray, List.set_cons_zero, List.set_cons_succ]) | (refine wpMix_leave (by rfl) ?_; try simp only [Act.put, List.setIfInBounds_toArray, List.set_cons_zero, List.set_cons_succ]))); refine wpMix_nil ?_)
                    go_wp2_with (go_at_call 11; (with_reducible refine useC (has_any _ _ _ _ _ (HS1.out _ hF.out.drew)) ?_); rw [HHB.out]; rintro e w7 ⟨rfl, rfl⟩)
                    go_roundw
                    case rel => exact ⟨k + 1, by omega, by go_num, m, rfl, (hm.out.trans N3.out.symm), hF.out.drew⟩
                    case measure => simp [intOf]; omega
                  · by_cases hpn : pN = entN E k
                    · have hpi : (pI == entI E k) = false := by simpa using fun h => heq ⟨hpn, h⟩
                      subst hpn
                      clear heq
                      go_wp2
                      (refine wp_region_mixq 21 [(true, 0), (true, 1), (true, 2), (true, 3), (true, 4), (true, 5), (true, 6), (true, 7), (true, 8), (true, 9), (true, 10), (true, 11), (true, 12), (true, 13), (true, 14), (true, 15), (true, 16), (true, 17), (true, 18), (true, 19), (true, 20)] (by kernel_rfl) (by kernel_rfl) ?_; simp only [pickOps, List.map_cons, List.map_nil, List.getD_cons_zero, List.getD_cons_succ, List.drop_succ_cons, List.drop_zero]; (iterate 21 (first | (refine wpMix_take (v := ?_) (by rfl) ?_ ?_; rotate_left; (focus (intro W hW; subst hW; go_simp; (try with_reducible rfl); done)); try simp only [Act.put, List.setIfInBounds_toArray, List.set_cons_zero, List.set_cons_succ]) | (refine wpMix_leave (by rfl) ?_; try simp only [Act.put, List.setIfInBounds_toArray, List.set_cons_zero, List.set_cons_succ]))); refine wpMix_nil ?_)
                      go_wp2
                      go_roundw
                      case rel => exact ⟨k + 1, by omega, by go_num, m, rfl, (hm.out.trans N3.out.symm), hF.out.drew⟩
                      case measure => simp [intOf]; omega
                    · have hpi : (pN == entN E k) = false := by simpa using hpn
                      clear heq hpn
                      go_wp2
                      (refine wp_region_mixq 21 [(true, 0), (true, 1), (true, 2), (true, 3), (true, 4), (true, 5), (true, 6), (true, 7), (true, 8), (true, 9), (true, 10), (true, 11), (true, 12), (true, 13), (true, 14), (true, 15), (true, 16), (true, 17), (true, 18), (true, 19), (true, 20)] (by kernel_rfl) (by kernel_rfl) ?_; simp only [pickOps, List.map_cons, List.map_nil, List.getD_cons_zero, List.getD_cons_succ, List.drop_succ_cons, List.drop_zero]; (iterate 21 (first | (refine wpMix_take (v := ?_) (by rfl) ?_ ?_; rotate_left; (focus (intro W hW; subst hW; go_simp; (try with_reducible rfl); done)); try simp only [Act.put, List.setIfInBounds_toArray, List.set_cons_zero, List.set_cons_succ]) | (refine wpMix_leave (by rfl) ?_; try simp only [Act.put, List.setIfInBounds_toArray, List.set_cons_zero, List.set_cons_succ]))); refine wpMix_nil ?_)
                      go_wp2
                      go_roundw
                      case rel => exact ⟨k + 1, by omega, by go_num, m, rfl, (hm.out.trans N3.out.symm), hF.out.drew⟩
                      case measure => simp [intOf]; omega
                · have i5 : ¬ (m : Int) < (Fk.mendE C E).length := by omega
                  have i6 : decide ((m : Int) < (Fk.mendE C E).length) = false := decide_eq_false i5
                  have i7 : decide (m < (Fk.mendE C E).length) = false := decide_eq_false hmY
                  go_wp2
                  (refine wp_region_mixq 21 [(true, 0), (true, 1), (true, 2), (true, 3), (true, 4), (true, 5), (true, 6), (true, 7), (true, 8), (true, 9), (true, 10), (true, 11), (true, 12), (true, 13), (true, 14), (true, 15), (true, 16), (true, 17), (true, 18), (true, 19), (true, 20)] (by kernel_rfl) (by kernel_rfl) ?_; simp only [pickOps, List.map_cons, List.map_nil, List.getD_cons_zero, List.getD_cons_succ, List.drop_succ_cons, List.drop_zero]; (iterate 21 (first | (refine wpMix_take (v := ?_) (by rfl) ?_ ?_; rotate_left; (focus (intro W hW; subst hW; go_simp; (try with_reducible rfl); done)); try simp only [Act.put, List.setIfInBounds_toArray, List.set_cons_zero, List.set_cons_succ]) | (refine wpMix_leave (by rfl) ?_; try simp only [Act.put, List.setIfInBounds_toArray, List.set_cons_zero, List.set_cons_succ]))); refine wpMix_nil ?_)
                  go_wp2
                  go_roundw
                  case rel => exact ⟨k + 1, by omega, by go_num, m, rfl, (hm.out.trans N3.out.symm), hF.out.drew⟩
                  case measure => simp [intOf]; omega
            · have hk' : k = E.length := by omega
              subst hk'
              have e9 : ((m : Int) == (Fk.mendE C E).length) = true := by have h := hm.out; unfold Fk.mendE; simp; omega
              go_wp2
              go_ret
              exact ⟨rfl, HFA.out.trans hF.out⟩
  · have HOK := Lib.hid hok
    have HNE := Lib.hid (errV_no hok)
    clear hok
    go_enter Try.func4, Try.ntmps4
    go_wp2_with (first
      | (go_at_call 7; (with_reducible refine useC (fk_fact _) ?_); rintro e w2 ⟨rfl, hf⟩; have HF2 := Lib.hid (HF.out.trans hf); have HB2 := Lib.hid (im2_keep _ _ _ hf); obtain ⟨b0, b1⟩ := HB2.out.cells; clear hf)
      | (go_at_call 9; (with_reducible refine useC (fk_Faults_bad _ _ C E (HV.out _ HF2.out) HOK.out) ?_); rintro e w3 ⟨rfl, hf3⟩; have HF3 := Lib.hid (HF2.out.trans hf3); obtain ⟨b2, b3⟩ := Im2.cells (HB2.out.fr hf3); clear hf3)
      | (go_at_call 8; (with_reducible refine useC (fk_Mend_bad _ _ C E (HV.out _ HF3.out) HOK.out) ?_); rintro e w4 ⟨rfl, hf4⟩; have HF4 := Lib.hid (HF3.out.trans hf4); clear hf4))
    go_ret
    exact ⟨rfl, HF4.out.alloc _⟩
end Go.Proofs.Ytbohlbnbaomkiaa
