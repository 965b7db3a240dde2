/- The law TreePlays. Printed by wip/gen_tpplays.py. -/

import Derived.Test.YtnglhfeialomgaaGreatDoorTz16
import Derived.Test.YtnglhfeialomgaaGreatDoorTz25
import Derived.Test.YtnglhfeialomgaaGreatDoorTz26
namespace Go.Proofs.YtnglhfeialomgaaGreatDoor
open Go.RowKit

set_option maxRecDepth 100000 in
set_option maxHeartbeats 16000000 in
theorem tp_plays (w : World) (v : Value) (ls : List (List (List UInt8))) (hR : RwT w v ls) (ask : ByteArray) (hE : ErrType w) :
    Calls Tryz.prog 3 #[v, .string ask] w (OkT w) := by
  have HE := Lib.hid (fun W (hW : Fr [] w W) => hE.fr hW (by simp))
  obtain ⟨A, gq, oq, cq, rfl, hm, hA, hc⟩ := hR
  have HA := Lib.hid hA
  have HC := Lib.hid hc
  clear hA hc hE
  have HN := Lib.hid (trl_new (Fr.refl [] w))
  go_enter Tryz.func3, Tryz.ntmps3
  go_wp2_with (first
    | (go_at_call 4; (with_reducible refine useC HN.out ?_); rintro e w1 ⟨tb, rn, rm, rfl, h⟩; have HL := Lib.hid h; clear h)
    | (go_at_call 5; (with_reducible refine useC (m_NewTree w1) ?_); rintro e w2 ⟨v0, v1, g1, rfl, hv, hg, hf⟩; obtain ⟨A0, o0, c0, rfl, hm0, -⟩ := nm_cells hv.nm; obtain ⟨A1, o1, c1, rfl, hm1, -⟩ := bo_cells hv.dirs; have HS0 := Lib.hid (TpI.start HL.out hv hg hf); clear hv hg hf))
  clear HN HL
  dsimp only [List.length_nil, List.length_cons] at HS0
  revert HS0
  generalize w2.alloc (.cells #[.slice A0 0 c0, .slice A1 1 c1] 28) = wA
  generalize w2.heap.size = X at *
  intro HS0
  go_loopw [7] (fun iv wr => ∃ i : Nat, i ≤ ls.length ∧ i ≤ 40 ∧ iv = .int .i64 i ∧ ∃ g dom ns ths T v0 v1 g0 g1, Hid (TpI w wr tb (2 * i) g dom ns ths T X v0 v1 g0 g1 T (i + 1))) (fun iv _ => ls.length - (intOf iv).toNat)
  case atStart => exact ⟨0, Nat.zero_le _, by decide, rfl, _, _, _, _, _, _, _, _, _, HS0⟩
  case round =>
    clear HS0
    obtain ⟨i, hi, h40, rfl, g, dom, ns, ths, T, v0, v1, g0, g1, hS⟩ := hrel
    obtain ⟨g0, g1, hS1, s0, s1⟩ := hS.out.fresh
    clear hS
    have hS := hS1
    clear hS1
    obtain ⟨A0, o0, c0, rfl, hm0, hA0, hc0⟩ := nm_cells hS.v.nm
    obtain ⟨A1, o1, c1, rfl, hm1, hA1, hc1⟩ := bo_cells hS.v.dirs
    have hS1 := Lib.hid hS
    clear hS
    have hS := hS1
    clear hS1
    have HS01 := Lib.hid (And.intro s0 s1)
    have HA1 := Lib.hid hA1
    have HC1 := Lib.hid hc1
    clear s0 s1 hA0 hA1 hc0 hc1
    have i0 : (0 : Int) ≤ i := by omega
    have HN24 : Hid (T.nm.length ≤ 24) := by have h1 := hS.out.rf.few; have h2 := hS.out.tr.s.many; exact (by omega : T.nm.length ≤ 24)
    have HD1 : Hid (T.dirs.length ≤ 1000) := by have h1 := hS.out.len; have h2 := hS.out.rf.dirs; exact (by rw [h2, List.length_map]; omega : T.dirs.length ≤ 1000)
    have HBN := Lib.hid (hS.out.rf.bound hS.out.tr.s.ok)
    by_cases hlt : i < ls.length ∧ i < 40
    · obtain ⟨hlt, hl4⟩ := hlt
      have iI : (i : Int) < ls.length := by omega
      have i4 : (i : Int) < 40 := by omega
      obtain rfl := HA.out (by omega)
      obtain ⟨u, gi, hu, hs⟩ := HC.out i hlt
      obtain ⟨B, o2, c2, rfl, hm2, hcap2, hB, hcc⟩ := strs_cell hs
      have q := hS.out.fr.cell hu (by simp)
      have HARGS := Lib.hid hB
      generalize ls[i] = x at *
      obtain ⟨⟨x0, x1⟩, hfz⟩ := hS.out.cells
      have hsh : (∃ a s, x = [a, s]) ∨ (∃ a s u2, x = [a, s, u2]) ∨ (x.length ≠ 2 ∧ x.length ≠ 3) := by
        rcases x with _ | ⟨a, _ | ⟨b, _ | ⟨d, _ | ⟨e, r⟩⟩⟩⟩
        · exact .inr (.inr (by simp))
        · exact .inr (.inr (by simp))
        · exact .inl ⟨a, b, rfl⟩
        · exact .inr (.inl ⟨a, b, d, rfl⟩)
        · exact .inr (.inr (by simp))
      rcases hsh with ⟨a, s, rfl⟩ | ⟨a, s, u2, rfl⟩ | ⟨n2, n3⟩
      · have HK0 := hcc 0 (by simp)
        have HK1 := hcc 1 (by simp)
        obtain rfl := hB (by simp)
        have HK0 : w.cell? ⟨gi, o2, none⟩ = some (.string (Pa.mk a)) := HK0
        have HK1 : w.cell? ⟨gi, o2 + 1, none⟩ = some (.string (Pa.mk s)) := HK1
        have HC0 := Lib.hid (fun W (hW : Fr [] w W) => And.intro (hW.cell HK0 (by simp)) (hW.cell HK1 (by simp)))
        have hcap2 : 2 ≤ c2 := hcap2
        have q : wr.cell? ⟨gq, oq + i, none⟩ = some (.slice (some ⟨gi, o2, none⟩) 2 c2) := q
        clear hB hcc hs hu HK0 HK1 hm2
        by_cases ha : a = [100]
        · have e100 : ((Pa.mk a).toList == [100]) = true := by rw [mk_toList, ha]; rfl
          have e102 : ((Pa.mk a).toList == [102]) = false := by rw [mk_toList, ha]; rfl
          have e120 : ((Pa.mk a).toList == [120]) = false := by rw [mk_toList, ha]; rfl
          have hop := m_Add wr.drew (.slice A0 T.nm.length c0) (.slice A1 T.dirs.length c1) g0 g1 T (hS.out.v.step (Fr.refl [] wr).drew) hS.out.rf hS.out.tr.s.ok (Pa.mk s) (-1) (.inl rfl) true HN24.out HD1.out
          rw [Pa.mk_list] at hop
          have HOP := Lib.hid hop
          clear hop
          have HDD : Hid (∀ W u0 u1 h0 h1, TpI w W tb (2 * i) g dom ns ths T X u0 u1 h0 h1 (addT g T s (-1) true) (i + 1) → Calls Tryz.prog 11 #[.pointer (some ⟨tb, 0, none⟩), .slice (some ⟨gi, o2, none⟩) 2 c2] W (Rp (StepA w tb (2 * i) g dom (addT g T s (-1) true) (Tr.addErr g s) (i + 1) W))) := fun W u0 u1 h0 h1 h => tp_did2 W tb _ (fun e w' h => ⟨_, h.1⟩) gi a s o2 c2 hcap2 (HC0.out W h.fr).1 (HC0.out W h.fr).2 (fun _ => step_dir h.tr (by omega) h.rf h.len s) (fun e => absurd (ha.symm.trans e) (by decide)) (fun e => absurd (ha.symm.trans e) (by decide)) (fun n0 n1 n2 => absurd ha n0)
          clear ha HARGS
          generalize Pa.mk a = ma at *
          generalize Pa.mk s = ms at *
          generalize addT g T s (-1) true = T2 at *
          generalize Tr.addErr g s = ce at *
          obtain ⟨k0, k1⟩ := HC0.out wr hS.out.fr
          have HSD := Lib.hid (hS.out.step (Fr.refl [] wr).drew)
          go_wp2_with fail
          (refine wp_region_mix (Fr [] w ·) 9 [(true, 1), (true, 2), (true, 3), (false, 0), (false, 4), (true, 5), (true, 6), (true, 7), (false, 8)] (by kernel_rfl) (by kernel_rfl) (hS.out.fr.drew) ?_; simp only [pickOps, List.map_cons, List.map_nil, List.getD_cons_zero, List.getD_cons_succ, List.drop_succ_cons, List.drop_zero])
          (iterate 3 (first | (refine wpMix_take (v := ?_) (by rfl) ?_ ?_; rotate_left; (focus (intro W hW; obtain ⟨k0, k1⟩ := HC0.out W hW; go_simp; (try with_reducible rfl); done)); try simp only [Act.put, List.setIfInBounds_toArray, List.set_cons_zero, List.set_cons_succ]) | (refine wpMix_leave (by rfl) ?_; try simp only [Act.put, List.setIfInBounds_toArray, List.set_cons_zero, List.set_cons_succ])))
          refine wpMix_walk ?_
          go_wp2
          refine MixQ.mk (HSD.out.fr) ?_
          refine wpMix_walk ?_
          go_wp2_with (go_at_call 6; (with_reducible refine useC HOP.out ?_); rintro e w2 ⟨u0, u1, h0, h1, rfl, hv, ha, hb, hf⟩; obtain ⟨B0, p0, d0, rfl, hz0, -⟩ := nm_cells hv.nm; obtain ⟨B1, p1, d1, rfl, hz1, -⟩ := bo_cells hv.dirs; have HS2 := Lib.hid (HSD.out.step hf); have HS3 := Lib.hid (HSD.out.put hv ha hb hf HS01.out.1 HS01.out.2); clear hv ha hb hf)
          refine MixQ.mk (HS2.out.fr) ?_
          (iterate 3 (first | (refine wpMix_take (v := ?_) (by rfl) ?_ ?_; rotate_left; (focus (intro W hW; skip; go_simp; (try with_reducible rfl); done)); try simp only [Act.put, List.setIfInBounds_toArray, List.set_cons_zero, List.set_cons_succ]) | (refine wpMix_leave (by rfl) ?_; try simp only [Act.put, List.setIfInBounds_toArray, List.set_cons_zero, List.set_cons_succ])))
          refine wpMix_walk ?_
          clear x0 x1 hfz
          obtain ⟨⟨x0, x1⟩, hfz⟩ := HS2.out.cells
          go_wp2
          refine MixQ.mk (HS3.out.fr) ?_
          refine wpMix_nil ?_
          clear x0 x1 hfz HOP HS2 HSD hS
          generalize ((w2.setCell ⟨X, 0, none⟩ (.slice B0 T2.nm.length d0)).setCell ⟨X, 1, none⟩ (.slice B1 T2.dirs.length d1)) = w3 at *
          clear k0 k1
          obtain ⟨k0, k1⟩ := HC0.out w3 HS3.out.fr
          have HD3 := Lib.hid (HDD.out w3 _ _ _ _ HS3.out)
          clear HDD
          go_wp2_with (first
            | (go_at_call 11; (with_reducible refine useC HD3.out ?_); rintro e w5 ha; obtain ⟨rfl, g5, dom5, ns5, ths5, hs⟩ := HS3.out.turn ha; have HS5 := Lib.hid hs; have HEC := Lib.hid (error_yes ce w5 (HE.out w5 hs.fr)); clear ha hs)
            | (go_at_call 10; (with_reducible refine useC HEC.out ?_); rintro e w6 ⟨rfl, hf⟩; have HS6 := Lib.hid (HS5.out.step hf); clear hf))
          have HWK := Lib.hid (trl_Walk (HS6.out.tr.step (Fr.refl [] w6).drew))
          (refine wp_region_mix ((TpX · X (.slice B0 T2.nm.length d0) (.slice B1 T2.dirs.length d1))) 3 [(true, 0), (true, 2), (false, 1)] (by kernel_rfl) (by kernel_rfl) ((Fr.refl [] w6).drew.get HS6.out.box (by simp)) ?_; simp only [pickOps, List.map_cons, List.map_nil, List.getD_cons_zero, List.getD_cons_succ, List.drop_succ_cons, List.drop_zero])
          (iterate 2 (first | (refine wpMix_take (v := ?_) (by rfl) ?_ ?_; rotate_left; (focus (intro W hW; obtain ⟨y0, y1⟩ := TpX.cells hW; go_simp; (try with_reducible rfl); done)); try simp only [Act.put, List.setIfInBounds_toArray, List.set_cons_zero, List.set_cons_succ]) | (refine wpMix_leave (by rfl) ?_; try simp only [Act.put, List.setIfInBounds_toArray, List.set_cons_zero, List.set_cons_succ])))
          refine wpMix_walk ?_
          go_wp2_with (go_at_call 13; (with_reducible refine useC HWK.out ?_); rintro e w7 ⟨v7, l7, gv7, rfl, -, hs, hw, -, hf, -⟩; obtain ⟨A7, o7, c7, rfl, -⟩ := strs_cell hs; have HS7 := Lib.hid (HS6.out.step ((Fr.refl [] w6).drew.trans hf)); have HL7 := Lib.hid hs; have HW7 := Lib.hid hw; have HX7 := Lib.hid HS7.out.box; clear hs hw hf)
          refine MixQ.mk (HX7.out) ?_
          refine wpMix_nil ?_
          have HXW := Lib.hid (m_Walk w7 _ _ _ _ T2 HS7.out.v (HS7.out.rf.bound HS7.out.tr.s.ok) (by have h1 := HS7.out.rf.few; have h2 := HS7.out.tr.s.many; omega))
          go_wp2_with (first
            | (go_at_call 14; (with_reducible refine useC HXW.out ?_); rintro e w8 ⟨v8, g8, l8, rfl, -, hs, hp, ho, hf⟩; obtain rfl := HS7.out.rf.walk HS7.out.tr.s.ok HW7.out hp ho; obtain ⟨A8, o8, c8, rfl, -⟩ := strs_cell hs; have HS8 := Lib.hid (HS7.out.step hf); have HTX := Lib.hid (texts_same w8 _ _ _ _ _ (slR_fr HL7.out hf) hs); clear hs hp ho hf)
            | (go_at_call 12; (with_reducible refine useC HTX.out ?_); rintro e w9 ⟨rfl, hf⟩; have HS9 := Lib.hid (HS8.out.step hf); clear hf))
          go_roundw
          case rel => exact ⟨i + 1, by omega, by omega, by go_num, _, _, _, _, _, _, _, _, _, HS9⟩
          case measure => (simp [intOf]; try omega)
        · by_cases ha2 : a = [102]
          · clear ha
            have ha := ha2
            clear ha2
            have e100 : ((Pa.mk a).toList == [100]) = false := by rw [mk_toList, ha]; rfl
            have e102 : ((Pa.mk a).toList == [102]) = true := by rw [mk_toList, ha]; rfl
            have e120 : ((Pa.mk a).toList == [120]) = false := by rw [mk_toList, ha]; rfl
            have hop := m_Add wr.drew (.slice A0 T.nm.length c0) (.slice A1 T.dirs.length c1) g0 g1 T (hS.out.v.step (Fr.refl [] wr).drew) hS.out.rf hS.out.tr.s.ok (Pa.mk s) (-1) (.inl rfl) false HN24.out HD1.out
            rw [Pa.mk_list] at hop
            have HOP := Lib.hid hop
            clear hop
            have HDD : Hid (∀ W u0 u1 h0 h1, TpI w W tb (2 * i) g dom ns ths T X u0 u1 h0 h1 (addT g T s (-1) false) (i + 1) → Calls Tryz.prog 11 #[.pointer (some ⟨tb, 0, none⟩), .slice (some ⟨gi, o2, none⟩) 2 c2] W (Rp (StepA w tb (2 * i) g dom (addT g T s (-1) false) (Tr.addErr g s) (i + 1) W))) := fun W u0 u1 h0 h1 h => tp_did2 W tb _ (fun e w' h => ⟨_, h.1⟩) gi a s o2 c2 hcap2 (HC0.out W h.fr).1 (HC0.out W h.fr).2 (fun e => absurd (ha.symm.trans e) (by decide)) (fun _ => step_file h.tr (by omega) h.rf h.len s) (fun e => absurd (ha.symm.trans e) (by decide)) (fun n0 n1 n2 => absurd ha n1)
            clear ha HARGS
            generalize Pa.mk a = ma at *
            generalize Pa.mk s = ms at *
            generalize addT g T s (-1) false = T2 at *
            generalize Tr.addErr g s = ce at *
            obtain ⟨k0, k1⟩ := HC0.out wr hS.out.fr
            have HSD := Lib.hid (hS.out.step (Fr.refl [] wr).drew)
            go_wp2_with fail
            (refine wp_region_mix (Fr [] w ·) 9 [(true, 1), (true, 2), (true, 3), (false, 0), (false, 4), (true, 5), (true, 6), (true, 7), (false, 8)] (by kernel_rfl) (by kernel_rfl) (hS.out.fr.drew) ?_; simp only [pickOps, List.map_cons, List.map_nil, List.getD_cons_zero, List.getD_cons_succ, List.drop_succ_cons, List.drop_zero])
            (iterate 3 (first | (refine wpMix_take (v := ?_) (by rfl) ?_ ?_; rotate_left; (focus (intro W hW; obtain ⟨k0, k1⟩ := HC0.out W hW; go_simp; (try with_reducible rfl); done)); try simp only [Act.put, List.setIfInBounds_toArray, List.set_cons_zero, List.set_cons_succ]) | (refine wpMix_leave (by rfl) ?_; try simp only [Act.put, List.setIfInBounds_toArray, List.set_cons_zero, List.set_cons_succ])))
            refine wpMix_walk ?_
            go_wp2
            refine MixQ.mk (HSD.out.fr) ?_
            refine wpMix_walk ?_
            go_wp2_with (go_at_call 6; (with_reducible refine useC HOP.out ?_); rintro e w2 ⟨u0, u1, h0, h1, rfl, hv, ha, hb, hf⟩; obtain ⟨B0, p0, d0, rfl, hz0, -⟩ := nm_cells hv.nm; obtain ⟨B1, p1, d1, rfl, hz1, -⟩ := bo_cells hv.dirs; have HS2 := Lib.hid (HSD.out.step hf); have HS3 := Lib.hid (HSD.out.put hv ha hb hf HS01.out.1 HS01.out.2); clear hv ha hb hf)
            refine MixQ.mk (HS2.out.fr) ?_
            (iterate 3 (first | (refine wpMix_take (v := ?_) (by rfl) ?_ ?_; rotate_left; (focus (intro W hW; skip; go_simp; (try with_reducible rfl); done)); try simp only [Act.put, List.setIfInBounds_toArray, List.set_cons_zero, List.set_cons_succ]) | (refine wpMix_leave (by rfl) ?_; try simp only [Act.put, List.setIfInBounds_toArray, List.set_cons_zero, List.set_cons_succ])))
            refine wpMix_walk ?_
            clear x0 x1 hfz
            obtain ⟨⟨x0, x1⟩, hfz⟩ := HS2.out.cells
            go_wp2
            refine MixQ.mk (HS3.out.fr) ?_
            refine wpMix_nil ?_
            clear x0 x1 hfz HOP HS2 HSD hS
            generalize ((w2.setCell ⟨X, 0, none⟩ (.slice B0 T2.nm.length d0)).setCell ⟨X, 1, none⟩ (.slice B1 T2.dirs.length d1)) = w3 at *
            clear k0 k1
            obtain ⟨k0, k1⟩ := HC0.out w3 HS3.out.fr
            have HD3 := Lib.hid (HDD.out w3 _ _ _ _ HS3.out)
            clear HDD
            go_wp2_with (first
              | (go_at_call 11; (with_reducible refine useC HD3.out ?_); rintro e w5 ha; obtain ⟨rfl, g5, dom5, ns5, ths5, hs⟩ := HS3.out.turn ha; have HS5 := Lib.hid hs; have HEC := Lib.hid (error_yes ce w5 (HE.out w5 hs.fr)); clear ha hs)
              | (go_at_call 10; (with_reducible refine useC HEC.out ?_); rintro e w6 ⟨rfl, hf⟩; have HS6 := Lib.hid (HS5.out.step hf); clear hf))
            have HWK := Lib.hid (trl_Walk (HS6.out.tr.step (Fr.refl [] w6).drew))
            (refine wp_region_mix ((TpX · X (.slice B0 T2.nm.length d0) (.slice B1 T2.dirs.length d1))) 3 [(true, 0), (true, 2), (false, 1)] (by kernel_rfl) (by kernel_rfl) ((Fr.refl [] w6).drew.get HS6.out.box (by simp)) ?_; simp only [pickOps, List.map_cons, List.map_nil, List.getD_cons_zero, List.getD_cons_succ, List.drop_succ_cons, List.drop_zero])
            (iterate 2 (first | (refine wpMix_take (v := ?_) (by rfl) ?_ ?_; rotate_left; (focus (intro W hW; obtain ⟨y0, y1⟩ := TpX.cells hW; go_simp; (try with_reducible rfl); done)); try simp only [Act.put, List.setIfInBounds_toArray, List.set_cons_zero, List.set_cons_succ]) | (refine wpMix_leave (by rfl) ?_; try simp only [Act.put, List.setIfInBounds_toArray, List.set_cons_zero, List.set_cons_succ])))
            refine wpMix_walk ?_
            go_wp2_with (go_at_call 13; (with_reducible refine useC HWK.out ?_); rintro e w7 ⟨v7, l7, gv7, rfl, -, hs, hw, -, hf, -⟩; obtain ⟨A7, o7, c7, rfl, -⟩ := strs_cell hs; have HS7 := Lib.hid (HS6.out.step ((Fr.refl [] w6).drew.trans hf)); have HL7 := Lib.hid hs; have HW7 := Lib.hid hw; have HX7 := Lib.hid HS7.out.box; clear hs hw hf)
            refine MixQ.mk (HX7.out) ?_
            refine wpMix_nil ?_
            have HXW := Lib.hid (m_Walk w7 _ _ _ _ T2 HS7.out.v (HS7.out.rf.bound HS7.out.tr.s.ok) (by have h1 := HS7.out.rf.few; have h2 := HS7.out.tr.s.many; omega))
            go_wp2_with (first
              | (go_at_call 14; (with_reducible refine useC HXW.out ?_); rintro e w8 ⟨v8, g8, l8, rfl, -, hs, hp, ho, hf⟩; obtain rfl := HS7.out.rf.walk HS7.out.tr.s.ok HW7.out hp ho; obtain ⟨A8, o8, c8, rfl, -⟩ := strs_cell hs; have HS8 := Lib.hid (HS7.out.step hf); have HTX := Lib.hid (texts_same w8 _ _ _ _ _ (slR_fr HL7.out hf) hs); clear hs hp ho hf)
              | (go_at_call 12; (with_reducible refine useC HTX.out ?_); rintro e w9 ⟨rfl, hf⟩; have HS9 := Lib.hid (HS8.out.step hf); clear hf))
            go_roundw
            case rel => exact ⟨i + 1, by omega, by omega, by go_num, _, _, _, _, _, _, _, _, _, HS9⟩
            case measure => (simp [intOf]; try omega)
          · by_cases ha3 : a = [120]
            · clear ha ha2
              have ha := ha3
              clear ha3
              have e100 : ((Pa.mk a).toList == [100]) = false := by rw [mk_toList, ha]; rfl
              have e102 : ((Pa.mk a).toList == [102]) = false := by rw [mk_toList, ha]; rfl
              have e120 : ((Pa.mk a).toList == [120]) = true := by rw [mk_toList, ha]; rfl
              have hop := m_Drop wr.drew (.slice A0 T.nm.length c0) (.slice A1 T.dirs.length c1) g0 g1 T (hS.out.v.step (Fr.refl [] wr).drew) hS.out.rf hS.out.tr.s.ok (Pa.mk s) HN24.out (fun e he => (HBN.out e he).2)
              rw [Pa.mk_list] at hop
              have HOP := Lib.hid hop
              clear hop
              have HDD : Hid (∀ W u0 u1 h0 h1, TpI w W tb (2 * i) g dom ns ths T X u0 u1 h0 h1 (dropT g T s) (i + 1) → Calls Tryz.prog 11 #[.pointer (some ⟨tb, 0, none⟩), .slice (some ⟨gi, o2, none⟩) 2 c2] W (Rp (StepA w tb (2 * i) g dom (dropT g T s) (Tr.dropErr g s) (i + 1) W))) := fun W u0 u1 h0 h1 h => tp_did2 W tb _ (fun e w' h => ⟨_, h.1⟩) gi a s o2 c2 hcap2 (HC0.out W h.fr).1 (HC0.out W h.fr).2 (fun e => absurd (ha.symm.trans e) (by decide)) (fun e => absurd (ha.symm.trans e) (by decide)) (fun _ => step_drop h.tr (by omega) h.rf h.len s) (fun n0 n1 n2 => absurd ha n2)
              clear ha HARGS
              generalize Pa.mk a = ma at *
              generalize Pa.mk s = ms at *
              generalize dropT g T s = T2 at *
              generalize Tr.dropErr g s = ce at *
              obtain ⟨k0, k1⟩ := HC0.out wr hS.out.fr
              have HSD := Lib.hid (hS.out.step (Fr.refl [] wr).drew)
              go_wp2_with fail
              (refine wp_region_mix (Fr [] w ·) 9 [(true, 1), (true, 2), (true, 3), (false, 0), (false, 4), (true, 5), (true, 6), (true, 7), (false, 8)] (by kernel_rfl) (by kernel_rfl) (hS.out.fr.drew) ?_; simp only [pickOps, List.map_cons, List.map_nil, List.getD_cons_zero, List.getD_cons_succ, List.drop_succ_cons, List.drop_zero])
              (iterate 3 (first | (refine wpMix_take (v := ?_) (by rfl) ?_ ?_; rotate_left; (focus (intro W hW; obtain ⟨k0, k1⟩ := HC0.out W hW; go_simp; (try with_reducible rfl); done)); try simp only [Act.put, List.setIfInBounds_toArray, List.set_cons_zero, List.set_cons_succ]) | (refine wpMix_leave (by rfl) ?_; try simp only [Act.put, List.setIfInBounds_toArray, List.set_cons_zero, List.set_cons_succ])))
              refine wpMix_walk ?_
              go_wp2
              refine MixQ.mk (HSD.out.fr) ?_
              refine wpMix_walk ?_
              go_wp2_with (go_at_call 7; (with_reducible refine useC HOP.out ?_); rintro e w2 ⟨u0, u1, h0, h1, rfl, hv, ha, hb, hf⟩; obtain ⟨B0, p0, d0, rfl, hz0, -⟩ := nm_cells hv.nm; obtain ⟨B1, p1, d1, rfl, hz1, -⟩ := bo_cells hv.dirs; have HS2 := Lib.hid (HSD.out.step hf); have HS3 := Lib.hid (HSD.out.put hv ha hb hf HS01.out.1 HS01.out.2); clear hv ha hb hf)
              refine MixQ.mk (HS2.out.fr) ?_
              (iterate 3 (first | (refine wpMix_take (v := ?_) (by rfl) ?_ ?_; rotate_left; (focus (intro W hW; skip; go_simp; (try with_reducible rfl); done)); try simp only [Act.put, List.setIfInBounds_toArray, List.set_cons_zero, List.set_cons_succ]) | (refine wpMix_leave (by rfl) ?_; try simp only [Act.put, List.setIfInBounds_toArray, List.set_cons_zero, List.set_cons_succ])))
              refine wpMix_walk ?_
              clear x0 x1 hfz
              obtain ⟨⟨x0, x1⟩, hfz⟩ := HS2.out.cells
              go_wp2
              refine MixQ.mk (HS3.out.fr) ?_
              refine wpMix_nil ?_
              clear x0 x1 hfz HOP HS2 HSD hS
              generalize ((w2.setCell ⟨X, 0, none⟩ (.slice B0 T2.nm.length d0)).setCell ⟨X, 1, none⟩ (.slice B1 T2.dirs.length d1)) = w3 at *
              clear k0 k1
              obtain ⟨k0, k1⟩ := HC0.out w3 HS3.out.fr
              have HD3 := Lib.hid (HDD.out w3 _ _ _ _ HS3.out)
              clear HDD
              go_wp2_with (first
                | (go_at_call 11; (with_reducible refine useC HD3.out ?_); rintro e w5 ha; obtain ⟨rfl, g5, dom5, ns5, ths5, hs⟩ := HS3.out.turn ha; have HS5 := Lib.hid hs; have HEC := Lib.hid (error_yes ce w5 (HE.out w5 hs.fr)); clear ha hs)
                | (go_at_call 10; (with_reducible refine useC HEC.out ?_); rintro e w6 ⟨rfl, hf⟩; have HS6 := Lib.hid (HS5.out.step hf); clear hf))
              have HWK := Lib.hid (trl_Walk (HS6.out.tr.step (Fr.refl [] w6).drew))
              (refine wp_region_mix ((TpX · X (.slice B0 T2.nm.length d0) (.slice B1 T2.dirs.length d1))) 3 [(true, 0), (true, 2), (false, 1)] (by kernel_rfl) (by kernel_rfl) ((Fr.refl [] w6).drew.get HS6.out.box (by simp)) ?_; simp only [pickOps, List.map_cons, List.map_nil, List.getD_cons_zero, List.getD_cons_succ, List.drop_succ_cons, List.drop_zero])
              (iterate 2 (first | (refine wpMix_take (v := ?_) (by rfl) ?_ ?_; rotate_left; (focus (intro W hW; obtain ⟨y0, y1⟩ := TpX.cells hW; go_simp; (try with_reducible rfl); done)); try simp only [Act.put, List.setIfInBounds_toArray, List.set_cons_zero, List.set_cons_succ]) | (refine wpMix_leave (by rfl) ?_; try simp only [Act.put, List.setIfInBounds_toArray, List.set_cons_zero, List.set_cons_succ])))
              refine wpMix_walk ?_
              go_wp2_with (go_at_call 13; (with_reducible refine useC HWK.out ?_); rintro e w7 ⟨v7, l7, gv7, rfl, -, hs, hw, -, hf, -⟩; obtain ⟨A7, o7, c7, rfl, -⟩ := strs_cell hs; have HS7 := Lib.hid (HS6.out.step ((Fr.refl [] w6).drew.trans hf)); have HL7 := Lib.hid hs; have HW7 := Lib.hid hw; have HX7 := Lib.hid HS7.out.box; clear hs hw hf)
              refine MixQ.mk (HX7.out) ?_
              refine wpMix_nil ?_
              have HXW := Lib.hid (m_Walk w7 _ _ _ _ T2 HS7.out.v (HS7.out.rf.bound HS7.out.tr.s.ok) (by have h1 := HS7.out.rf.few; have h2 := HS7.out.tr.s.many; omega))
              go_wp2_with (first
                | (go_at_call 14; (with_reducible refine useC HXW.out ?_); rintro e w8 ⟨v8, g8, l8, rfl, -, hs, hp, ho, hf⟩; obtain rfl := HS7.out.rf.walk HS7.out.tr.s.ok HW7.out hp ho; obtain ⟨A8, o8, c8, rfl, -⟩ := strs_cell hs; have HS8 := Lib.hid (HS7.out.step hf); have HTX := Lib.hid (texts_same w8 _ _ _ _ _ (slR_fr HL7.out hf) hs); clear hs hp ho hf)
                | (go_at_call 12; (with_reducible refine useC HTX.out ?_); rintro e w9 ⟨rfl, hf⟩; have HS9 := Lib.hid (HS8.out.step hf); clear hf))
              go_roundw
              case rel => exact ⟨i + 1, by omega, by omega, by go_num, _, _, _, _, _, _, _, _, _, HS9⟩
              case measure => (simp [intOf]; try omega)
            · have e100 : ((Pa.mk a).toList == [100]) = false := by rw [mk_toList]; exact beq_eq_false_iff_ne.2 ha
              have e102 : ((Pa.mk a).toList == [102]) = false := by rw [mk_toList]; exact beq_eq_false_iff_ne.2 ha2
              have e120 : ((Pa.mk a).toList == [120]) = false := by rw [mk_toList]; exact beq_eq_false_iff_ne.2 ha3
              have HDD : Hid (∀ W u0 u1 h0 h1, TpI w W tb (2 * i) g dom ns ths T X u0 u1 h0 h1 T (i + 1) → Calls Tryz.prog 11 #[.pointer (some ⟨tb, 0, none⟩), .slice (some ⟨gi, o2, none⟩) 2 c2] W (Rp (StepA w tb (2 * i) g dom T 0 (i + 1) W))) := fun W u0 u1 h0 h1 h => tp_did2 W tb _ (fun e w' h => ⟨_, h.1⟩) gi a s o2 c2 hcap2 (HC0.out W h.fr).1 (HC0.out W h.fr).2 (fun e => absurd e ha) (fun e => absurd e ha2) (fun e => absurd e ha3) (fun _ _ _ => StepA.none h.tr h.rf h.len)
              clear ha2 ha3
              obtain ⟨k0, k1⟩ := HC0.out wr hS.out.fr
              clear ha HARGS
              generalize Pa.mk a = ma at *
              generalize Pa.mk s = ms at *
              obtain ⟨w3, hw3⟩ : ∃ y, y = wr := ⟨_, rfl⟩
              subst hw3
              have HS3 := hS
              clear hS
              have HD3 := Lib.hid (HDD.out w3 _ _ _ _ HS3.out)
              clear HDD
              go_wp2_with (first
                | (go_at_call 11; (with_reducible refine useC HD3.out ?_); rintro e w5 ha; obtain ⟨rfl, g5, dom5, ns5, ths5, hs⟩ := HS3.out.turn ha; have HS5 := Lib.hid hs; have HEC := Lib.hid (error_yes 0 w5 (HE.out w5 hs.fr)); clear ha hs)
                | (go_at_call 10; (with_reducible refine useC HEC.out ?_); rintro e w6 ⟨rfl, hf⟩; have HS6 := Lib.hid (HS5.out.step hf); clear hf))
              have HWK := Lib.hid (trl_Walk (HS6.out.tr.step (Fr.refl [] w6).drew))
              (refine wp_region_mix ((TpX · X (.slice A0 T.nm.length c0) (.slice A1 T.dirs.length c1))) 3 [(true, 0), (true, 2), (false, 1)] (by kernel_rfl) (by kernel_rfl) ((Fr.refl [] w6).drew.get HS6.out.box (by simp)) ?_; simp only [pickOps, List.map_cons, List.map_nil, List.getD_cons_zero, List.getD_cons_succ, List.drop_succ_cons, List.drop_zero])
              (iterate 2 (first | (refine wpMix_take (v := ?_) (by rfl) ?_ ?_; rotate_left; (focus (intro W hW; obtain ⟨y0, y1⟩ := TpX.cells hW; go_simp; (try with_reducible rfl); done)); try simp only [Act.put, List.setIfInBounds_toArray, List.set_cons_zero, List.set_cons_succ]) | (refine wpMix_leave (by rfl) ?_; try simp only [Act.put, List.setIfInBounds_toArray, List.set_cons_zero, List.set_cons_succ])))
              refine wpMix_walk ?_
              go_wp2_with (go_at_call 13; (with_reducible refine useC HWK.out ?_); rintro e w7 ⟨v7, l7, gv7, rfl, -, hs, hw, -, hf, -⟩; obtain ⟨A7, o7, c7, rfl, -⟩ := strs_cell hs; have HS7 := Lib.hid (HS6.out.step ((Fr.refl [] w6).drew.trans hf)); have HL7 := Lib.hid hs; have HW7 := Lib.hid hw; have HX7 := Lib.hid HS7.out.box; clear hs hw hf)
              refine MixQ.mk (HX7.out) ?_
              refine wpMix_nil ?_
              have HXW := Lib.hid (m_Walk w7 _ _ _ _ T HS7.out.v (HS7.out.rf.bound HS7.out.tr.s.ok) (by have h1 := HS7.out.rf.few; have h2 := HS7.out.tr.s.many; omega))
              go_wp2_with (first
                | (go_at_call 14; (with_reducible refine useC HXW.out ?_); rintro e w8 ⟨v8, g8, l8, rfl, -, hs, hp, ho, hf⟩; obtain rfl := HS7.out.rf.walk HS7.out.tr.s.ok HW7.out hp ho; obtain ⟨A8, o8, c8, rfl, -⟩ := strs_cell hs; have HS8 := Lib.hid (HS7.out.step hf); have HTX := Lib.hid (texts_same w8 _ _ _ _ _ (slR_fr HL7.out hf) hs); clear hs hp ho hf)
                | (go_at_call 12; (with_reducible refine useC HTX.out ?_); rintro e w9 ⟨rfl, hf⟩; have HS9 := Lib.hid (HS8.out.step hf); clear hf))
              go_roundw
              case rel => exact ⟨i + 1, by omega, by omega, by go_num, _, _, _, _, _, _, _, _, _, HS9⟩
              case measure => (simp [intOf]; try omega)
      · have HK0 := hcc 0 (by simp)
        have HK1 := hcc 1 (by simp)
        have HK2 := hcc 2 (by simp)
        obtain rfl := hB (by simp)
        have HK0 : w.cell? ⟨gi, o2, none⟩ = some (.string (Pa.mk a)) := HK0
        have HK1 : w.cell? ⟨gi, o2 + 1, none⟩ = some (.string (Pa.mk s)) := HK1
        have HK2 : w.cell? ⟨gi, o2 + 2, none⟩ = some (.string (Pa.mk u2)) := HK2
        have HC0 := Lib.hid (fun W (hW : Fr [] w W) => And.intro (hW.cell HK0 (by simp)) (And.intro (hW.cell HK1 (by simp)) (hW.cell HK2 (by simp))))
        have hcap2 : 3 ≤ c2 := hcap2
        have q : wr.cell? ⟨gq, oq + i, none⟩ = some (.slice (some ⟨gi, o2, none⟩) 3 c2) := q
        clear hB hcc hs hu HK0 HK1 HK2 hm2
        by_cases ha : a = [108]
        · cases hat : atV g s with
          | err ce =>
            have e108 : ((Pa.mk a).toList == [108]) = true := by rw [mk_toList, ha]; rfl
            have e109 : ((Pa.mk a).toList == [109]) = false := by rw [mk_toList, ha]; rfl
            have hth := m_Thing wr.drew (.slice A0 T.nm.length c0) (.slice A1 T.dirs.length c1) g0 g1 T (hS.out.v.step (Fr.refl [] wr).drew) hS.out.rf hS.out.tr.s.ok (Pa.mk s)
            rw [Pa.mk_list, hat] at hth
            have hlt2 : linkT g ths T s u2 = T := by unfold linkT; rw [hat]
            have hle : Tr.linkErr g s u2 = ce := by unfold Tr.linkErr; rw [hat]
            have hst := fun W (h : TrL w W tb g dom (2 * i)) => step_link (n := i + 1) h (by omega) hS.out.rf hS.out.len s u2
            rw [hlt2, hle] at hst
            have hcz : (ce == 0) = false := beq_eq_false_iff_ne.2 (Tr.atV_err_ne hat)
            rw [thV_err] at hth
            have HTH := Lib.hid hth
            have HDD : Hid (∀ W u0 u1 h0 h1, TpI w W tb (2 * i) g dom ns ths T X u0 u1 h0 h1 (T) (i + 1) → Calls Tryz.prog 11 #[.pointer (some ⟨tb, 0, none⟩), .slice (some ⟨gi, o2, none⟩) 3 c2] W (Rp (StepA w tb (2 * i) g dom (T) (ce) (i + 1) W))) := fun W u0 u1 h0 h1 h => tp_did3 W tb _ (fun e w' h => ⟨_, h.1⟩) gi a s u2 o2 c2 hcap2 (HC0.out W h.fr).1 (HC0.out W h.fr).2.1 (HC0.out W h.fr).2.2 (fun _ => (hst W.drew (h.tr.step (Fr.refl [] W).drew)).mono fun _ _ h => h.drew) (fun e => absurd (ha.symm.trans e) (by decide)) (fun n0 n1 => absurd ha n0)
            clear hth hst hlt2 hle hat
            clear ha HARGS
            generalize Pa.mk a = ma at *
            generalize Pa.mk s = ms at *
            generalize Pa.mk u2 = mu at *
            obtain ⟨k0, k1, k2⟩ := HC0.out wr hS.out.fr
            have HSD := Lib.hid (hS.out.step (Fr.refl [] wr).drew)
            go_wp2_with fail
            (refine wp_region_mix (Fr [] w ·) 9 [(true, 1), (true, 2), (true, 3), (false, 0), (false, 4), (true, 5), (true, 6), (true, 7), (false, 8)] (by kernel_rfl) (by kernel_rfl) (hS.out.fr.drew) ?_; simp only [pickOps, List.map_cons, List.map_nil, List.getD_cons_zero, List.getD_cons_succ, List.drop_succ_cons, List.drop_zero])
            (iterate 3 (first | (refine wpMix_take (v := ?_) (by rfl) ?_ ?_; rotate_left; (focus (intro W hW; obtain ⟨k0, k1, k2⟩ := HC0.out W hW; go_simp; (try with_reducible rfl); done)); try simp only [Act.put, List.setIfInBounds_toArray, List.set_cons_zero, List.set_cons_succ]) | (refine wpMix_leave (by rfl) ?_; try simp only [Act.put, List.setIfInBounds_toArray, List.set_cons_zero, List.set_cons_succ])))
            refine wpMix_walk ?_
            go_wp2
            refine MixQ.mk (HSD.out.fr) ?_
            refine wpMix_walk ?_
            go_wp2_with (go_at_call 8; (with_reducible refine useC HTH.out ?_); rintro e w4 ⟨rfl, hf⟩; have HS4 := Lib.hid (HSD.out.step hf); clear hf)
            refine MixQ.mk (HS4.out.fr) ?_
            (iterate 3 (first | (refine wpMix_take (v := ?_) (by rfl) ?_ ?_; rotate_left; (focus (intro W hW; skip; go_simp; (try with_reducible rfl); done)); try simp only [Act.put, List.setIfInBounds_toArray, List.set_cons_zero, List.set_cons_succ]) | (refine wpMix_leave (by rfl) ?_; try simp only [Act.put, List.setIfInBounds_toArray, List.set_cons_zero, List.set_cons_succ])))
            refine wpMix_walk ?_
            go_wp2
            refine MixQ.mk (HS4.out.fr) ?_
            refine wpMix_nil ?_
            clear x0 x1 hfz HSD hS HTH
            obtain ⟨⟨x0, x1⟩, hfz⟩ := HS4.out.cells
            obtain ⟨w3, hw3⟩ : ∃ y, y = w4 := ⟨_, rfl⟩
            subst hw3
            have HS3 := HS4
            clear HS4 x0 x1 hfz k0 k1 k2
            obtain ⟨k0, k1, k2⟩ := HC0.out w3 HS3.out.fr
            have HD3 := Lib.hid (HDD.out w3 _ _ _ _ HS3.out)
            clear HDD
            go_wp2_with (first
              | (go_at_call 11; (with_reducible refine useC HD3.out ?_); rintro e w5 ha; obtain ⟨rfl, g5, dom5, ns5, ths5, hs⟩ := HS3.out.turn ha; have HS5 := Lib.hid hs; have HEC := Lib.hid (error_yes ce w5 (HE.out w5 hs.fr)); clear ha hs)
              | (go_at_call 10; (with_reducible refine useC HEC.out ?_); rintro e w6 ⟨rfl, hf⟩; have HS6 := Lib.hid (HS5.out.step hf); clear hf))
            have HWK := Lib.hid (trl_Walk (HS6.out.tr.step (Fr.refl [] w6).drew))
            (refine wp_region_mix ((TpX · X (.slice A0 T.nm.length c0) (.slice A1 T.dirs.length c1))) 3 [(true, 0), (true, 2), (false, 1)] (by kernel_rfl) (by kernel_rfl) ((Fr.refl [] w6).drew.get HS6.out.box (by simp)) ?_; simp only [pickOps, List.map_cons, List.map_nil, List.getD_cons_zero, List.getD_cons_succ, List.drop_succ_cons, List.drop_zero])
            (iterate 2 (first | (refine wpMix_take (v := ?_) (by rfl) ?_ ?_; rotate_left; (focus (intro W hW; obtain ⟨y0, y1⟩ := TpX.cells hW; go_simp; (try with_reducible rfl); done)); try simp only [Act.put, List.setIfInBounds_toArray, List.set_cons_zero, List.set_cons_succ]) | (refine wpMix_leave (by rfl) ?_; try simp only [Act.put, List.setIfInBounds_toArray, List.set_cons_zero, List.set_cons_succ])))
            refine wpMix_walk ?_
            go_wp2_with (go_at_call 13; (with_reducible refine useC HWK.out ?_); rintro e w7 ⟨v7, l7, gv7, rfl, -, hs, hw, -, hf, -⟩; obtain ⟨A7, o7, c7, rfl, -⟩ := strs_cell hs; have HS7 := Lib.hid (HS6.out.step ((Fr.refl [] w6).drew.trans hf)); have HL7 := Lib.hid hs; have HW7 := Lib.hid hw; have HX7 := Lib.hid HS7.out.box; clear hs hw hf)
            refine MixQ.mk (HX7.out) ?_
            refine wpMix_nil ?_
            have HXW := Lib.hid (m_Walk w7 _ _ _ _ T HS7.out.v (HS7.out.rf.bound HS7.out.tr.s.ok) (by have h1 := HS7.out.rf.few; have h2 := HS7.out.tr.s.many; omega))
            go_wp2_with (first
              | (go_at_call 14; (with_reducible refine useC HXW.out ?_); rintro e w8 ⟨v8, g8, l8, rfl, -, hs, hp, ho, hf⟩; obtain rfl := HS7.out.rf.walk HS7.out.tr.s.ok HW7.out hp ho; obtain ⟨A8, o8, c8, rfl, -⟩ := strs_cell hs; have HS8 := Lib.hid (HS7.out.step hf); have HTX := Lib.hid (texts_same w8 _ _ _ _ _ (slR_fr HL7.out hf) hs); clear hs hp ho hf)
              | (go_at_call 12; (with_reducible refine useC HTX.out ?_); rintro e w9 ⟨rfl, hf⟩; have HS9 := Lib.hid (HS8.out.step hf); clear hf))
            go_roundw
            case rel => exact ⟨i + 1, by omega, by omega, by go_num, _, _, _, _, _, _, _, _, _, HS9⟩
            case measure => (simp [intOf]; try omega)
          | ok nn =>
            by_cases hmb : (g.ent nn).isSome = true
            · have e108 : ((Pa.mk a).toList == [108]) = true := by rw [mk_toList, ha]; rfl
              have e109 : ((Pa.mk a).toList == [109]) = false := by rw [mk_toList, ha]; rfl
              have hth := m_Thing wr.drew (.slice A0 T.nm.length c0) (.slice A1 T.dirs.length c1) g0 g1 T (hS.out.v.step (Fr.refl [] wr).drew) hS.out.rf hS.out.tr.s.ok (Pa.mk s)
              rw [Pa.mk_list, hat] at hth
              have hlt2 : linkT g ths T s u2 = T := by unfold linkT; rw [hat]; exact if_pos hmb
              have hle : Tr.linkErr g s u2 = 3 := by unfold Tr.linkErr; rw [hat]; exact if_pos hmb
              have hst := fun W (h : TrL w W tb g dom (2 * i)) => step_link (n := i + 1) h (by omega) hS.out.rf hS.out.len s u2
              rw [hlt2, hle] at hst
              obtain ⟨pp, hpp, hfm⟩ := Tr.atV_path hat
              have hmt := hS.out.rf.thing hfm
              rw [thV_ok] at hth
              have HTH := Lib.hid hth
              have HDD : Hid (∀ W u0 u1 h0 h1, TpI w W tb (2 * i) g dom ns ths T X u0 u1 h0 h1 (T) (i + 1) → Calls Tryz.prog 11 #[.pointer (some ⟨tb, 0, none⟩), .slice (some ⟨gi, o2, none⟩) 3 c2] W (Rp (StepA w tb (2 * i) g dom (T) (3) (i + 1) W))) := fun W u0 u1 h0 h1 h => tp_did3 W tb _ (fun e w' h => ⟨_, h.1⟩) gi a s u2 o2 c2 hcap2 (HC0.out W h.fr).1 (HC0.out W h.fr).2.1 (HC0.out W h.fr).2.2 (fun _ => (hst W.drew (h.tr.step (Fr.refl [] W).drew)).mono fun _ _ h => h.drew) (fun e => absurd (ha.symm.trans e) (by decide)) (fun n0 n1 => absurd ha n0)
              clear hth hst hlt2 hle hat hpp hfm
              obtain ⟨hdi, hda⟩ := hS.out.rf.dirAt hmt
              generalize ths.idxOf nn = nx at *
              have dI : (nx : Int) < T.dirs.length := by omega
              have d0' : (0 : Int) ≤ nx := by omega
              obtain rfl := HA1.out (by omega)
              have HDC := HC1.out nx hdi
              rw [hda, hmb] at HDC
              have HDI := Lib.hid (fun W (hW : Fr [] wr W) => hW.cell HDC (by simp))
              clear HDC hda
              clear hmb hmt
              clear ha HARGS
              generalize Pa.mk a = ma at *
              generalize Pa.mk s = ms at *
              generalize Pa.mk u2 = mu at *
              obtain ⟨k0, k1, k2⟩ := HC0.out wr hS.out.fr
              have HSD := Lib.hid (hS.out.step (Fr.refl [] wr).drew)
              go_wp2_with fail
              (refine wp_region_mix (Fr [] w ·) 9 [(true, 1), (true, 2), (true, 3), (false, 0), (false, 4), (true, 5), (true, 6), (true, 7), (false, 8)] (by kernel_rfl) (by kernel_rfl) (hS.out.fr.drew) ?_; simp only [pickOps, List.map_cons, List.map_nil, List.getD_cons_zero, List.getD_cons_succ, List.drop_succ_cons, List.drop_zero])
              (iterate 3 (first | (refine wpMix_take (v := ?_) (by rfl) ?_ ?_; rotate_left; (focus (intro W hW; obtain ⟨k0, k1, k2⟩ := HC0.out W hW; go_simp; (try with_reducible rfl); done)); try simp only [Act.put, List.setIfInBounds_toArray, List.set_cons_zero, List.set_cons_succ]) | (refine wpMix_leave (by rfl) ?_; try simp only [Act.put, List.setIfInBounds_toArray, List.set_cons_zero, List.set_cons_succ])))
              refine wpMix_walk ?_
              go_wp2
              refine MixQ.mk (HSD.out.fr) ?_
              refine wpMix_walk ?_
              go_wp2_with (go_at_call 8; (with_reducible refine useC HTH.out ?_); rintro e w4 ⟨rfl, hf⟩; have HS4 := Lib.hid (HSD.out.step hf); have HF4 := Lib.hid hf; clear hf)
              refine MixQ.mk (HS4.out.fr) ?_
              (iterate 3 (first | (refine wpMix_take (v := ?_) (by rfl) ?_ ?_; rotate_left; (focus (intro W hW; skip; go_simp; (try with_reducible rfl); done)); try simp only [Act.put, List.setIfInBounds_toArray, List.set_cons_zero, List.set_cons_succ]) | (refine wpMix_leave (by rfl) ?_; try simp only [Act.put, List.setIfInBounds_toArray, List.set_cons_zero, List.set_cons_succ])))
              refine wpMix_walk ?_
              go_wp2
              refine MixQ.mk (HS4.out.fr) ?_
              refine wpMix_nil ?_
              clear x0 x1 hfz HSD hS HTH
              obtain ⟨⟨x0, x1⟩, hfz⟩ := HS4.out.cells
              have dc := HDI.out w4 ((Fr.refl [] wr).drew.trans HF4.out)
              obtain ⟨w3, hw3⟩ : ∃ y, y = w4 := ⟨_, rfl⟩
              subst hw3
              have HS3 := HS4
              clear HS4 k0 k1 k2
              obtain ⟨k0, k1, k2⟩ := HC0.out w3 HS3.out.fr
              have HD3 := Lib.hid (HDD.out w3 _ _ _ _ HS3.out)
              clear HDD
              go_wp2_with (first
                | (go_at_call 11; (with_reducible refine useC HD3.out ?_); rintro e w5 ha; obtain ⟨rfl, g5, dom5, ns5, ths5, hs⟩ := HS3.out.turn ha; have HS5 := Lib.hid hs; have HEC := Lib.hid (error_yes 3 w5 (HE.out w5 hs.fr)); clear ha hs)
                | (go_at_call 10; (with_reducible refine useC HEC.out ?_); rintro e w6 ⟨rfl, hf⟩; have HS6 := Lib.hid (HS5.out.step hf); clear hf))
              have HWK := Lib.hid (trl_Walk (HS6.out.tr.step (Fr.refl [] w6).drew))
              (refine wp_region_mix ((TpX · X (.slice A0 T.nm.length c0) (.slice (some ⟨g1, o1, none⟩) T.dirs.length c1))) 3 [(true, 0), (true, 2), (false, 1)] (by kernel_rfl) (by kernel_rfl) ((Fr.refl [] w6).drew.get HS6.out.box (by simp)) ?_; simp only [pickOps, List.map_cons, List.map_nil, List.getD_cons_zero, List.getD_cons_succ, List.drop_succ_cons, List.drop_zero])
              (iterate 2 (first | (refine wpMix_take (v := ?_) (by rfl) ?_ ?_; rotate_left; (focus (intro W hW; obtain ⟨y0, y1⟩ := TpX.cells hW; go_simp; (try with_reducible rfl); done)); try simp only [Act.put, List.setIfInBounds_toArray, List.set_cons_zero, List.set_cons_succ]) | (refine wpMix_leave (by rfl) ?_; try simp only [Act.put, List.setIfInBounds_toArray, List.set_cons_zero, List.set_cons_succ])))
              refine wpMix_walk ?_
              go_wp2_with (go_at_call 13; (with_reducible refine useC HWK.out ?_); rintro e w7 ⟨v7, l7, gv7, rfl, -, hs, hw, -, hf, -⟩; obtain ⟨A7, o7, c7, rfl, -⟩ := strs_cell hs; have HS7 := Lib.hid (HS6.out.step ((Fr.refl [] w6).drew.trans hf)); have HL7 := Lib.hid hs; have HW7 := Lib.hid hw; have HX7 := Lib.hid HS7.out.box; clear hs hw hf)
              refine MixQ.mk (HX7.out) ?_
              refine wpMix_nil ?_
              have HXW := Lib.hid (m_Walk w7 _ _ _ _ T HS7.out.v (HS7.out.rf.bound HS7.out.tr.s.ok) (by have h1 := HS7.out.rf.few; have h2 := HS7.out.tr.s.many; omega))
              go_wp2_with (first
                | (go_at_call 14; (with_reducible refine useC HXW.out ?_); rintro e w8 ⟨v8, g8, l8, rfl, -, hs, hp, ho, hf⟩; obtain rfl := HS7.out.rf.walk HS7.out.tr.s.ok HW7.out hp ho; obtain ⟨A8, o8, c8, rfl, -⟩ := strs_cell hs; have HS8 := Lib.hid (HS7.out.step hf); have HTX := Lib.hid (texts_same w8 _ _ _ _ _ (slR_fr HL7.out hf) hs); clear hs hp ho hf)
                | (go_at_call 12; (with_reducible refine useC HTX.out ?_); rintro e w9 ⟨rfl, hf⟩; have HS9 := Lib.hid (HS8.out.step hf); clear hf))
              go_roundw
              case rel => exact ⟨i + 1, by omega, by omega, by go_num, _, _, _, _, _, _, _, _, _, HS9⟩
              case measure => (simp [intOf]; try omega)
            · have e108 : ((Pa.mk a).toList == [108]) = true := by rw [mk_toList, ha]; rfl
              have e109 : ((Pa.mk a).toList == [109]) = false := by rw [mk_toList, ha]; rfl
              have hth := m_Thing wr.drew (.slice A0 T.nm.length c0) (.slice A1 T.dirs.length c1) g0 g1 T (hS.out.v.step (Fr.refl [] wr).drew) hS.out.rf hS.out.tr.s.ok (Pa.mk s)
              rw [Pa.mk_list, hat] at hth
              have hlt2 : linkT g ths T s u2 = addT g T u2 (ths.idxOf nn : Nat) false := by unfold linkT; rw [hat]; exact if_neg hmb
              have hle : Tr.linkErr g s u2 = Tr.addErr g u2 := by unfold Tr.linkErr; rw [hat]; exact if_neg hmb
              have hst := fun W (h : TrL w W tb g dom (2 * i)) => step_link (n := i + 1) h (by omega) hS.out.rf hS.out.len s u2
              rw [hlt2, hle] at hst
              obtain ⟨pp, hpp, hfm⟩ := Tr.atV_path hat
              have hmt := hS.out.rf.thing hfm
              rw [thV_ok] at hth
              have HTH := Lib.hid hth
              have HOPQ : Hid (∀ W, TpV W (.slice A0 T.nm.length c0) (.slice A1 T.dirs.length c1) g0 g1 T → Calls Tryz.prog 6 #[.agg #[.slice A0 T.nm.length c0, .slice A1 T.dirs.length c1], .string (Pa.mk u2), .int .i64 (ths.idxOf nn : Nat), .bool false] W (TpA g0 g1 (addT g T u2 (ths.idxOf nn : Nat) false) (Tr.addErr g u2) W)) := fun W hW => by
                have h := m_Add W (.slice A0 T.nm.length c0) (.slice A1 T.dirs.length c1) g0 g1 T hW hS.out.rf hS.out.tr.s.ok (Pa.mk u2) (ths.idxOf nn : Nat) (.inr ⟨_, rfl⟩) false HN24.out HD1.out
                rw [Pa.mk_list] at h
                exact h
              have HDD : Hid (∀ W u0 u1 h0 h1, TpI w W tb (2 * i) g dom ns ths T X u0 u1 h0 h1 (addT g T u2 (ths.idxOf nn : Nat) false) (i + 1) → Calls Tryz.prog 11 #[.pointer (some ⟨tb, 0, none⟩), .slice (some ⟨gi, o2, none⟩) 3 c2] W (Rp (StepA w tb (2 * i) g dom (addT g T u2 (ths.idxOf nn : Nat) false) (Tr.addErr g u2) (i + 1) W))) := fun W u0 u1 h0 h1 h => tp_did3 W tb _ (fun e w' h => ⟨_, h.1⟩) gi a s u2 o2 c2 hcap2 (HC0.out W h.fr).1 (HC0.out W h.fr).2.1 (HC0.out W h.fr).2.2 (fun _ => (hst W.drew (h.tr.step (Fr.refl [] W).drew)).mono fun _ _ h => h.drew) (fun e => absurd (ha.symm.trans e) (by decide)) (fun n0 n1 => absurd ha n0)
              clear hth hst hlt2 hle hat hpp hfm
              generalize addT g T u2 (ths.idxOf nn : Nat) false = T2 at *
              generalize Tr.addErr g u2 = ce at *
              have hmb : (g.ent nn).isSome = false := Bool.eq_false_iff.2 hmb
              obtain ⟨hdi, hda⟩ := hS.out.rf.dirAt hmt
              generalize ths.idxOf nn = nx at *
              have dI : (nx : Int) < T.dirs.length := by omega
              have d0' : (0 : Int) ≤ nx := by omega
              obtain rfl := HA1.out (by omega)
              have HDC := HC1.out nx hdi
              rw [hda, hmb] at HDC
              have HDI := Lib.hid (fun W (hW : Fr [] wr W) => hW.cell HDC (by simp))
              clear HDC hda
              clear hmb hmt
              clear ha HARGS
              generalize Pa.mk a = ma at *
              generalize Pa.mk s = ms at *
              generalize Pa.mk u2 = mu at *
              obtain ⟨k0, k1, k2⟩ := HC0.out wr hS.out.fr
              have HSD := Lib.hid (hS.out.step (Fr.refl [] wr).drew)
              go_wp2_with fail
              (refine wp_region_mix (Fr [] w ·) 9 [(true, 1), (true, 2), (true, 3), (false, 0), (false, 4), (true, 5), (true, 6), (true, 7), (false, 8)] (by kernel_rfl) (by kernel_rfl) (hS.out.fr.drew) ?_; simp only [pickOps, List.map_cons, List.map_nil, List.getD_cons_zero, List.getD_cons_succ, List.drop_succ_cons, List.drop_zero])
              (iterate 3 (first | (refine wpMix_take (v := ?_) (by rfl) ?_ ?_; rotate_left; (focus (intro W hW; obtain ⟨k0, k1, k2⟩ := HC0.out W hW; go_simp; (try with_reducible rfl); done)); try simp only [Act.put, List.setIfInBounds_toArray, List.set_cons_zero, List.set_cons_succ]) | (refine wpMix_leave (by rfl) ?_; try simp only [Act.put, List.setIfInBounds_toArray, List.set_cons_zero, List.set_cons_succ])))
              refine wpMix_walk ?_
              go_wp2
              refine MixQ.mk (HSD.out.fr) ?_
              refine wpMix_walk ?_
              go_wp2_with (go_at_call 8; (with_reducible refine useC HTH.out ?_); rintro e w4 ⟨rfl, hf⟩; have HS4 := Lib.hid (HSD.out.step hf); have HF4 := Lib.hid hf; clear hf)
              refine MixQ.mk (HS4.out.fr) ?_
              (iterate 3 (first | (refine wpMix_take (v := ?_) (by rfl) ?_ ?_; rotate_left; (focus (intro W hW; skip; go_simp; (try with_reducible rfl); done)); try simp only [Act.put, List.setIfInBounds_toArray, List.set_cons_zero, List.set_cons_succ]) | (refine wpMix_leave (by rfl) ?_; try simp only [Act.put, List.setIfInBounds_toArray, List.set_cons_zero, List.set_cons_succ])))
              refine wpMix_walk ?_
              go_wp2
              refine MixQ.mk (HS4.out.fr) ?_
              refine wpMix_nil ?_
              clear x0 x1 hfz HSD hS HTH
              obtain ⟨⟨x0, x1⟩, hfz⟩ := HS4.out.cells
              have dc := HDI.out w4 ((Fr.refl [] wr).drew.trans HF4.out)
              clear k0 k1 k2
              obtain ⟨k0, k1, k2⟩ := HC0.out w4 HS4.out.fr
              have HSD := Lib.hid (HS4.out.step (Fr.refl [] w4).drew)
              have HOP := Lib.hid (HOPQ.out w4.drew HSD.out.v)
              have hS := HS4
              go_wp2_with fail
              (refine wp_region_mix (Fr [] w ·) 10 [(true, 1), (true, 2), (true, 3), (true, 4), (false, 0), (false, 5), (true, 6), (true, 7), (true, 8), (false, 9)] (by kernel_rfl) (by kernel_rfl) (HS4.out.fr.drew) ?_; simp only [pickOps, List.map_cons, List.map_nil, List.getD_cons_zero, List.getD_cons_succ, List.drop_succ_cons, List.drop_zero])
              (iterate 4 (first | (refine wpMix_take (v := ?_) (by rfl) ?_ ?_; rotate_left; (focus (intro W hW; obtain ⟨k0, k1, k2⟩ := HC0.out W hW; go_simp; (try with_reducible rfl); done)); try simp only [Act.put, List.setIfInBounds_toArray, List.set_cons_zero, List.set_cons_succ]) | (refine wpMix_leave (by rfl) ?_; try simp only [Act.put, List.setIfInBounds_toArray, List.set_cons_zero, List.set_cons_succ])))
              refine wpMix_walk ?_
              go_wp2
              refine MixQ.mk (HSD.out.fr) ?_
              refine wpMix_walk ?_
              go_wp2_with (go_at_call 6; (with_reducible refine useC HOP.out ?_); rintro e w2 ⟨u0, u1, h0, h1, rfl, hv, ha, hb, hf⟩; obtain ⟨B0, p0, d0, rfl, hz0, -⟩ := nm_cells hv.nm; obtain ⟨B1, p1, d1, rfl, hz1, -⟩ := bo_cells hv.dirs; have HS2 := Lib.hid (HSD.out.step hf); have HS3 := Lib.hid (HSD.out.put hv ha hb hf HS01.out.1 HS01.out.2); clear hv ha hb hf)
              refine MixQ.mk (HS2.out.fr) ?_
              (iterate 3 (first | (refine wpMix_take (v := ?_) (by rfl) ?_ ?_; rotate_left; (focus (intro W hW; skip; go_simp; (try with_reducible rfl); done)); try simp only [Act.put, List.setIfInBounds_toArray, List.set_cons_zero, List.set_cons_succ]) | (refine wpMix_leave (by rfl) ?_; try simp only [Act.put, List.setIfInBounds_toArray, List.set_cons_zero, List.set_cons_succ])))
              refine wpMix_walk ?_
              clear x0 x1 hfz
              obtain ⟨⟨x0, x1⟩, hfz⟩ := HS2.out.cells
              go_wp2
              refine MixQ.mk (HS3.out.fr) ?_
              refine wpMix_nil ?_
              clear x0 x1 hfz HOP HS2 HSD hS
              generalize ((w2.setCell ⟨X, 0, none⟩ (.slice B0 T2.nm.length d0)).setCell ⟨X, 1, none⟩ (.slice B1 T2.dirs.length d1)) = w3 at *
              clear k0 k1 k2
              obtain ⟨k0, k1, k2⟩ := HC0.out w3 HS3.out.fr
              clear dc HS4
              have HD3 := Lib.hid (HDD.out w3 _ _ _ _ HS3.out)
              clear HDD
              go_wp2_with (first
                | (go_at_call 11; (with_reducible refine useC HD3.out ?_); rintro e w5 ha; obtain ⟨rfl, g5, dom5, ns5, ths5, hs⟩ := HS3.out.turn ha; have HS5 := Lib.hid hs; have HEC := Lib.hid (error_yes ce w5 (HE.out w5 hs.fr)); clear ha hs)
                | (go_at_call 10; (with_reducible refine useC HEC.out ?_); rintro e w6 ⟨rfl, hf⟩; have HS6 := Lib.hid (HS5.out.step hf); clear hf))
              have HWK := Lib.hid (trl_Walk (HS6.out.tr.step (Fr.refl [] w6).drew))
              (refine wp_region_mix ((TpX · X (.slice B0 T2.nm.length d0) (.slice B1 T2.dirs.length d1))) 3 [(true, 0), (true, 2), (false, 1)] (by kernel_rfl) (by kernel_rfl) ((Fr.refl [] w6).drew.get HS6.out.box (by simp)) ?_; simp only [pickOps, List.map_cons, List.map_nil, List.getD_cons_zero, List.getD_cons_succ, List.drop_succ_cons, List.drop_zero])
              (iterate 2 (first | (refine wpMix_take (v := ?_) (by rfl) ?_ ?_; rotate_left; (focus (intro W hW; obtain ⟨y0, y1⟩ := TpX.cells hW; go_simp; (try with_reducible rfl); done)); try simp only [Act.put, List.setIfInBounds_toArray, List.set_cons_zero, List.set_cons_succ]) | (refine wpMix_leave (by rfl) ?_; try simp only [Act.put, List.setIfInBounds_toArray, List.set_cons_zero, List.set_cons_succ])))
              refine wpMix_walk ?_
              go_wp2_with (go_at_call 13; (with_reducible refine useC HWK.out ?_); rintro e w7 ⟨v7, l7, gv7, rfl, -, hs, hw, -, hf, -⟩; obtain ⟨A7, o7, c7, rfl, -⟩ := strs_cell hs; have HS7 := Lib.hid (HS6.out.step ((Fr.refl [] w6).drew.trans hf)); have HL7 := Lib.hid hs; have HW7 := Lib.hid hw; have HX7 := Lib.hid HS7.out.box; clear hs hw hf)
              refine MixQ.mk (HX7.out) ?_
              refine wpMix_nil ?_
              have HXW := Lib.hid (m_Walk w7 _ _ _ _ T2 HS7.out.v (HS7.out.rf.bound HS7.out.tr.s.ok) (by have h1 := HS7.out.rf.few; have h2 := HS7.out.tr.s.many; omega))
              go_wp2_with (first
                | (go_at_call 14; (with_reducible refine useC HXW.out ?_); rintro e w8 ⟨v8, g8, l8, rfl, -, hs, hp, ho, hf⟩; obtain rfl := HS7.out.rf.walk HS7.out.tr.s.ok HW7.out hp ho; obtain ⟨A8, o8, c8, rfl, -⟩ := strs_cell hs; have HS8 := Lib.hid (HS7.out.step hf); have HTX := Lib.hid (texts_same w8 _ _ _ _ _ (slR_fr HL7.out hf) hs); clear hs hp ho hf)
                | (go_at_call 12; (with_reducible refine useC HTX.out ?_); rintro e w9 ⟨rfl, hf⟩; have HS9 := Lib.hid (HS8.out.step hf); clear hf))
              go_roundw
              case rel => exact ⟨i + 1, by omega, by omega, by go_num, _, _, _, _, _, _, _, _, _, HS9⟩
              case measure => (simp [intOf]; try omega)
        · by_cases ha2 : a = [109]
          · clear ha
            have ha := ha2
            clear ha2
            have e108 : ((Pa.mk a).toList == [108]) = false := by rw [mk_toList, ha]; rfl
            have e109 : ((Pa.mk a).toList == [109]) = true := by rw [mk_toList, ha]; rfl
            have hop := m_Move wr.drew (.slice A0 T.nm.length c0) (.slice A1 T.dirs.length c1) g0 g1 T (hS.out.v.step (Fr.refl [] wr).drew) hS.out.rf hS.out.tr.s.ok (Pa.mk s) (Pa.mk u2) HN24.out (fun e he => (HBN.out e he).2)
            rw [Pa.mk_list, Pa.mk_list] at hop
            have HOP := Lib.hid hop
            clear hop
            have HDD : Hid (∀ W u0 u1 h0 h1, TpI w W tb (2 * i) g dom ns ths T X u0 u1 h0 h1 (moveT g T s u2) (i + 1) → Calls Tryz.prog 11 #[.pointer (some ⟨tb, 0, none⟩), .slice (some ⟨gi, o2, none⟩) 3 c2] W (Rp (StepA w tb (2 * i) g dom (moveT g T s u2) (Tr.moveErr g s u2) (i + 1) W))) := fun W u0 u1 h0 h1 h => tp_did3 W tb _ (fun e w' h => ⟨_, h.1⟩) gi a s u2 o2 c2 hcap2 (HC0.out W h.fr).1 (HC0.out W h.fr).2.1 (HC0.out W h.fr).2.2 (fun e => absurd (ha.symm.trans e) (by decide)) (fun _ => (step_move (h.tr.step (Fr.refl [] W).drew) (by omega) h.rf h.len s u2).mono fun _ _ h => h.drew) (fun n0 n1 => absurd ha n1)
            clear ha HARGS
            generalize Pa.mk a = ma at *
            generalize Pa.mk s = ms at *
            generalize Pa.mk u2 = mu at *
            generalize moveT g T s u2 = T2 at *
            generalize Tr.moveErr g s u2 = ce at *
            obtain ⟨k0, k1, k2⟩ := HC0.out wr hS.out.fr
            have HSD := Lib.hid (hS.out.step (Fr.refl [] wr).drew)
            go_wp2_with fail
            (refine wp_region_mix (Fr [] w ·) 12 [(true, 1), (true, 2), (true, 3), (true, 4), (true, 5), (true, 6), (false, 0), (false, 7), (true, 8), (true, 9), (true, 10), (false, 11)] (by kernel_rfl) (by kernel_rfl) (hS.out.fr.drew) ?_; simp only [pickOps, List.map_cons, List.map_nil, List.getD_cons_zero, List.getD_cons_succ, List.drop_succ_cons, List.drop_zero])
            (iterate 6 (first | (refine wpMix_take (v := ?_) (by rfl) ?_ ?_; rotate_left; (focus (intro W hW; obtain ⟨k0, k1, k2⟩ := HC0.out W hW; go_simp; (try with_reducible rfl); done)); try simp only [Act.put, List.setIfInBounds_toArray, List.set_cons_zero, List.set_cons_succ]) | (refine wpMix_leave (by rfl) ?_; try simp only [Act.put, List.setIfInBounds_toArray, List.set_cons_zero, List.set_cons_succ])))
            refine wpMix_walk ?_
            go_wp2
            refine MixQ.mk (HSD.out.fr) ?_
            refine wpMix_walk ?_
            go_wp2_with (go_at_call 9; (with_reducible refine useC HOP.out ?_); rintro e w2 ⟨u0, u1, h0, h1, rfl, hv, ha, hb, hf⟩; obtain ⟨B0, p0, d0, rfl, hz0, -⟩ := nm_cells hv.nm; obtain ⟨B1, p1, d1, rfl, hz1, -⟩ := bo_cells hv.dirs; have HS2 := Lib.hid (HSD.out.step hf); have HS3 := Lib.hid (HSD.out.put hv ha hb hf HS01.out.1 HS01.out.2); clear hv ha hb hf)
            refine MixQ.mk (HS2.out.fr) ?_
            (iterate 3 (first | (refine wpMix_take (v := ?_) (by rfl) ?_ ?_; rotate_left; (focus (intro W hW; skip; go_simp; (try with_reducible rfl); done)); try simp only [Act.put, List.setIfInBounds_toArray, List.set_cons_zero, List.set_cons_succ]) | (refine wpMix_leave (by rfl) ?_; try simp only [Act.put, List.setIfInBounds_toArray, List.set_cons_zero, List.set_cons_succ])))
            refine wpMix_walk ?_
            clear x0 x1 hfz
            obtain ⟨⟨x0, x1⟩, hfz⟩ := HS2.out.cells
            go_wp2
            refine MixQ.mk (HS3.out.fr) ?_
            refine wpMix_nil ?_
            clear x0 x1 hfz HOP HS2 HSD hS
            generalize ((w2.setCell ⟨X, 0, none⟩ (.slice B0 T2.nm.length d0)).setCell ⟨X, 1, none⟩ (.slice B1 T2.dirs.length d1)) = w3 at *
            clear k0 k1 k2
            obtain ⟨k0, k1, k2⟩ := HC0.out w3 HS3.out.fr
            have HD3 := Lib.hid (HDD.out w3 _ _ _ _ HS3.out)
            clear HDD
            go_wp2_with (first
              | (go_at_call 11; (with_reducible refine useC HD3.out ?_); rintro e w5 ha; obtain ⟨rfl, g5, dom5, ns5, ths5, hs⟩ := HS3.out.turn ha; have HS5 := Lib.hid hs; have HEC := Lib.hid (error_yes ce w5 (HE.out w5 hs.fr)); clear ha hs)
              | (go_at_call 10; (with_reducible refine useC HEC.out ?_); rintro e w6 ⟨rfl, hf⟩; have HS6 := Lib.hid (HS5.out.step hf); clear hf))
            have HWK := Lib.hid (trl_Walk (HS6.out.tr.step (Fr.refl [] w6).drew))
            (refine wp_region_mix ((TpX · X (.slice B0 T2.nm.length d0) (.slice B1 T2.dirs.length d1))) 3 [(true, 0), (true, 2), (false, 1)] (by kernel_rfl) (by kernel_rfl) ((Fr.refl [] w6).drew.get HS6.out.box (by simp)) ?_; simp only [pickOps, List.map_cons, List.map_nil, List.getD_cons_zero, List.getD_cons_succ, List.drop_succ_cons, List.drop_zero])
            (iterate 2 (first | (refine wpMix_take (v := ?_) (by rfl) ?_ ?_; rotate_left; (focus (intro W hW; obtain ⟨y0, y1⟩ := TpX.cells hW; go_simp; (try with_reducible rfl); done)); try simp only [Act.put, List.setIfInBounds_toArray, List.set_cons_zero, List.set_cons_succ]) | (refine wpMix_leave (by rfl) ?_; try simp only [Act.put, List.setIfInBounds_toArray, List.set_cons_zero, List.set_cons_succ])))
            refine wpMix_walk ?_
            go_wp2_with (go_at_call 13; (with_reducible refine useC HWK.out ?_); rintro e w7 ⟨v7, l7, gv7, rfl, -, hs, hw, -, hf, -⟩; obtain ⟨A7, o7, c7, rfl, -⟩ := strs_cell hs; have HS7 := Lib.hid (HS6.out.step ((Fr.refl [] w6).drew.trans hf)); have HL7 := Lib.hid hs; have HW7 := Lib.hid hw; have HX7 := Lib.hid HS7.out.box; clear hs hw hf)
            refine MixQ.mk (HX7.out) ?_
            refine wpMix_nil ?_
            have HXW := Lib.hid (m_Walk w7 _ _ _ _ T2 HS7.out.v (HS7.out.rf.bound HS7.out.tr.s.ok) (by have h1 := HS7.out.rf.few; have h2 := HS7.out.tr.s.many; omega))
            go_wp2_with (first
              | (go_at_call 14; (with_reducible refine useC HXW.out ?_); rintro e w8 ⟨v8, g8, l8, rfl, -, hs, hp, ho, hf⟩; obtain rfl := HS7.out.rf.walk HS7.out.tr.s.ok HW7.out hp ho; obtain ⟨A8, o8, c8, rfl, -⟩ := strs_cell hs; have HS8 := Lib.hid (HS7.out.step hf); have HTX := Lib.hid (texts_same w8 _ _ _ _ _ (slR_fr HL7.out hf) hs); clear hs hp ho hf)
              | (go_at_call 12; (with_reducible refine useC HTX.out ?_); rintro e w9 ⟨rfl, hf⟩; have HS9 := Lib.hid (HS8.out.step hf); clear hf))
            go_roundw
            case rel => exact ⟨i + 1, by omega, by omega, by go_num, _, _, _, _, _, _, _, _, _, HS9⟩
            case measure => (simp [intOf]; try omega)
          · have e108 : ((Pa.mk a).toList == [108]) = false := by rw [mk_toList]; exact beq_eq_false_iff_ne.2 ha
            have e109 : ((Pa.mk a).toList == [109]) = false := by rw [mk_toList]; exact beq_eq_false_iff_ne.2 ha2
            have HDD : Hid (∀ W u0 u1 h0 h1, TpI w W tb (2 * i) g dom ns ths T X u0 u1 h0 h1 T (i + 1) → Calls Tryz.prog 11 #[.pointer (some ⟨tb, 0, none⟩), .slice (some ⟨gi, o2, none⟩) 3 c2] W (Rp (StepA w tb (2 * i) g dom T 0 (i + 1) W))) := fun W u0 u1 h0 h1 h => tp_did3 W tb _ (fun e w' h => ⟨_, h.1⟩) gi a s u2 o2 c2 hcap2 (HC0.out W h.fr).1 (HC0.out W h.fr).2.1 (HC0.out W h.fr).2.2 (fun e => absurd e ha) (fun e => absurd e ha2) (fun _ _ => StepA.none h.tr h.rf h.len)
            clear ha2
            obtain ⟨k0, k1, k2⟩ := HC0.out wr hS.out.fr
            clear ha HARGS
            generalize Pa.mk a = ma at *
            generalize Pa.mk s = ms at *
            generalize Pa.mk u2 = mu at *
            obtain ⟨w3, hw3⟩ : ∃ y, y = wr := ⟨_, rfl⟩
            subst hw3
            have HS3 := hS
            clear hS
            have HD3 := Lib.hid (HDD.out w3 _ _ _ _ HS3.out)
            clear HDD
            go_wp2_with (first
              | (go_at_call 11; (with_reducible refine useC HD3.out ?_); rintro e w5 ha; obtain ⟨rfl, g5, dom5, ns5, ths5, hs⟩ := HS3.out.turn ha; have HS5 := Lib.hid hs; have HEC := Lib.hid (error_yes 0 w5 (HE.out w5 hs.fr)); clear ha hs)
              | (go_at_call 10; (with_reducible refine useC HEC.out ?_); rintro e w6 ⟨rfl, hf⟩; have HS6 := Lib.hid (HS5.out.step hf); clear hf))
            have HWK := Lib.hid (trl_Walk (HS6.out.tr.step (Fr.refl [] w6).drew))
            (refine wp_region_mix ((TpX · X (.slice A0 T.nm.length c0) (.slice A1 T.dirs.length c1))) 3 [(true, 0), (true, 2), (false, 1)] (by kernel_rfl) (by kernel_rfl) ((Fr.refl [] w6).drew.get HS6.out.box (by simp)) ?_; simp only [pickOps, List.map_cons, List.map_nil, List.getD_cons_zero, List.getD_cons_succ, List.drop_succ_cons, List.drop_zero])
            (iterate 2 (first | (refine wpMix_take (v := ?_) (by rfl) ?_ ?_; rotate_left; (focus (intro W hW; obtain ⟨y0, y1⟩ := TpX.cells hW; go_simp; (try with_reducible rfl); done)); try simp only [Act.put, List.setIfInBounds_toArray, List.set_cons_zero, List.set_cons_succ]) | (refine wpMix_leave (by rfl) ?_; try simp only [Act.put, List.setIfInBounds_toArray, List.set_cons_zero, List.set_cons_succ])))
            refine wpMix_walk ?_
            go_wp2_with (go_at_call 13; (with_reducible refine useC HWK.out ?_); rintro e w7 ⟨v7, l7, gv7, rfl, -, hs, hw, -, hf, -⟩; obtain ⟨A7, o7, c7, rfl, -⟩ := strs_cell hs; have HS7 := Lib.hid (HS6.out.step ((Fr.refl [] w6).drew.trans hf)); have HL7 := Lib.hid hs; have HW7 := Lib.hid hw; have HX7 := Lib.hid HS7.out.box; clear hs hw hf)
            refine MixQ.mk (HX7.out) ?_
            refine wpMix_nil ?_
            have HXW := Lib.hid (m_Walk w7 _ _ _ _ T HS7.out.v (HS7.out.rf.bound HS7.out.tr.s.ok) (by have h1 := HS7.out.rf.few; have h2 := HS7.out.tr.s.many; omega))
            go_wp2_with (first
              | (go_at_call 14; (with_reducible refine useC HXW.out ?_); rintro e w8 ⟨v8, g8, l8, rfl, -, hs, hp, ho, hf⟩; obtain rfl := HS7.out.rf.walk HS7.out.tr.s.ok HW7.out hp ho; obtain ⟨A8, o8, c8, rfl, -⟩ := strs_cell hs; have HS8 := Lib.hid (HS7.out.step hf); have HTX := Lib.hid (texts_same w8 _ _ _ _ _ (slR_fr HL7.out hf) hs); clear hs hp ho hf)
              | (go_at_call 12; (with_reducible refine useC HTX.out ?_); rintro e w9 ⟨rfl, hf⟩; have HS9 := Lib.hid (HS8.out.step hf); clear hf))
            go_roundw
            case rel => exact ⟨i + 1, by omega, by omega, by go_num, _, _, _, _, _, _, _, _, _, HS9⟩
            case measure => (simp [intOf]; try omega)
      · obtain ⟨N, hN⟩ : ∃ N, x.length = N := ⟨_, rfl⟩
        rw [hN] at n2 n3 q hm2
        have f2 : ((N : Int) == 2) = false := beq_eq_false_iff_ne.2 (by omega)
        have f3 : ((N : Int) == 3) = false := beq_eq_false_iff_ne.2 (by omega)
        have HDD : Hid (∀ W u0 u1 h0 h1, TpI w W tb (2 * i) g dom ns ths T X u0 u1 h0 h1 T (i + 1) → Calls Tryz.prog 11 #[.pointer (some ⟨tb, 0, none⟩), .slice B N c2] W (Rp (StepA w tb (2 * i) g dom T 0 (i + 1) W))) := fun W u0 u1 h0 h1 h => tp_didn W tb _ B N c2 hm2 n2 n3 (StepA.none h.tr h.rf h.len)
        clear hB hcc hs hu hN n2 n3 hcap2 HARGS
        obtain ⟨w3, hw3⟩ : ∃ y, y = wr := ⟨_, rfl⟩
        subst hw3
        have HS3 := hS
        clear hS
        have HD3 := Lib.hid (HDD.out w3 _ _ _ _ HS3.out)
        clear HDD
        go_wp2_with (first
          | (go_at_call 11; (with_reducible refine useC HD3.out ?_); rintro e w5 ha; obtain ⟨rfl, g5, dom5, ns5, ths5, hs⟩ := HS3.out.turn ha; have HS5 := Lib.hid hs; have HEC := Lib.hid (error_yes 0 w5 (HE.out w5 hs.fr)); clear ha hs)
          | (go_at_call 10; (with_reducible refine useC HEC.out ?_); rintro e w6 ⟨rfl, hf⟩; have HS6 := Lib.hid (HS5.out.step hf); clear hf))
        have HWK := Lib.hid (trl_Walk (HS6.out.tr.step (Fr.refl [] w6).drew))
        (refine wp_region_mix ((TpX · X (.slice A0 T.nm.length c0) (.slice A1 T.dirs.length c1))) 3 [(true, 0), (true, 2), (false, 1)] (by kernel_rfl) (by kernel_rfl) ((Fr.refl [] w6).drew.get HS6.out.box (by simp)) ?_; simp only [pickOps, List.map_cons, List.map_nil, List.getD_cons_zero, List.getD_cons_succ, List.drop_succ_cons, List.drop_zero])
        (iterate 2 (first | (refine wpMix_take (v := ?_) (by rfl) ?_ ?_; rotate_left; (focus (intro W hW; obtain ⟨y0, y1⟩ := TpX.cells hW; go_simp; (try with_reducible rfl); done)); try simp only [Act.put, List.setIfInBounds_toArray, List.set_cons_zero, List.set_cons_succ]) | (refine wpMix_leave (by rfl) ?_; try simp only [Act.put, List.setIfInBounds_toArray, List.set_cons_zero, List.set_cons_succ])))
        refine wpMix_walk ?_
        go_wp2_with (go_at_call 13; (with_reducible refine useC HWK.out ?_); rintro e w7 ⟨v7, l7, gv7, rfl, -, hs, hw, -, hf, -⟩; obtain ⟨A7, o7, c7, rfl, -⟩ := strs_cell hs; have HS7 := Lib.hid (HS6.out.step ((Fr.refl [] w6).drew.trans hf)); have HL7 := Lib.hid hs; have HW7 := Lib.hid hw; have HX7 := Lib.hid HS7.out.box; clear hs hw hf)
        refine MixQ.mk (HX7.out) ?_
        refine wpMix_nil ?_
        have HXW := Lib.hid (m_Walk w7 _ _ _ _ T HS7.out.v (HS7.out.rf.bound HS7.out.tr.s.ok) (by have h1 := HS7.out.rf.few; have h2 := HS7.out.tr.s.many; omega))
        go_wp2_with (first
          | (go_at_call 14; (with_reducible refine useC HXW.out ?_); rintro e w8 ⟨v8, g8, l8, rfl, -, hs, hp, ho, hf⟩; obtain rfl := HS7.out.rf.walk HS7.out.tr.s.ok HW7.out hp ho; obtain ⟨A8, o8, c8, rfl, -⟩ := strs_cell hs; have HS8 := Lib.hid (HS7.out.step hf); have HTX := Lib.hid (texts_same w8 _ _ _ _ _ (slR_fr HL7.out hf) hs); clear hs hp ho hf)
          | (go_at_call 12; (with_reducible refine useC HTX.out ?_); rintro e w9 ⟨rfl, hf⟩; have HS9 := Lib.hid (HS8.out.step hf); clear hf))
        go_roundw
        case rel => exact ⟨i + 1, by omega, by omega, by go_num, _, _, _, _, _, _, _, _, _, HS9⟩
        case measure => (simp [intOf]; try omega)
    · have hstop : (¬ (i : Int) < ls.length ∧ True) ∨ ((i : Int) < ls.length ∧ ¬ (i : Int) < 40) := by
        by_cases h : i < ls.length
        · exact .inr ⟨by omega, by omega⟩
        · exact .inl ⟨by omega, trivial⟩
      clear hlt
      obtain ⟨⟨x0, x1⟩, -⟩ := hS.out.cells
      rcases hstop with ⟨j1, -⟩ | ⟨j1, j2⟩
      all_goals
        cases hat : atV g ask.data.toList with
        | err ce =>
          have HTH : Hid (∀ W, Fr [] wr W → Calls Tryz.prog 8 #[.agg #[.slice A0 T.nm.length c0, .slice A1 T.dirs.length c1], .string ask] W fun e w' => e = .returned (.tuple #[.int .i64 0, .int .i64 ce]) ∧ Fr [] W w') := Lib.hid (fun W hW => by
            have h := m_Thing W (.slice A0 T.nm.length c0) (.slice A1 T.dirs.length c1) g0 g1 T (hS.out.v.step hW) hS.out.rf hS.out.tr.s.ok ask
            rw [hat] at h
            exact h)
          have HNM : Hid (∀ W, Fr [] wr W → Calls Tryz.prog 16 #[.pointer (some ⟨tb, 0, none⟩), .string ask] W fun e w' => e = .returned (.tuple #[.int .i64 0, errV ce]) ∧ Fr [] W w') := fun W hW => (trl_Names (hS.out.tr.step hW) ask).mono fun e w' ⟨he, _, hf⟩ => ⟨by rw [he]; unfold namesV; rw [hat], hf⟩
          have HER : Hid (∀ W, Fr [] wr W → Calls Tryz.prog 10 #[errV ce, .int .i64 ce] W (OkT W)) := fun W hW => error_yes ce W (HE.out W (hS.out.fr.trans hW))
          have HLS : Hid (∀ W, Fr [] wr W → Calls Tryz.prog 20 #[.pointer (some ⟨tb, 0, none⟩), .string ask] W fun e w' => e = .returned (.tuple #[.slice none 0 0, errV ce]) ∧ Fr [] W w') := fun W hW => (trl_List (hS.out.tr.step hW) (by omega) ask).mono fun e w' ⟨ha, _⟩ => ⟨by have h := ha.2; rw [hat] at h; exact h, ha.1⟩
          have HER2 : Hid (∀ W, Fr [] wr W → Calls Tryz.prog 10 #[errV ce, .int .i64 ce] W (OkT W)) := fun W hW => error_yes ce W (HE.out W (hS.out.fr.trans hW))
          have HTX : Hid (∀ W, Calls Tryz.prog 12 #[.slice none 0 0, .slice none 0 0] W (OkT W)) := fun W => texts_same W _ _ 0 0 [] (.inl ⟨rfl, _, _, rfl⟩) (.inl ⟨rfl, _, _, rfl⟩)
          have hcz : (ce == 0) = false := beq_eq_false_iff_ne.2 (Tr.atV_err_ne hat)
          clear hat
          go_wp2_with (first
            | (go_at_call 8; (with_reducible refine useC (HTH.out wr (Fr.refl _ _)) ?_); rintro e w7 ⟨rfl, hf⟩; have HF7 := Lib.hid hf; clear hf x0 x1)
            | (go_at_call 16; (with_reducible refine useC (HNM.out w7 HF7.out) ?_); rintro e w8 ⟨rfl, hf⟩; have HF8 := Lib.hid (HF7.out.trans hf); clear hf)
            | (go_at_call 10; (with_reducible refine useC (HER.out w8 HF8.out) ?_); rintro e w9 ⟨rfl, hf⟩; have HF9 := Lib.hid (HF8.out.trans hf); clear hf)
            | (go_at_call 20; (with_reducible refine useC (HLS.out _ HF9.out) ?_); rintro e w10 ⟨rfl, hf⟩; have HF10 := Lib.hid (HF9.out.trans hf); clear hf)
            | (go_at_call 10; (with_reducible refine useC (HER2.out w10 HF10.out) ?_); rintro e w11 ⟨rfl, hf⟩; have HF11 := Lib.hid (HF10.out.trans hf); clear hf)
            | (go_at_call 12; (with_reducible refine useC (HTX.out w11) ?_); rintro e w12 ⟨rfl, hf⟩; have HF12 := Lib.hid (HF11.out.trans hf); clear hf))
          go_ret
          exact ⟨rfl, hS.out.fr.trans HF12.out⟩
        | ok nn =>
          by_cases hmb : (g.ent nn).isSome = true
          · obtain ⟨mm, hmm⟩ := Option.isSome_iff_exists.1 hmb
            obtain ⟨pp, hpp, hfm⟩ := Tr.atV_path hat
            have hmt := hS.out.rf.thing hfm
            have HTH : Hid (∀ W, Fr [] wr W → Calls Tryz.prog 8 #[.agg #[.slice A0 T.nm.length c0, .slice A1 T.dirs.length c1], .string ask] W fun e w' => e = .returned (.tuple #[.int .i64 (ths.idxOf nn : Nat), .int .i64 0]) ∧ Fr [] W w') := Lib.hid (fun W hW => by
              have h := m_Thing W (.slice A0 T.nm.length c0) (.slice A1 T.dirs.length c1) g0 g1 T (hS.out.v.step hW) hS.out.rf hS.out.tr.s.ok ask
              rw [hat] at h
              exact h)
            have HNM : Hid (∀ W, Fr [] wr W → Calls Tryz.prog 16 #[.pointer (some ⟨tb, 0, none⟩), .string ask] W fun e w' => e = .returned (.tuple #[.int .i64 0, .nilIface]) ∧ Fr [] W w') := fun W hW => (trl_Names (hS.out.tr.step hW) ask).mono fun e w' ⟨he, _, hf⟩ => ⟨by rw [he]; unfold namesV; rw [hat]; show Ending.returned (.tuple #[.int .i64 (if (g.ent nn).isSome = true then 0 else g.nms nn), .nilIface]) = _; rw [hmb]; rfl, hf⟩
            have HER : Hid (∀ W, Fr [] wr W → Calls Tryz.prog 10 #[.nilIface, .int .i64 0] W (OkT W)) := fun W hW => error_yes 0 W (HE.out W (hS.out.fr.trans hW))
            have HLS : Hid (∀ W, Fr [] wr W → Calls Tryz.prog 20 #[.pointer (some ⟨tb, 0, none⟩), .string ask] W fun e w' => ∃ v gv l, e = .returned (.tuple #[v, .nilIface]) ∧ SlR strE w' v gv l ∧ l.Pairwise (· < ·) ∧ (∀ x, x ∈ l ↔ (mm x).isSome = true) ∧ Fr [] W w') := fun W hW => (trl_List (hS.out.tr.step hW) (by omega) ask).mono fun e w' ⟨ha, _⟩ => by
              have h := ha.at_ hat
              rw [hmm] at h
              obtain ⟨v, gv, l, he, -, hs, ho, hx, -⟩ := h
              exact ⟨v, gv, l, he, hs, ho, hx, ha.1⟩
            have HPA : Hid (∀ W, Calls Tryz.prog 17 #[.string ask] W fun e w' => ∃ v gv, e = .returned (.tuple #[v, .int .i64 0]) ∧ SlR strE w' v gv pp ∧ Fr [] W w') := fun W => (m_Parts ask W).mono fun e w' ⟨v, gv, he, hs, hf⟩ => by
              rw [hpp] at he hs
              exact ⟨v, gv, he, hs, hf⟩
            have hnp : Tr.Nms pp := by
              have h := nms_parts (s := ask.data.toList) (by rw [hpp])
              rw [hpp] at h
              exact h
            have HEQ : Hid (∀ l l' : List (List UInt8), l.Pairwise (· < ·) → (∀ x, x ∈ l ↔ (mm x).isSome = true) → l'.Perm (insN T.nm (Tr.inQ pp)) → l'.Pairwise (· ≤ ·) → l' = l) := fun l l' h1 h2 h3 h4 => hS.out.rf.inside hS.out.tr.s.ok hnp hfm hmm h1 h2 h3 h4
            have HIN : Hid (∀ W, Fr [] wr W → Calls Tryz.prog 18 #[.agg #[.slice A0 T.nm.length c0, .slice A1 T.dirs.length c1], .string (Pa.mk (Pa.shown pp))] W (SortedA (insN T.nm (Tr.inQ pp)) W)) := fun W hW => m_Inside W (.slice A0 T.nm.length c0) (.slice A1 T.dirs.length c1) g0 T.nm (hS.out.v.step hW).nm (fun e he => (HBN.out e he).2) (by have h1 := HN24.out; omega) (Pa.shown pp) (by have h1 := Tr.shown_len hnp.1 hnp.2; omega)
            have hlong : Pa.long pp ≤ 100000 := by have h1 := nms_long hnp; omega
            have HSW : Hid (∀ W v gv, SlR strE W v gv pp → Calls Tryz.prog 19 #[v] W fun e w' => e = .returned (.string (Pa.mk (Pa.shown pp))) ∧ w' = W) := fun W v gv h => pa_Shown W v gv pp h hlong
            clear hat hpp hfm hnp hmm hlong
            generalize Pa.mk (Pa.shown pp) = mp at *
            generalize insN T.nm (Tr.inQ pp) = LQ at *
            obtain ⟨hdi, hda⟩ := hS.out.rf.dirAt hmt
            generalize ths.idxOf nn = nx at *
            have dI : (nx : Int) < T.dirs.length := by omega
            have d0' : (0 : Int) ≤ nx := by omega
            obtain rfl := HA1.out (by omega)
            have HDC := HC1.out nx hdi
            rw [hda, hmb] at HDC
            have HDI := Lib.hid (fun W (hW : Fr [] wr W) => hW.cell HDC (by simp))
            clear HDC hda
            clear hmb hmt
            have HCX := Lib.hid (fun W (hW : Fr [] wr W) => (hS.out.step hW).cells)
            go_wp2_with (first
              | (go_at_call 8; (with_reducible refine useC (HTH.out wr (Fr.refl _ _)) ?_); rintro e w7 ⟨rfl, hf⟩; have HF7 := Lib.hid hf; clear hf x0 x1; obtain ⟨⟨x0, x1⟩, hfz⟩ := HCX.out w7 HF7.out; have dc := HDI.out w7 HF7.out)
              | (go_at_call 16; (with_reducible refine useC (HNM.out w7 HF7.out) ?_); rintro e w8 ⟨rfl, hf⟩; have HF8 := Lib.hid (HF7.out.trans hf); clear hf)
              | (go_at_call 10; (with_reducible refine useC (HER.out w8 HF8.out) ?_); rintro e w9 ⟨rfl, hf⟩; have HF9 := Lib.hid (HF8.out.trans hf); clear hf x0 x1 hfz dc; obtain ⟨⟨x0, x1⟩, hfz⟩ := HCX.out w9 HF9.out; have dc := HDI.out w9 HF9.out)
              | (go_at_call 17; (with_reducible refine useC (HPA.out w9) ?_); rintro e w10 ⟨v10, g10, rfl, hs, hf⟩; obtain ⟨A10, o10, c10, rfl, -⟩ := strs_cell hs; have HF10 := Lib.hid (HF9.out.trans hf); have HL10 := Lib.hid hs; clear hf hs x0 x1 hfz dc))
            have HB10 := Lib.hid (hS.out.step HF10.out).box
            have HF11 := Lib.hid (HF10.out.trans (Fr.refl [] w10).drew)
            (refine wp_region_mix ((TpX · X (.slice A0 T.nm.length c0) (.slice (some ⟨g1, o1, none⟩) T.dirs.length c1))) 3 [(true, 0), (true, 1), (false, 2)] (by kernel_rfl) (by kernel_rfl) ((Fr.refl [] w10).drew.get HB10.out (by simp)) ?_; simp only [pickOps, List.map_cons, List.map_nil, List.getD_cons_zero, List.getD_cons_succ, List.drop_succ_cons, List.drop_zero])
            (iterate 2 (first | (refine wpMix_take (v := ?_) (by rfl) ?_ ?_; rotate_left; (focus (intro W hW; obtain ⟨y0, y1⟩ := TpX.cells hW; go_simp; (try with_reducible rfl); done)); try simp only [Act.put, List.setIfInBounds_toArray, List.set_cons_zero, List.set_cons_succ]) | (refine wpMix_leave (by rfl) ?_; try simp only [Act.put, List.setIfInBounds_toArray, List.set_cons_zero, List.set_cons_succ])))
            refine wpMix_walk ?_
            have HSH := Lib.hid (HSW.out w10.drew _ _ (slR_fr HL10.out (Fr.refl [] w10).drew))
            go_wp2_with (go_at_call 19; (with_reducible refine useC HSH.out ?_); rintro e w6 ⟨rfl, rfl⟩)
            refine MixQ.mk ((Fr.refl [] w10).drew.get HB10.out (by simp)) ?_
            refine wpMix_nil ?_
            have HIX := Lib.hid (HIN.out w10.drew HF11.out)
            clear HIN HSH HSW
            go_wp2_with (first
              | (go_at_call 18; (with_reducible refine useC HIX.out ?_); rintro e w11 ⟨v11, g11, l11, rfl, -, hs, hp, ho, hf⟩; obtain ⟨A11, o11, c11, rfl, -⟩ := strs_cell hs; have HF12 := Lib.hid (HF11.out.trans hf); have HL11 := Lib.hid hs; have HP11 := Lib.hid hp; have HO11 := Lib.hid ho; clear hs hp ho hf)
              | (go_at_call 20; (with_reducible refine useC (HLS.out w11 HF12.out) ?_); rintro e w12 ⟨v12, g12, l12, rfl, hs, ho, hx, hf⟩; obtain rfl := HEQ.out _ _ ho hx HP11.out HO11.out; obtain ⟨A12, o12, c12, rfl, -⟩ := strs_cell hs; have HF13 := Lib.hid (HF12.out.trans hf); have HEZ := Lib.hid (HER.out w12 HF13.out); have HL12 := Lib.hid (And.intro hs (slR_fr HL11.out hf)); clear hs ho hx hf)
              | (go_at_call 10; (with_reducible refine useC HEZ.out ?_); rintro e w13 ⟨rfl, hf⟩; have HF14 := Lib.hid (HF13.out.trans hf); have HTX := Lib.hid (texts_same w13 _ _ _ _ _ (slR_fr HL12.out.1 hf) (slR_fr HL12.out.2 hf)); clear hf)
              | (go_at_call 12; (with_reducible refine useC HTX.out ?_); rintro e w14 ⟨rfl, hf⟩; have HF15 := Lib.hid (HF14.out.trans hf); clear hf))
            go_ret
            exact ⟨rfl, hS.out.fr.trans HF15.out⟩
          · have hmb : (g.ent nn).isSome = false := Bool.eq_false_iff.2 hmb
            obtain ⟨pp, hpp, hfm⟩ := Tr.atV_path hat
            have hmt := hS.out.rf.thing hfm
            have HTH : Hid (∀ W, Fr [] wr W → Calls Tryz.prog 8 #[.agg #[.slice A0 T.nm.length c0, .slice A1 T.dirs.length c1], .string ask] W fun e w' => e = .returned (.tuple #[.int .i64 (ths.idxOf nn : Nat), .int .i64 0]) ∧ Fr [] W w') := Lib.hid (fun W hW => by
              have h := m_Thing W (.slice A0 T.nm.length c0) (.slice A1 T.dirs.length c1) g0 g1 T (hS.out.v.step hW) hS.out.rf hS.out.tr.s.ok ask
              rw [hat] at h
              exact h)
            have HNM : Hid (∀ W, Fr [] wr W → Calls Tryz.prog 16 #[.pointer (some ⟨tb, 0, none⟩), .string ask] W fun e w' => e = .returned (.tuple #[.int .i64 (g.nms nn), .nilIface]) ∧ Fr [] W w') := fun W hW => (trl_Names (hS.out.tr.step hW) ask).mono fun e w' ⟨he, _, hf⟩ => ⟨by rw [he]; unfold namesV; rw [hat]; show Ending.returned (.tuple #[.int .i64 (if (g.ent nn).isSome = true then 0 else g.nms nn), .nilIface]) = _; rw [hmb]; rfl, hf⟩
            have HER : Hid (∀ W, Fr [] wr W → Calls Tryz.prog 10 #[.nilIface, .int .i64 0] W (OkT W)) := fun W hW => error_yes 0 W (HE.out W (hS.out.fr.trans hW))
            have HLS : Hid (∀ W, Fr [] wr W → Calls Tryz.prog 20 #[.pointer (some ⟨tb, 0, none⟩), .string ask] W fun e w' => e = .returned (.tuple #[.slice none 0 0, errV 3]) ∧ Fr [] W w') := fun W hW => (trl_List (hS.out.tr.step hW) (by omega) ask).mono fun e w' ⟨ha, _⟩ => ⟨by have h := ha.at_ hat; have hn : g.ent nn = none := Option.not_isSome_iff_eq_none.1 (by rw [hmb]; decide); rw [hn] at h; exact h, ha.1⟩
            have HER2 : Hid (∀ W, Fr [] wr W → Calls Tryz.prog 10 #[errV 3, .int .i64 3] W (OkT W)) := fun W hW => error_yes 3 W (HE.out W (hS.out.fr.trans hW))
            have HTX : Hid (∀ W, Calls Tryz.prog 12 #[.slice none 0 0, .slice none 0 0] W (OkT W)) := fun W => texts_same W _ _ 0 0 [] (.inl ⟨rfl, _, _, rfl⟩) (.inl ⟨rfl, _, _, rfl⟩)
            have HMY : Hid (∀ W, Fr [] wr W → Calls Tryz.prog 15 #[.agg #[.slice A0 T.nm.length c0, .slice A1 T.dirs.length c1], .int .i64 (ths.idxOf nn : Nat)] W fun e w' => e = .returned (.int .i64 (g.nms nn)) ∧ Fr [] W w') := fun W hW => by
              have h := m_Many W (.slice A0 T.nm.length c0) (.slice A1 T.dirs.length c1) g0 T.nm (ths.idxOf nn) (hS.out.v.step hW).nm (by have h1 := HN24.out; omega)
              rw [hS.out.rf.many hmt] at h
              exact h
            clear hat hpp hfm
            generalize g.nms nn = q9 at *
            obtain ⟨hdi, hda⟩ := hS.out.rf.dirAt hmt
            generalize ths.idxOf nn = nx at *
            have dI : (nx : Int) < T.dirs.length := by omega
            have d0' : (0 : Int) ≤ nx := by omega
            obtain rfl := HA1.out (by omega)
            have HDC := HC1.out nx hdi
            rw [hda, hmb] at HDC
            have HDI := Lib.hid (fun W (hW : Fr [] wr W) => hW.cell HDC (by simp))
            clear HDC hda
            clear hmb hmt
            have HCX := Lib.hid (fun W (hW : Fr [] wr W) => (hS.out.step hW).cells)
            go_wp2_with (first
              | (go_at_call 8; (with_reducible refine useC (HTH.out wr (Fr.refl _ _)) ?_); rintro e w7 ⟨rfl, hf⟩; have HF7 := Lib.hid hf; clear hf x0 x1; obtain ⟨⟨x0, x1⟩, hfz⟩ := HCX.out w7 HF7.out; have dc := HDI.out w7 HF7.out)
              | (go_at_call 15; (with_reducible refine useC (HMY.out w7 HF7.out) ?_); rintro e w6 ⟨rfl, hf⟩; have HF6 := Lib.hid (HF7.out.trans hf); clear hf)
              | (go_at_call 16; (with_reducible refine useC (HNM.out w6 HF6.out) ?_); rintro e w8 ⟨rfl, hf⟩; have HF8 := Lib.hid (HF6.out.trans hf); clear hf)
              | (go_at_call 10; (with_reducible refine useC (HER.out w8 HF8.out) ?_); rintro e w9 ⟨rfl, hf⟩; have HF9 := Lib.hid (HF8.out.trans hf); clear hf x0 x1 hfz dc; obtain ⟨⟨x0, x1⟩, hfz⟩ := HCX.out w9 HF9.out; have dc := HDI.out w9 HF9.out)
              | (go_at_call 20; (with_reducible refine useC (HLS.out _ HF9.out) ?_); rintro e w10 ⟨rfl, hf⟩; have HF10 := Lib.hid (HF9.out.trans hf); clear hf)
              | (go_at_call 10; (with_reducible refine useC (HER2.out w10 HF10.out) ?_); rintro e w11 ⟨rfl, hf⟩; have HF11 := Lib.hid (HF10.out.trans hf); clear hf)
              | (go_at_call 12; (with_reducible refine useC (HTX.out w11) ?_); rintro e w12 ⟨rfl, hf⟩; have HF12 := Lib.hid (HF11.out.trans hf); clear hf))
            go_ret
            exact ⟨rfl, hS.out.fr.trans HF12.out⟩
end Go.Proofs.YtnglhfeialomgaaGreatDoor
