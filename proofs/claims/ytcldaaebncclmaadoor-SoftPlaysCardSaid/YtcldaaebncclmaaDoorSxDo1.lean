/- The document's answer for package soft: Do, kind 1. Printed by wip/gen_sxdo.py. -/
import Derived.Test.YtcldaaebncclmaaDoorSxRef
import Derived.Test.YtcldaaebncclmaaDoorSxIn
import Derived.Test.YtcldaaebncclmaaDoorMix
namespace Go.Proofs.YtcldaaebncclmaaDoor
open Go.RowKit

set_option maxRecDepth 100000 in
set_option maxHeartbeats 4000000 in
theorem sx_Do1 (w : World) (G : Nat → Prop) (v : Value) (L : List Int) (n : Nat) (e i : Int) (hv : SxV G w v (So4.of L)) (hO : So.OK L n) (hn : n ≤ 1000) (hG : ∀ k, w.heap.size ≤ k → G k) :
    Calls Tryd.prog 23 #[v, .int .i64 1, .int .i64 e, .int .i64 i] w (SxDn G (So4.of (So.drop L e).1) (So.drop L e).2 w) := by
  have hS := hO.shp
  have h40 := hS.len
  have hs := So4.of_ok h40
  have hbd := hO.bd hn
  have hV := hv
  obtain ⟨va, vb, vc, vd, g1, g2, g3, g4, rfl, hg, h1, h2, h3, h4⟩ := hv
  obtain ⟨A1, o1, c1, e1, -, hA1, hc1⟩ := h1.form
  obtain ⟨A2, o2, c2, e2, -, hA2, hc2⟩ := h2.form
  obtain ⟨A3, o3, c3, e3, -, hA3, hc3⟩ := h3.form
  obtain ⟨A4, o4, c4, e4, -, hA4, hc4⟩ := h4.form
  obtain rfl := hA1 (by rw [hs.c]; decide)
  obtain rfl := hA2 (by rw [hs.e]; decide)
  obtain rfl := hA3 (by rw [hs.dc]; decide)
  obtain rfl := hA4 (by rw [hs.de]; decide)
  rw [hs.c] at e1 hc1
  rw [hs.e] at e2 hc2
  rw [hs.dc] at e3 hc3
  rw [hs.de] at e4 hc4
  subst e1 e2 e3 e4
  have HC1 := Lib.hid (fun W (hW : Fr [] w W) j (hj : j < 8) => (show W.cell? ⟨g1, o1 + j, none⟩ = some (.int .i64 (nth L (20 + j))) from by rw [← part_nth hj]; exact hW.cell (hc1 j hj) (by simp)))
  have HC2 := Lib.hid (fun W (hW : Fr [] w W) j (hj : j < 12) => (show W.cell? ⟨g2, o2 + j, none⟩ = some (.int .i64 (nth L (28 + j))) from by rw [← part_nth hj]; exact hW.cell (hc2 j hj) (by simp)))
  have HC3 := Lib.hid (fun W (hW : Fr [] w W) j (hj : j < 8) => (show W.cell? ⟨g3, o3 + j, none⟩ = some (.int .i64 (nth L j)) from by rw [show nth L j = nth (part L 0 8) j by rw [part_nth hj, Nat.zero_add]]; exact hW.cell (hc3 j hj) (by simp)))
  have HR4 := Lib.hid (fun W (hW : Fr [] w W) => h4.fr hW (by simp))
  obtain ⟨hsz, fA, y0, y1⟩ := sx_two w (.cells #[.slice (some ⟨g1, o1, none⟩) 8 c1, .slice (some ⟨g2, o2, none⟩) 12 c2, .slice (some ⟨g3, o3, none⟩) 8 c3, .slice (some ⟨g4, o4, none⟩) 12 c4] 50) (.cells #[.slice none 0 0, .slice none 0 0, .slice none 0 0, .slice none 0 0] 50)
  go_enter Tryd.func23, Tryd.ntmps23
  go_wp2_with fail
  generalize hW : ((w.alloc (.cells #[.slice (some ⟨g1, o1, none⟩) 8 c1, .slice (some ⟨g2, o2, none⟩) 12 c2, .slice (some ⟨g3, o3, none⟩) 8 c3, .slice (some ⟨g4, o4, none⟩) 12 c4] 50)).alloc (.cells #[.slice none 0 0, .slice none 0 0, .slice none 0 0, .slice none 0 0] 50)) = W0 at *
  clear hW
  obtain ⟨X, hX⟩ : ∃ X, X = w.heap.size := ⟨_, rfl⟩
  rw [← hX] at hsz y0 y1 ⊢
  obtain ⟨X2, hX2⟩ : ∃ X2, X2 = X + 1 := ⟨_, rfl⟩
  rw [← hX2] at y1 ⊢
  have HU0 := Lib.hid (SxW.start hV hs hG fA y0 y1 (by omega) (by omega) (by omega))
  have HS := Lib.hid hS
  have HBD := Lib.hid hbd
  have H40 := Lib.hid h40
  have HSO := Lib.hid hs
  clear hX hX2 hV hg h1 h2 h3 h4 hc1 hc2 hc3 hc4 hA1 hA2 hA3 hA4 fA y0 y1 hsz hO hG hS h40 hbd hs
  obtain ⟨⟨b0, b1, b2, b3⟩, hfx⟩ := HU0.out.cells
  obtain ⟨⟨o0', o1', o2', o3'⟩, hfo⟩ := HU0.out.outs
  by_cases he : 0 ≤ e ∧ e ≤ 11
  · have e1 := decide_eq_true he
    obtain ⟨q, rfl⟩ : ∃ q : Nat, e = q := ⟨e.toNat, by omega⟩
    have hq : q < 12 := by omega
    have hqI : (q : Int) < 12 := by omega
    have hq0 : (0 : Int) ≤ q := by omega
    have q2 := HC2.out W0 HU0.out.fr q hq
    have hlk : So.drop L q = if nth L (28 + q) < 0 then (L, 5) else ((L.set (28 + q) (-1)).set (20 + (nth L (28 + q)).toNat) (nth L (20 + (nth L (28 + q)).toNat) - 1), 0) := by
      unfold So.drop
      rw [if_neg (fun h => h he)]
      simp only [Int.toNat_natCast]
    have hrng := HS.out.eM q hq
    by_cases hy : nth L (28 + q) < 0
    · have HR := Lib.hid (hlk.trans (if_pos hy))
      clear hlk he
      generalize nth L (28 + q) = y at *
      refine useC (in3r_is q 0 11 true _ e1) ?_
      rintro _ W0 ⟨rfl, rfl⟩
      go_wp2
      rw [HR.out]
      exact bodyPost_ret (v := .tuple #[.agg #[.slice (some ⟨g1, o1, none⟩) 8 c1, .slice (some ⟨g2, o2, none⟩) 12 c2, .slice (some ⟨g3, o3, none⟩) 8 c3, .slice (some ⟨g4, o4, none⟩) 12 c4], .int .i64 5]) (sx_results Tryd.results23 rfl rfl (SxW.fin HU0.out).1) rfl ((SxW.fin HU0.out).2 _)
    · have hrr := hlk.trans (if_neg hy)
      obtain ⟨j, hjy⟩ : ∃ j : Nat, nth L (28 + q) = j := ⟨(nth L (28 + q)).toNat, by omega⟩
      rw [hjy] at hrr q2 hy hrng
      rw [Int.toNat_natCast] at hrr
      have HR := Lib.hid hrr
      have hj : j < 8 := by omega
      have hjI : (j : Int) < 8 := by omega
      have hj0 : (0 : Int) ≤ j := by omega
      have hb := HBD.out j hj
      obtain ⟨z, hz⟩ : ∃ z, z = nth L (20 + j) := ⟨_, rfl⟩
      rw [← hz] at hb
      have hwz : IntKind.i64.wrap (z - 1) = z - 1 := by rw [IntKind.wrap_i64]; omega
      have HSO4 : Hid (So4.of ((L.set (28 + q) (-1)).set (20 + j) (nth L (20 + j) - 1), 0).1 = ⟨(So4.of L).c.set j (z - 1), (So4.of L).e.set q (-1), (So4.of L).dc, (So4.of L).de⟩) := by
        have m := So4.of_e H40.out hq (-1)
        have m2 := So4.of_c (L := L.set (28 + q) (-1)) (by rw [List.length_set]; exact H40.out) hj (nth L (20 + j) - 1)
        show So4.of ((L.set (28 + q) (-1)).set (20 + j) (nth L (20 + j) - 1)) = _
        rw [m2, hz]
        unfold So4.of at m ⊢
        injection m with m1 m2 m3 m4
        rw [m1, m2, m3, m4]
      have HQ1 := Lib.hid (fun W (hW : Fr [] w W) => (show W.cell? ⟨g1, o1 + j, none⟩ = some (.int .i64 z) from by rw [hz]; exact HC1.out W hW j hj))
      have HS1 := Lib.hid (fun W v g (hs : Sl W v g (So4.of L).e) => set_any W v g (So4.of L).e q (-1) hs (by rw [HSO.out.e]; exact hq) (by rw [HSO.out.e]; decide))
      have HS1N : Hid ((So4.of L).e.set q (-1) ≠ []) := fun e => by
        have := congrArg List.length e
        rw [List.length_set, HSO.out.e] at this
        cases this
      have HS2 := Lib.hid (fun W v g (hs : Sl W v g (So4.of L).c) => set_any W v g (So4.of L).c j (z - 1) hs (by rw [HSO.out.c]; exact hj) (by rw [HSO.out.c]; decide))
      have HS2N : Hid ((So4.of L).c.set j (z - 1) ≠ []) := fun e => by
        have := congrArg List.length e
        rw [List.length_set, HSO.out.c] at this
        cases this
      clear hlk he hz hb hjy hrr
      refine useC (in3r_is q 0 11 true _ e1) ?_
      rintro _ W0 ⟨rfl, rfl⟩
      go_wp2_with (first
        | (have h' := HU0; clear h'; go_at_call 27; obtain ⟨ga, -, hsa⟩ := HU0.out.rb; (with_reducible refine useC (HS1.out W0 _ ga hsa) ?_); rintro e w6 hn; obtain ⟨A6, c6, he, hu6, hf6, hr6⟩ := HU0.out.row hn HS1N.out; rw [List.length_set, show (So4.of L).e.length = 12 from HSO.out.e] at he hr6; subst he; obtain ⟨w7, hwc⟩ : ∃ z, z = w6.setCell ⟨X, 1, none⟩ (.slice A6 12 c6) := ⟨_, rfl⟩; have huc := hu6.setB hr6; rw [← hwc] at huc; have HU6 := Lib.hid hu6; have HU7 := Lib.hid huc; have HWw7 := Lib.hid hwc; have HFw6 := Lib.hid hf6; clear hwc hf6 hr6 hu6 huc hn hsa b0 b1 b2 b3 hfx HU0; obtain ⟨⟨b0, b1, b2, b3⟩, hfx⟩ := HU6.out.cells)
        | (rw [← HWw7.out]; clear HWw7 b0 b1 b2 b3 hfx; obtain ⟨⟨b0, b1, b2, b3⟩, hfx⟩ := HU7.out.cells))
      have hq1 := HQ1.out w7 HU7.out.fr
      (refine wp_region_mixq 9 [(true, 0), (true, 1), (true, 2), (true, 3), (true, 4), (true, 5), (true, 6), (true, 7), (true, 8)] (by kernel_rfl) (by kernel_rfl) ?_; simp only [pickOps, List.map_cons, List.map_nil, List.getD_cons_zero, List.getD_cons_succ, List.drop_succ_cons, List.drop_zero]; (iterate 9 (first | (refine wpMix_take (v := ?_) (by rfl) ?_ ?_; rotate_left; (focus (intro W hW; subst hW; go_simp; (try with_reducible rfl); done)); try simp only [Act.put, List.setIfInBounds_toArray, List.set_cons_zero, List.set_cons_succ]) | (refine wpMix_leave (by rfl) ?_; try simp only [Act.put, List.setIfInBounds_toArray, List.set_cons_zero, List.set_cons_succ]))); refine wpMix_nil ?_)
      have HU8 := Lib.hid (HU7.out.step ((Fr.refl [] w7).drew))
      clear HU7
      obtain ⟨w8, hw8⟩ : ∃ x, x = w7.drew := ⟨_, rfl⟩
      rw [← hw8] at HU8
      rw [← hw8]
      clear hw8 hq1
      go_wp2_with (first
        | (have h' := HU8; clear h'; go_at_call 27; obtain ⟨ga, -, hsa⟩ := HU8.out.ra; (with_reducible refine useC (HS2.out w8 _ ga hsa) ?_); rintro e w9 hn; obtain ⟨A9, c9, he, hu6, hf6, hr6⟩ := HU8.out.row hn HS2N.out; rw [List.length_set, show (So4.of L).c.length = 8 from HSO.out.c] at he hr6; subst he; obtain ⟨w10, hwc⟩ : ∃ z, z = w9.setCell ⟨X, 0, none⟩ (.slice A9 8 c9) := ⟨_, rfl⟩; have huc := hu6.setA hr6; rw [← hwc] at huc; have HU9 := Lib.hid hu6; have HU10 := Lib.hid huc; have HWw10 := Lib.hid hwc; have HFw9 := Lib.hid hf6; clear hwc hf6 hr6 hu6 huc hn hsa b0 b1 b2 b3 hfx HU8; obtain ⟨⟨b0, b1, b2, b3⟩, hfx⟩ := HU9.out.cells)
        | (rw [← HWw10.out]; clear HWw10 b0 b1 b2 b3 hfx; obtain ⟨⟨b0, b1, b2, b3⟩, hfx⟩ := HU10.out.cells; clear o0' o1' o2' o3' hfo; obtain ⟨⟨o0', o1', o2', o3'⟩, hfo⟩ := HU10.out.outs))
      rw [HR.out, HSO4.out]
      exact bodyPost_ret (v := .tuple #[.agg #[.slice A9 8 c9, .slice A6 12 c6, .slice (some ⟨g3, o3, none⟩) 8 c3, .slice (some ⟨g4, o4, none⟩) 12 c4], .int .i64 0]) (sx_results Tryd.results23 rfl rfl (SxW.fin HU10.out).1) rfl ((SxW.fin HU10.out).2 _)
  · have e1 := decide_eq_false he
    have HR : Hid (So.drop L e = (L, 1)) := if_pos he
    refine useC (in3r_is e 0 11 false _ e1) ?_
    rintro _ W0 ⟨rfl, rfl⟩
    go_wp2
    rw [HR.out]
    exact bodyPost_ret (v := .tuple #[.agg #[.slice (some ⟨g1, o1, none⟩) 8 c1, .slice (some ⟨g2, o2, none⟩) 12 c2, .slice (some ⟨g3, o3, none⟩) 8 c3, .slice (some ⟨g4, o4, none⟩) 12 c4], .int .i64 1]) (sx_results Tryd.results23 rfl rfl (SxW.fin HU0.out).1) rfl ((SxW.fin HU0.out).2 _)
end Go.Proofs.YtcldaaebncclmaaDoor
