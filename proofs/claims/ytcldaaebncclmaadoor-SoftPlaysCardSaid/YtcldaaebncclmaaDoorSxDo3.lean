/- The document's answer for package soft: Do, kind 3. Printed by wip/gen_sxdo.py. -/
import Derived.Test.YtcldaaebncclmaaDoorSxRef
import Derived.Test.YtcldaaebncclmaaDoorSxIn
import Derived.Test.YtcldaaebncclmaaDoorMix
namespace Go.Proofs.YtcldaaebncclmaaDoor
open Go.RowKit

set_option maxRecDepth 100000 in
set_option maxHeartbeats 4000000 in
theorem sx_Do3 (w : World) (G : Nat → Prop) (v : Value) (L : List Int) (n : Nat) (e i : Int) (hv : SxV G w v (So4.of L)) (hO : So.OK L n) (hn : n ≤ 1000) (hG : ∀ k, w.heap.size ≤ k → G k) :
    Calls Tryd.prog 23 #[v, .int .i64 3, .int .i64 e, .int .i64 i] w (SxDn G (So4.of (So.entry L e).1) (So.entry L e).2 w) := by
  have hS := hO.shp
  have h40 := hS.len
  have hs := So4.of_ok h40
  have hbd := hO.bd hn
  have hV := hv
  obtain ⟨va, vb, vc, vd, g1, g2, g3, g4, rfl, hg, h1, h2, h3, h4⟩ := hv
  obtain ⟨A1, o1, c1, e1, -, hA1, hc1⟩ := h1.form
  obtain ⟨A2, o2, c2, e2, -, hA2, hc2⟩ := h2.form
  obtain ⟨A3, o3, c3, e3, -, hA3, hc3⟩ := h3.form
  obtain ⟨A4, o4, c4, e4, -, hA4, hc4⟩ := h4.form
  obtain rfl := hA1 (by rw [hs.c]; decide)
  obtain rfl := hA2 (by rw [hs.e]; decide)
  obtain rfl := hA3 (by rw [hs.dc]; decide)
  obtain rfl := hA4 (by rw [hs.de]; decide)
  rw [hs.c] at e1 hc1
  rw [hs.e] at e2 hc2
  rw [hs.dc] at e3 hc3
  rw [hs.de] at e4 hc4
  subst e1 e2 e3 e4
  have HC1 := Lib.hid (fun W (hW : Fr [] w W) j (hj : j < 8) => (show W.cell? ⟨g1, o1 + j, none⟩ = some (.int .i64 (nth L (20 + j))) from by rw [← part_nth hj]; exact hW.cell (hc1 j hj) (by simp)))
  have HC2 := Lib.hid (fun W (hW : Fr [] w W) j (hj : j < 12) => (show W.cell? ⟨g2, o2 + j, none⟩ = some (.int .i64 (nth L (28 + j))) from by rw [← part_nth hj]; exact hW.cell (hc2 j hj) (by simp)))
  have HC3 := Lib.hid (fun W (hW : Fr [] w W) j (hj : j < 8) => (show W.cell? ⟨g3, o3 + j, none⟩ = some (.int .i64 (nth L j)) from by rw [show nth L j = nth (part L 0 8) j by rw [part_nth hj, Nat.zero_add]]; exact hW.cell (hc3 j hj) (by simp)))
  have HR4 := Lib.hid (fun W (hW : Fr [] w W) => h4.fr hW (by simp))
  obtain ⟨hsz, fA, y0, y1⟩ := sx_two w (.cells #[.slice (some ⟨g1, o1, none⟩) 8 c1, .slice (some ⟨g2, o2, none⟩) 12 c2, .slice (some ⟨g3, o3, none⟩) 8 c3, .slice (some ⟨g4, o4, none⟩) 12 c4] 50) (.cells #[.slice none 0 0, .slice none 0 0, .slice none 0 0, .slice none 0 0] 50)
  go_enter Tryd.func23, Tryd.ntmps23
  go_wp2_with fail
  generalize hW : ((w.alloc (.cells #[.slice (some ⟨g1, o1, none⟩) 8 c1, .slice (some ⟨g2, o2, none⟩) 12 c2, .slice (some ⟨g3, o3, none⟩) 8 c3, .slice (some ⟨g4, o4, none⟩) 12 c4] 50)).alloc (.cells #[.slice none 0 0, .slice none 0 0, .slice none 0 0, .slice none 0 0] 50)) = W0 at *
  clear hW
  obtain ⟨X, hX⟩ : ∃ X, X = w.heap.size := ⟨_, rfl⟩
  rw [← hX] at hsz y0 y1 ⊢
  obtain ⟨X2, hX2⟩ : ∃ X2, X2 = X + 1 := ⟨_, rfl⟩
  rw [← hX2] at y1 ⊢
  have HU0 := Lib.hid (SxW.start hV hs hG fA y0 y1 (by omega) (by omega) (by omega))
  have HS := Lib.hid hS
  have HBD := Lib.hid hbd
  have H40 := Lib.hid h40
  have HSO := Lib.hid hs
  clear hX hX2 hV hg h1 h2 h3 h4 hc1 hc2 hc3 hc4 hA1 hA2 hA3 hA4 fA y0 y1 hsz hO hG hS h40 hbd hs
  obtain ⟨⟨b0, b1, b2, b3⟩, hfx⟩ := HU0.out.cells
  obtain ⟨⟨o0', o1', o2', o3'⟩, hfo⟩ := HU0.out.outs
  by_cases he : 0 ≤ e ∧ e ≤ 11
  · have e1 := decide_eq_true he
    obtain ⟨q, rfl⟩ : ∃ q : Nat, e = q := ⟨e.toNat, by omega⟩
    have hq : q < 12 := by omega
    have hqI : (q : Int) < 12 := by omega
    have hq0 : (0 : Int) ≤ q := by omega
    have hlk : So.entry L q = if So.tooMany L q then (L, 7) else (So.next L q, 0) := by
      unfold So.entry So.entryAt
      rw [if_neg (fun h => h he)]
      simp only [Int.toNat_natCast]
    obtain ⟨y, hy⟩ : ∃ y, y = nth L (28 + q) := ⟨_, rfl⟩
    have hrng := HS.out.eM q hq
    rw [← hy] at hrng
    have HSO4 : Hid (So4.of (So.next L q, 0).1 = ⟨(So4.of L).c, (So4.of L).e, (So4.of L).dc, (So4.of L).de.set q y⟩) := by
      have m := So4.of_de H40.out hq y
      show So4.of (L.set (0 + 8 + q) (nth L (28 + q))) = _
      rw [← hy, Nat.zero_add]
      exact m
    have HQ2 := Lib.hid (fun W (hW : Fr [] w W) => (show W.cell? ⟨g2, o2 + q, none⟩ = some (.int .i64 y) from by rw [hy]; exact HC2.out W hW q hq))
    have hnl : ((So4.of L).de.set q y).length = 12 := by rw [List.length_set, HSO.out.de]
    have HNL := Lib.hid hnl
    have hnm : ∀ t, hitsTo ((So4.of L).de.set q y) t ((So4.of L).de.set q y).length = So.names (So.next L q) 0 t := fun t => by
      rw [hnl]
      have h1 := hits_part (So.next L q) 0 t 12 (by decide)
      have h2 : part (So.next L q) (0 + 8) 12 = (So4.of L).de.set q y := by
        have := HSO4.out
        unfold So4.of at this
        injection this
      rw [h2] at h1
      exact h1
    have HNM := Lib.hid (fun W v g (hs : Sl W v g ((So4.of L).de.set q y)) t => names_any W v g ((So4.of L).de.set q y) t hs (by rw [hnl]; decide))
    have HNE := Lib.hid hnm
    have HS1 := Lib.hid (fun W v g (hs : Sl W v g (So4.of L).de) => set_any W v g (So4.of L).de q y hs (by rw [HSO.out.de]; exact hq) (by rw [HSO.out.de]; decide))
    have HS1N : Hid ((So4.of L).de.set q y ≠ []) := fun e => by
      have := congrArg List.length e
      rw [List.length_set, HSO.out.de] at this
      cases this
    have q2 := HQ2.out W0 HU0.out.fr
    have HLK := Lib.hid hlk
    have HY := Lib.hid hy
    clear he hnl hnm hlk hy
    refine useC (in3r_is q 0 11 true _ e1) ?_
    rintro _ W0 ⟨rfl, rfl⟩
    go_wp2_with fail
    have HU1 := Lib.hid (HU0.out.step ((Fr.refl [] W0).drew))
    have hq2 := HQ2.out W0 HU0.out.fr
    (refine wp_region_mixq 8 [(true, 0), (true, 1), (true, 2), (true, 3), (true, 4), (true, 5), (true, 6), (true, 7)] (by kernel_rfl) (by kernel_rfl) ?_; simp only [pickOps, List.map_cons, List.map_nil, List.getD_cons_zero, List.getD_cons_succ, List.drop_succ_cons, List.drop_zero]; (iterate 8 (first | (refine wpMix_take (v := ?_) (by rfl) ?_ ?_; rotate_left; (focus (intro W hW; subst hW; go_simp; (try with_reducible rfl); done)); try simp only [Act.put, List.setIfInBounds_toArray, List.set_cons_zero, List.set_cons_succ]) | (refine wpMix_leave (by rfl) ?_; try simp only [Act.put, List.setIfInBounds_toArray, List.set_cons_zero, List.set_cons_succ]))); refine wpMix_nil ?_)
    obtain ⟨w1, hw1⟩ : ∃ x, x = W0.drew := ⟨_, rfl⟩
    rw [← hw1] at HU1
    rw [← hw1]
    clear hw1 hq2 q2 b0 b1 b2 b3 hfx o0' o1' o2' o3' hfo
    obtain ⟨⟨b0, b1, b2, b3⟩, hfx⟩ := HU1.out.cells
    go_wp2_with (have h' := HU1; clear h'; go_at_call 27; obtain ⟨ga, -, hsa⟩ := HU1.out.rd; (with_reducible refine useC (HS1.out w1 _ ga hsa) ?_); rintro e w6 hn; obtain ⟨A6, c6, he, hu6, hf6, hr6⟩ := HU1.out.row hn HS1N.out; rw [HNL.out] at he hr6; subst he; have HU6 := Lib.hid hu6; have HR6 := Lib.hid hr6; clear hn hsa hf6 hr6 hu6 b0 b1 b2 b3 hfx; obtain ⟨⟨b0, b1, b2, b3⟩, hfx⟩ := HU6.out.cells; have q2 := HQ2.out w6 HU6.out.fr)
    have HROW := Lib.hid (fun W (hW : Fr [] w6 W) => sx_row HR6.out hW (by simp))
    have HUW := Lib.hid (fun W (hW : Fr [] w6 W) => HU6.out.step hW)
    by_cases hy0 : 0 ≤ y
    · obtain ⟨j, rfl⟩ : ∃ j : Nat, y = j := ⟨y.toNat, by omega⟩
      have hj : j < 8 := by omega
      have hjI : (j : Int) < 8 := by omega
      obtain ⟨z, hz⟩ : ∃ z, z = nth L j := ⟨_, rfl⟩
      have HQ3 := Lib.hid (fun W (hW : Fr [] w W) => (show W.cell? ⟨g3, o3 + j, none⟩ = some (.int .i64 z) from by rw [hz]; exact HC3.out W hW j hj))
      have htm : So.tooMany L q ↔ z < (So.names (So.next L q) 0 j : Int) := by
        unfold So.tooMany
        rw [← HY.out, Int.toNat_natCast, ← hz]
        exact ⟨fun h => h.2, fun h => ⟨by omega, h⟩⟩
      obtain ⟨m, hm⟩ : ∃ m, m = So.names (So.next L q) 0 j := ⟨_, rfl⟩
      rw [← hm] at htm
      have HNJ := Lib.hid (HNE.out j)
      rw [← hm] at HNJ
      have HZ := Lib.hid hz
      clear hz hm
      have HRS : Hid (∃ g, (G g ∧ g ≠ X ∧ g ≠ X2) ∧ Sl w6.drew (.slice A6 12 c6) g ((So4.of L).de.set q j)) := HROW.out w6.drew ((Fr.refl [] w6).drew)
      by_cases hmz : z < (m : Int)
      · have HR := Lib.hid (HLK.out.trans (if_pos (htm.2 hmz)))
        clear htm
        have HUE := Lib.hid (HUW.out w6.drew ((Fr.refl [] w6).drew))
        (refine wp_region_mix (Fr [] w6 ·) 11 [(true, 0), (true, 1), (true, 2), (true, 3), (true, 4), (true, 6), (true, 7), (true, 8), (true, 9), (true, 10), (false, 5)] (by kernel_rfl) (by kernel_rfl) ((Fr.refl _ _).drew) ?_; simp only [pickOps, List.map_cons, List.map_nil, List.getD_cons_zero, List.getD_cons_succ, List.drop_succ_cons, List.drop_zero])
        (iterate 10 (first | (refine wpMix_take (v := ?_) (by rfl) ?_ ?_; rotate_left; (focus (intro W hW; obtain ⟨⟨y0, y1, y2, y3⟩, -⟩ := (HUW.out W hW).cells; have y4 := HQ3.out W (HU6.out.fr.trans hW); go_simp; (try with_reducible rfl); done)); try simp only [Act.put, List.setIfInBounds_toArray, List.set_cons_zero, List.set_cons_succ]) | (refine wpMix_leave (by rfl) ?_; try simp only [Act.put, List.setIfInBounds_toArray, List.set_cons_zero, List.set_cons_succ])))
        refine wpMix_walk ?_
        go_wp2_with (go_at_call 40; obtain ⟨gn, -, hsn⟩ := HRS.out; have HNC := HNM.out w6.drew _ gn hsn j; rw [HNJ.out] at HNC; (with_reducible refine useC HNC ?_); rintro e w7 ⟨rfl, rfl⟩; clear hsn)
        refine MixQ.mk ((Fr.refl _ _).drew) ?_
        refine wpMix_nil ?_
        obtain ⟨w8, hw8⟩ : ∃ x, x = w6.drew := ⟨_, rfl⟩
        rw [← hw8] at HUE HRS
        rw [← hw8]
        clear hw8
        clear b0 b1 b2 b3 hfx
        obtain ⟨⟨b0, b1, b2, b3⟩, hfx⟩ := HUE.out.cells
        obtain ⟨⟨o0', o1', o2', o3'⟩, hfo⟩ := HUE.out.outs
        go_wp2
        rw [HR.out]
        exact bodyPost_ret (v := .tuple #[.agg #[.slice (some ⟨g1, o1, none⟩) 8 c1, .slice (some ⟨g2, o2, none⟩) 12 c2, .slice (some ⟨g3, o3, none⟩) 8 c3, .slice (some ⟨g4, o4, none⟩) 12 c4], .int .i64 7]) (sx_results Tryd.results23 rfl rfl (SxW.fin HUE.out).1) rfl ((SxW.fin HUE.out).2 _)
      · have HR := Lib.hid (HLK.out.trans (if_neg (fun h => hmz (htm.1 h))))
        clear htm
        have HUE := Lib.hid (HUW.out w6.drew ((Fr.refl [] w6).drew))
        (refine wp_region_mix (Fr [] w6 ·) 11 [(true, 0), (true, 1), (true, 2), (true, 3), (true, 4), (true, 6), (true, 7), (true, 8), (true, 9), (true, 10), (false, 5)] (by kernel_rfl) (by kernel_rfl) ((Fr.refl _ _).drew) ?_; simp only [pickOps, List.map_cons, List.map_nil, List.getD_cons_zero, List.getD_cons_succ, List.drop_succ_cons, List.drop_zero])
        (iterate 10 (first | (refine wpMix_take (v := ?_) (by rfl) ?_ ?_; rotate_left; (focus (intro W hW; obtain ⟨⟨y0, y1, y2, y3⟩, -⟩ := (HUW.out W hW).cells; have y4 := HQ3.out W (HU6.out.fr.trans hW); go_simp; (try with_reducible rfl); done)); try simp only [Act.put, List.setIfInBounds_toArray, List.set_cons_zero, List.set_cons_succ]) | (refine wpMix_leave (by rfl) ?_; try simp only [Act.put, List.setIfInBounds_toArray, List.set_cons_zero, List.set_cons_succ])))
        refine wpMix_walk ?_
        go_wp2_with (go_at_call 40; obtain ⟨gn, -, hsn⟩ := HRS.out; have HNC := HNM.out w6.drew _ gn hsn j; rw [HNJ.out] at HNC; (with_reducible refine useC HNC ?_); rintro e w7 ⟨rfl, rfl⟩; clear hsn)
        refine MixQ.mk ((Fr.refl _ _).drew) ?_
        refine wpMix_nil ?_
        obtain ⟨w8, hw8⟩ : ∃ x, x = w6.drew := ⟨_, rfl⟩
        rw [← hw8] at HUE HRS
        rw [← hw8]
        clear hw8
        obtain ⟨w9, hw9⟩ : ∃ z, z = w8.setCell ⟨X, 3, none⟩ (.slice A6 12 c6) := ⟨_, rfl⟩
        have hu9 := HUE.out.setD HRS.out
        rw [← hw9] at hu9
        have HU9 := Lib.hid hu9
        have HW9 := Lib.hid hw9
        clear hw9 hu9 b0 b1 b2 b3 hfx
        obtain ⟨⟨b0, b1, b2, b3⟩, hfx⟩ := HUE.out.cells
        go_wp2_with (rw [← HW9.out]; clear HW9 b0 b1 b2 b3 hfx; obtain ⟨⟨b0, b1, b2, b3⟩, hfx⟩ := HU9.out.cells; obtain ⟨⟨o0', o1', o2', o3'⟩, hfo⟩ := HU9.out.outs)
        rw [HR.out, HSO4.out]
        exact bodyPost_ret (v := .tuple #[.agg #[.slice (some ⟨g1, o1, none⟩) 8 c1, .slice (some ⟨g2, o2, none⟩) 12 c2, .slice (some ⟨g3, o3, none⟩) 8 c3, .slice A6 12 c6], .int .i64 0]) (sx_results Tryd.results23 rfl rfl (SxW.fin HU9.out).1) rfl ((SxW.fin HU9.out).2 _)
    · have HR := Lib.hid (HLK.out.trans (if_neg (fun h => hy0 (by have := h.1; rw [← HY.out] at this; exact this))))
      have hyI : ¬ (0 : Int) ≤ y := hy0
      clear hy0
      have HUE := Lib.hid (HUW.out w6.drew ((Fr.refl [] w6).drew))
      have HRS : Hid (∃ g, (G g ∧ g ≠ X ∧ g ≠ X2) ∧ Sl w6.drew (.slice A6 12 c6) g ((So4.of L).de.set q y)) := HROW.out w6.drew ((Fr.refl [] w6).drew)
      (refine wp_region_mix (Fr [] w6 ·) 11 [(true, 0), (true, 1), (true, 2), (true, 3), (true, 4), (true, 6), (true, 7), (true, 8), (true, 9), (true, 10), (false, 5)] (by kernel_rfl) (by kernel_rfl) ((Fr.refl _ _).drew) ?_; simp only [pickOps, List.map_cons, List.map_nil, List.getD_cons_zero, List.getD_cons_succ, List.drop_succ_cons, List.drop_zero])
      (iterate 10 (first | (refine wpMix_take (v := ?_) (by rfl) ?_ ?_; rotate_left; (focus (intro W hW; obtain ⟨⟨y0, y1, y2, y3⟩, -⟩ := (HUW.out W hW).cells; go_simp; (try with_reducible rfl); done)); try simp only [Act.put, List.setIfInBounds_toArray, List.set_cons_zero, List.set_cons_succ]) | (refine wpMix_leave (by rfl) ?_; try simp only [Act.put, List.setIfInBounds_toArray, List.set_cons_zero, List.set_cons_succ])))
      refine wpMix_skip (by rfl) ?_
      try simp only [Act.put, List.setIfInBounds_toArray, List.set_cons_zero, List.set_cons_succ]
      refine wpMix_nil ?_
      obtain ⟨w8, hw8⟩ : ∃ x, x = w6.drew := ⟨_, rfl⟩
      rw [← hw8] at HUE HRS
      rw [← hw8]
      clear hw8
      obtain ⟨w9, hw9⟩ : ∃ z, z = w8.setCell ⟨X, 3, none⟩ (.slice A6 12 c6) := ⟨_, rfl⟩
      have hu9 := HUE.out.setD HRS.out
      rw [← hw9] at hu9
      have HU9 := Lib.hid hu9
      have HW9 := Lib.hid hw9
      clear hw9 hu9 b0 b1 b2 b3 hfx
      obtain ⟨⟨b0, b1, b2, b3⟩, hfx⟩ := HUE.out.cells
      go_wp2_with (rw [← HW9.out]; clear HW9 b0 b1 b2 b3 hfx; obtain ⟨⟨b0, b1, b2, b3⟩, hfx⟩ := HU9.out.cells; obtain ⟨⟨o0', o1', o2', o3'⟩, hfo⟩ := HU9.out.outs)
      rw [HR.out, HSO4.out]
      exact bodyPost_ret (v := .tuple #[.agg #[.slice (some ⟨g1, o1, none⟩) 8 c1, .slice (some ⟨g2, o2, none⟩) 12 c2, .slice (some ⟨g3, o3, none⟩) 8 c3, .slice A6 12 c6], .int .i64 0]) (sx_results Tryd.results23 rfl rfl (SxW.fin HU9.out).1) rfl ((SxW.fin HU9.out).2 _)
  · have e1 := decide_eq_false he
    have HR : Hid (So.entry L e = (L, 1)) := if_pos he
    refine useC (in3r_is e 0 11 false _ e1) ?_
    rintro _ W0 ⟨rfl, rfl⟩
    go_wp2
    rw [HR.out]
    exact bodyPost_ret (v := .tuple #[.agg #[.slice (some ⟨g1, o1, none⟩) 8 c1, .slice (some ⟨g2, o2, none⟩) 12 c2, .slice (some ⟨g3, o3, none⟩) 8 c3, .slice (some ⟨g4, o4, none⟩) 12 c4], .int .i64 1]) (sx_results Tryd.results23 rfl rfl (SxW.fin HU0.out).1) rfl ((SxW.fin HU0.out).2 _)
end Go.Proofs.YtcldaaebncclmaaDoor
