/- LsmPlays: any store, and anything that is done with it. Printed by wip/gen_lqplays.py. -/
import Derived.Deep.CutBlock
import Derived.Test.YtokbhiokcoldbaaDoorLqM17
import Derived.Test.YtokbhiokcoldbaaDoorLqM22
import Derived.Test.YtokbhiokcoldbaaDoorLqM24
import Derived.Test.YtokbhiokcoldbaaDoorLqM25
namespace Go.Proofs.YtokbhiokcoldbaaDoor
open Go.RowKit

theorem lq_xs {w wr : World} {P : Nat → Prop} {b X : Nat} {m mr : Ls.M} (h : LqS w wr P b X m mr) : ∃ gk ck gv cv, LqV (LqG P X) wr (.agg #[.slice (some ⟨gk, 0, none⟩) (mr.runs.length + 1) ck, .slice (some ⟨gv, 0, none⟩) (mr.runs.length + 1) cv, .int .i64 (mr.many : Int)]) mr ∧ TbH (LqG P X) wr (.slice (some ⟨gk, 0, none⟩) (mr.runs.length + 1) ck) (Ls.ksOf mr) ∧ ∀ W, Fr [] wr W → (W.cell? ⟨X, 0, none⟩ = some (.slice (some ⟨gk, 0, none⟩) (mr.runs.length + 1) ck) ∧ W.cell? ⟨X, 1, none⟩ = some (.slice (some ⟨gv, 0, none⟩) (mr.runs.length + 1) cv) ∧ W.cell? ⟨X, 2, none⟩ = some (.int .i64 (mr.many : Int))) ∧ ∀ i, W.frozen? ⟨X, i, none⟩ = false := by
  obtain ⟨gk, ck, gv, cv, hx, h1, h2⟩ := h.ref
  refine ⟨gk, ck, gv, cv, ⟨_, _, rfl, h1, h2⟩, h1, fun W hW => ?_⟩
  have hx' : LqX W X _ _ _ := hW.get hx (by simp)
  exact ⟨hx'.cells, fun i => free_block hx' i none⟩
set_option maxRecDepth 100000 in
set_option maxHeartbeats 16000000 in
theorem lq_plays (w : World) (v : Value) (ls : List (List Int)) (ask : Int) (hR : Rw w.heap.size w v ls) (hE : ErrType w) :
    Calls Tryd.prog 7 #[v, .int .i64 ask] w (OkT w) := by
  have HE := Lib.hid (fun W (hW : Fr [] w W) => hE.fr hW (by simp))
  obtain ⟨A, g, o, c, rfl, hm, hF⟩ := hR
  have HF := Lib.hid hF
  clear hF hE
  go_enter Tryd.func7, Tryd.ntmps7
  go_wp2_with (first
    | (go_at_call 31; (with_reducible refine useC (ls_New w) ?_); rintro e w0 ⟨rfl, hs, hf⟩; obtain ⟨P0, b, hb, HS0⟩ : ∃ P b, w.heap.size = b ∧ Hid (LsI w w0 P b Ls.new) := ⟨_, _, rfl, LsI.made (Fr.refl [] w) hs hf⟩; rw [hb]; clear hs hf hb)
    | (have h' := HS0; go_at_call 41; (with_reducible refine useC (lq_NewLsm w0) ?_); rintro e w1 ⟨v, rfl, hv, hf⟩; obtain ⟨gk, ck, gv, cv, rfl, hS⟩ := LqS.start HS0.out hv hf; have HS := Lib.hid hS; clear hv hf hS h' HS0))
  revert HS
  generalize w1.alloc (.cells #[.slice (some ⟨gk, 0, none⟩) 1 ck, .slice (some ⟨gv, 0, none⟩) 1 cv, .int .i64 0] 73) = wA
  generalize w1.heap.size = X at *
  intro HS
  have HS1 : Hid (∃ P m, LqS w wA P b X m m) := ⟨_, _, HS.out⟩
  clear HS
  go_loopw [7] (fun i wr => ∃ k : Nat, k ≤ ls.length ∧ k ≤ 80 ∧ i = .int .i64 k ∧ Hid (∃ P m, LqS w wr P b X m m)) (fun i _ => 80 - (intOf i).toNat)
  case atStart => exact ⟨0, Nat.zero_le _, Nat.zero_le _, rfl, HS1⟩
  case round =>
    clear HS1
    obtain ⟨k, hk, hk8, rfl, hS⟩ := hrel
    obtain ⟨P, m, hS2⟩ := hS.out
    by_cases hin : k < ls.length ∧ k < 80
    · obtain ⟨hlt, h80⟩ := hin
      obtain ⟨rfl, hg⟩ := HF.out.1 (by omega)
      obtain ⟨u, kb, hcell0, hkb, hsl, _⟩ := HF.out.2 k hlt
      have hcell := hS2.fr.cell hcell0 (by simp)
      obtain ⟨A', o', c', rfl, hm', hA', hc'⟩ := hsl.form
      have i0 : (0 : Int) ≤ k := by omega
      have i1 : (k : Int) < ls.length := by omega
      have i4 : (k : Int) < 80 := by omega
      have HC0 := Lib.hid (fun W (hW : Fr [] w W) i (hi : i < (nthR ls k).length) => hW.cell (hc' i hi) (by simp))
      have HS2 := Lib.hid hS2
      have HA := Lib.hid hA'
      clear hsl hcell0 hkb hA' hc' hS2 hS
      go_upto_block 2 with (fail)
      generalize (nthR ls k).length = ln at *
      go_cut [9, 10] from 23 to 194 (fun e9 e10 wc => ∃ ec, e9 = .int .i64 ec ∧ e10 = errV ec ∧ Hid (∃ P m, LqS w wc P b X m m))
      case first =>
        by_cases hl1 : ln = 1
        · as_aux_lemma =>
            subst hl1
            obtain rfl := HA.out (by omega)
            obtain ⟨gk, ck, gv, cv, hv, -, hx⟩ := lq_xs HS2.out
            have HX := Lib.hid hx
            have HCX := Lib.hid (fun W (hW : Fr [] w W) => HC0.out W hW 0 (by omega))
            obtain ⟨x0, hx0⟩ : ∃ x, nth (nthR ls k) 0 = x := ⟨_, rfl⟩
            rw [hx0, Nat.add_zero] at HCX
            have hd := (Fr.refl [] wr).drew
            have HD := Lib.hid (lq_Down wr.drew (LqG P X) _ m x0 (-1) (hv.step hd) HS2.out.lsm.ok (HS2.out.step hd).new)
            have HOK := Lib.hid (HS2.out.lsm.ok.drop x0)
            have HLS := Lib.hid (fun W (hW : LsI w W P b m) => ls_Drop W P b m x0 hW.file hW.ok)
            obtain ⟨md, hmd⟩ : ∃ z, Ls.down m (x0, -1) = z := ⟨_, rfl⟩
            obtain ⟨ec, hec⟩ : ∃ z, Ls.downErr m (x0, -1) = z := ⟨_, rfl⟩
            rw [hmd] at HD HOK HLS
            rw [hec] at HD HLS
            clear hx hv hd hx0 hmd hec HC0
            go_wp2_with fail
            (refine wp_region_mix (Fr [] w ·) 9 [(true, 1), (true, 2), (true, 3), (false, 0), (false, 4), (true, 5), (true, 6), (true, 7), (false, 8)] (by kernel_rfl) (by kernel_rfl) ((HS2.out.fr.trans (Fr.refl [] wr).drew)) ?_; simp only [pickOps, List.map_cons, List.map_nil, List.getD_cons_zero, List.getD_cons_succ, List.drop_succ_cons, List.drop_zero])
            (iterate 3 (first | (refine wpMix_take (v := ?_) (by rfl) ?_ ?_; rotate_left; (focus (intro W hW; have q0 := HCX.out W hW; go_simp; (try with_reducible rfl); done)); try simp only [Act.put, List.setIfInBounds_toArray, List.set_cons_zero, List.set_cons_succ]) | (refine wpMix_leave (by rfl) ?_; try simp only [Act.put, List.setIfInBounds_toArray, List.set_cons_zero, List.set_cons_succ])))
            refine wpMix_walk ?_
            obtain ⟨⟨b0, b1, b2⟩, hfz⟩ := HX.out wr.drew (Fr.refl [] wr).drew
            go_wp2
            refine MixQ.mk ((HS2.out.fr.trans (Fr.refl [] wr).drew)) ?_
            refine wpMix_walk ?_
            clear b0 b1 b2 hfz
            go_wp2_with (go_at_call 42; (refine useC HD.out ?_); rintro e w3 ⟨v3, rfl, hv3, hf3⟩; obtain ⟨gk3, ck3, gv3, cv3, hv', -, -⟩ := hv3.form; subst hv'; have HS3 := Lib.hid (HS2.out.step ((Fr.refl [] wr).drew.trans hf3)); have hs4 := HS2.out.put ((Fr.refl [] wr).drew.trans hf3) hv3; unfold lqSet at hs4; have HS4 := Lib.hid hs4; clear hs4 hv3 hf3 HD)
            refine MixQ.mk (HS3.out.fr) ?_
            (iterate 3 (first | (refine wpMix_take (v := ?_) (by rfl) ?_ ?_; rotate_left; (focus (intro W hW; skip; go_simp; (try with_reducible rfl); done)); try simp only [Act.put, List.setIfInBounds_toArray, List.set_cons_zero, List.set_cons_succ]) | (refine wpMix_leave (by rfl) ?_; try simp only [Act.put, List.setIfInBounds_toArray, List.set_cons_zero, List.set_cons_succ])))
            refine wpMix_walk ?_
            obtain ⟨gx, cx, gy, cy, -, -, hx3⟩ := lq_xs HS3.out
            obtain ⟨⟨b0, b1, b2⟩, hfz⟩ := hx3 w3 (Fr.refl [] w3)
            clear hx3
            go_wp2_with fail
            refine MixQ.mk (HS4.out.fr) ?_
            refine wpMix_nil ?_
            clear b0 b1 b2 hfz HS3
            revert HS4
            generalize ((w3.setCell ⟨X, 0, none⟩ (.slice (some ⟨gk3, 0, none⟩) (md.runs.length + 1) ck3)).setCell ⟨X, 1, none⟩ (.slice (some ⟨gv3, 0, none⟩) (md.runs.length + 1) cv3)).setCell ⟨X, 2, none⟩ (.int .i64 (md.many : Int)) = w4
            intro HS4
            have q4 := HCX.out w4 HS4.out.fr
            go_wp2_with (go_at_call 32; (with_reducible refine useC (HLS.out w4 HS4.out.lsm) ?_); rintro e w5 ha; obtain ⟨rfl, hs⟩ := HS4.out.turn HOK.out ha; have HS5 : Hid (∃ P m, LqS w w5 P b X m m) := ⟨_, _, hs⟩; clear ha hs)
            go_meet
            case rel => exact ⟨_, rfl, rfl, HS5⟩
        · by_cases hl2 : ln = 2
          · as_aux_lemma =>
              subst hl2
              obtain rfl := HA.out (by omega)
              obtain ⟨gk, ck, gv, cv, hv, -, hx⟩ := lq_xs HS2.out
              have HX := Lib.hid hx
              have HCX := Lib.hid (fun W (hW : Fr [] w W) => And.intro (HC0.out W hW 0 (by omega)) (HC0.out W hW 1 (by omega)))
              obtain ⟨x0, hx0⟩ : ∃ x, nth (nthR ls k) 0 = x := ⟨_, rfl⟩
              obtain ⟨x1, hx1⟩ : ∃ x, nth (nthR ls k) 1 = x := ⟨_, rfl⟩
              rw [hx0, hx1, Nat.add_zero] at HCX
              have hd := (Fr.refl [] wr).drew
              obtain ⟨q0, q1⟩ := HCX.out wr HS2.out.fr
              clear hx0 hx1 HC0
              by_cases h1k : 0 ≤ x1 ∧ x1 ≤ 1000
              · as_aux_lemma =>
                  have HD := Lib.hid (lq_Down wr.drew (LqG P X) _ m x0 x1 (hv.step hd) HS2.out.lsm.ok (HS2.out.step hd).new)
                  have HOK := Lib.hid (HS2.out.lsm.ok.put x0 x1)
                  have HLS := Lib.hid (fun W (hW : LsI w W P b m) => ls_Put W P b m x0 x1 hW.file hW.ok)
                  have ep : Ls.put m x0 x1 = Ls.down m (x0, x1) := if_pos h1k
                  have ee : Ls.putErr m x0 x1 = Ls.downErr m (x0, x1) := if_pos h1k
                  rw [ep] at HOK HLS
                  rw [ee] at HLS
                  obtain ⟨md, hmd⟩ : ∃ z, Ls.down m (x0, x1) = z := ⟨_, rfl⟩
                  obtain ⟨ec, hec⟩ : ∃ z, Ls.downErr m (x0, x1) = z := ⟨_, rfl⟩
                  rw [hmd] at HD HOK HLS
                  rw [hec] at HD HLS
                  have hi := decide_eq_true h1k
                  clear hx hv hd hmd hec ep ee h1k
                  go_wp2_with (go_at_call 9; (with_reducible refine useC (in3_is x1 0 1000 true wr hi) ?_); rintro e wr ⟨rfl, rfl⟩)
                  go_wp2_with fail
                  (refine wp_region_mix (Fr [] w ·) 12 [(true, 1), (true, 2), (true, 3), (true, 4), (true, 5), (true, 6), (false, 0), (false, 7), (true, 8), (true, 9), (true, 10), (false, 11)] (by kernel_rfl) (by kernel_rfl) ((HS2.out.fr.trans (Fr.refl [] wr).drew)) ?_; simp only [pickOps, List.map_cons, List.map_nil, List.getD_cons_zero, List.getD_cons_succ, List.drop_succ_cons, List.drop_zero])
                  (iterate 6 (first | (refine wpMix_take (v := ?_) (by rfl) ?_ ?_; rotate_left; (focus (intro W hW; obtain ⟨q0, q1⟩ := HCX.out W hW; go_simp; (try with_reducible rfl); done)); try simp only [Act.put, List.setIfInBounds_toArray, List.set_cons_zero, List.set_cons_succ]) | (refine wpMix_leave (by rfl) ?_; try simp only [Act.put, List.setIfInBounds_toArray, List.set_cons_zero, List.set_cons_succ])))
                  refine wpMix_walk ?_
                  obtain ⟨⟨b0, b1, b2⟩, hfz⟩ := HX.out wr.drew (Fr.refl [] wr).drew
                  go_wp2
                  refine MixQ.mk ((HS2.out.fr.trans (Fr.refl [] wr).drew)) ?_
                  refine wpMix_walk ?_
                  clear b0 b1 b2 hfz
                  go_wp2_with (go_at_call 42; (refine useC HD.out ?_); rintro e w3 ⟨v3, rfl, hv3, hf3⟩; obtain ⟨gk3, ck3, gv3, cv3, hv', -, -⟩ := hv3.form; subst hv'; have HS3 := Lib.hid (HS2.out.step ((Fr.refl [] wr).drew.trans hf3)); have hs4 := HS2.out.put ((Fr.refl [] wr).drew.trans hf3) hv3; unfold lqSet at hs4; have HS4 := Lib.hid hs4; clear hs4 hv3 hf3 HD)
                  refine MixQ.mk (HS3.out.fr) ?_
                  (iterate 3 (first | (refine wpMix_take (v := ?_) (by rfl) ?_ ?_; rotate_left; (focus (intro W hW; skip; go_simp; (try with_reducible rfl); done)); try simp only [Act.put, List.setIfInBounds_toArray, List.set_cons_zero, List.set_cons_succ]) | (refine wpMix_leave (by rfl) ?_; try simp only [Act.put, List.setIfInBounds_toArray, List.set_cons_zero, List.set_cons_succ])))
                  refine wpMix_walk ?_
                  obtain ⟨gx, cx, gy, cy, -, -, hx3⟩ := lq_xs HS3.out
                  obtain ⟨⟨b0, b1, b2⟩, hfz⟩ := hx3 w3 (Fr.refl [] w3)
                  clear hx3
                  go_wp2_with fail
                  refine MixQ.mk (HS4.out.fr) ?_
                  refine wpMix_nil ?_
                  clear b0 b1 b2 hfz HS3
                  revert HS4
                  generalize ((w3.setCell ⟨X, 0, none⟩ (.slice (some ⟨gk3, 0, none⟩) (md.runs.length + 1) ck3)).setCell ⟨X, 1, none⟩ (.slice (some ⟨gv3, 0, none⟩) (md.runs.length + 1) cv3)).setCell ⟨X, 2, none⟩ (.int .i64 (md.many : Int)) = w4
                  intro HS4
                  have HS4d := Lib.hid (HS4.out.step (Fr.refl [] w4).drew)
                  obtain ⟨p0, p1⟩ := HCX.out w4 HS4.out.fr
                  go_wp2_with fail
                  (refine wp_region_mixq 7 [(true, 0), (true, 1), (true, 2), (true, 3), (true, 4), (true, 5), (true, 6)] (by kernel_rfl) (by kernel_rfl) ?_; simp only [pickOps, List.map_cons, List.map_nil, List.getD_cons_zero, List.getD_cons_succ, List.drop_succ_cons, List.drop_zero]; (iterate 7 (first | (refine wpMix_take (v := ?_) (by rfl) ?_ ?_; rotate_left; (focus (intro W hW; subst hW; go_simp; (try with_reducible rfl); done)); try simp only [Act.put, List.setIfInBounds_toArray, List.set_cons_zero, List.set_cons_succ]) | (refine wpMix_leave (by rfl) ?_; try simp only [Act.put, List.setIfInBounds_toArray, List.set_cons_zero, List.set_cons_succ]))); refine wpMix_nil ?_)
                  go_wp2_with (go_at_call 33; (with_reducible refine useC (HLS.out w4.drew HS4d.out.lsm) ?_); rintro e w5 ha; obtain ⟨rfl, hs⟩ := HS4d.out.turn HOK.out ha; have HS5 : Hid (∃ P m, LqS w w5 P b X m m) := ⟨_, _, hs⟩; clear ha hs)
                  go_meet
                  case rel => exact ⟨_, rfl, rfl, HS5⟩
              · as_aux_lemma =>
                  have HOK := Lib.hid (HS2.out.lsm.ok.put x0 x1)
                  have HLS := Lib.hid (fun W (hW : LsI w W P b m) => ls_Put W P b m x0 x1 hW.file hW.ok)
                  have ep : Ls.put m x0 x1 = m := if_neg h1k
                  have ee : Ls.putErr m x0 x1 = 1 := if_neg h1k
                  rw [ep] at HOK HLS
                  rw [ee] at HLS
                  have hi := decide_eq_false h1k
                  clear hx hv hd ep ee h1k HX
                  have HS4d := Lib.hid (HS2.out.step (Fr.refl [] wr).drew)
                  go_wp2_with (go_at_call 9; (with_reducible refine useC (in3_is x1 0 1000 false wr hi) ?_); rintro e wr ⟨rfl, rfl⟩)
                  (refine wp_region_mixq 7 [(true, 0), (true, 1), (true, 2), (true, 3), (true, 4), (true, 5), (true, 6)] (by kernel_rfl) (by kernel_rfl) ?_; simp only [pickOps, List.map_cons, List.map_nil, List.getD_cons_zero, List.getD_cons_succ, List.drop_succ_cons, List.drop_zero]; (iterate 7 (first | (refine wpMix_take (v := ?_) (by rfl) ?_ ?_; rotate_left; (focus (intro W hW; subst hW; go_simp; (try with_reducible rfl); done)); try simp only [Act.put, List.setIfInBounds_toArray, List.set_cons_zero, List.set_cons_succ]) | (refine wpMix_leave (by rfl) ?_; try simp only [Act.put, List.setIfInBounds_toArray, List.set_cons_zero, List.set_cons_succ]))); refine wpMix_nil ?_)
                  go_wp2_with (go_at_call 33; (with_reducible refine useC (HLS.out wr.drew HS4d.out.lsm) ?_); rintro e w5 ha; obtain ⟨rfl, hs⟩ := HS4d.out.turn HOK.out ha; have HS5 : Hid (∃ P m, LqS w w5 P b X m m) := ⟨_, _, hs⟩; clear ha hs)
                  go_meet
                  case rel => exact ⟨_, rfl, rfl, HS5⟩
          · by_cases hl3 : ln = 3
            · as_aux_lemma =>
                subst hl3
                obtain ⟨gk, ck, gv, cv, hv, -, hx⟩ := lq_xs HS2.out
                obtain ⟨⟨b0, b1, b2⟩, hfz⟩ := hx wr (Fr.refl [] wr)
                have hml := HS2.out.lsm.ok.mem
                have hrl := HS2.out.lsm.ok.len
                have hmm := HS2.out.lsm.ok.many
                have HD := Lib.hid (lq_Flush wr (LqG P X) _ m hv (by omega) HS2.out.new)
                have HOK := Lib.hid HS2.out.lsm.ok.flush
                have HLS := Lib.hid (fun W (hW : LsI w W P b m) => ls_Flush W P b m hW.file (by omega) (by omega))
                obtain ⟨md, hmd⟩ : ∃ z, Ls.flush m = z := ⟨_, rfl⟩
                rw [hmd] at HD HOK HLS
                clear hx hv hmd HC0 hml hrl hmm
                go_wp2_with (first
                  | (go_at_call 43; (refine useC HD.out ?_); rintro e w3 ⟨v3, rfl, hv3, hf3⟩; obtain ⟨gk3, ck3, gv3, cv3, hv', -, -⟩ := hv3.form; subst hv'; have HS3 := Lib.hid (HS2.out.step hf3); have hs4 := HS2.out.put hf3 hv3; unfold lqSet at hs4; obtain ⟨w4, hw4⟩ : ∃ z, z = ((w3.setCell ⟨X, 0, none⟩ (.slice (some ⟨gk3, 0, none⟩) (md.runs.length + 1) ck3)).setCell ⟨X, 1, none⟩ (.slice (some ⟨gv3, 0, none⟩) (md.runs.length + 1) cv3)).setCell ⟨X, 2, none⟩ (.int .i64 (md.many : Int)) := ⟨_, rfl⟩; rw [← hw4] at hs4; have HS4 := Lib.hid hs4; have HW4 := Lib.hid hw4; clear hw4 hs4 hv3 hf3 HD b0 b1 b2 hfz; obtain ⟨gx, cx, gy, cy, -, -, hx3⟩ := lq_xs HS3.out; obtain ⟨⟨b0, b1, b2⟩, hfz⟩ := hx3 w3 (Fr.refl [] w3); clear hx3)
                  | (rw [← HW4.out]; clear HW4 HS3 b0 b1 b2 hfz)
                  | (have h' := HS4; go_at_call 34; (with_reducible refine useC (HLS.out w4 HS4.out.lsm) ?_); rintro e w5 ha; obtain ⟨rfl, hs⟩ := HS4.out.turn HOK.out ha; have HS5 : Hid (∃ P m, LqS w w5 P b X m m) := ⟨_, _, hs⟩; clear ha hs h'))
                go_meet
                case rel => exact ⟨0, rfl, rfl, HS5⟩
            · by_cases hl4 : ln = 4
              · as_aux_lemma =>
                  subst hl4
                  obtain ⟨gk, ck, gv, cv, hv, -, hx⟩ := lq_xs HS2.out
                  obtain ⟨⟨b0, b1, b2⟩, hfz⟩ := hx wr (Fr.refl [] wr)
                  have HD := Lib.hid (lq_Merge wr (LqG P X) _ m hv HS2.out.lsm.ok HS2.out.new)
                  have HOK := Lib.hid HS2.out.lsm.ok.merge
                  have HLS := Lib.hid (fun W (hW : LsI w W P b m) => ls_Merge W P b m hW.file hW.ok)
                  obtain ⟨md, hmd⟩ : ∃ z, Ls.merge m = z := ⟨_, rfl⟩
                  obtain ⟨ec, hec⟩ : ∃ z, Ls.mergeErr m = z := ⟨_, rfl⟩
                  rw [hmd] at HD HOK HLS
                  rw [hec] at HD HLS
                  clear hx hv hmd hec HC0
                  go_wp2_with (first
                    | (go_at_call 44; (refine useC HD.out ?_); rintro e w3 ⟨v3, rfl, hv3, hf3⟩; obtain ⟨gk3, ck3, gv3, cv3, hv', -, -⟩ := hv3.form; subst hv'; have HS3 := Lib.hid (HS2.out.step hf3); have hs4 := HS2.out.put hf3 hv3; unfold lqSet at hs4; obtain ⟨w4, hw4⟩ : ∃ z, z = ((w3.setCell ⟨X, 0, none⟩ (.slice (some ⟨gk3, 0, none⟩) (md.runs.length + 1) ck3)).setCell ⟨X, 1, none⟩ (.slice (some ⟨gv3, 0, none⟩) (md.runs.length + 1) cv3)).setCell ⟨X, 2, none⟩ (.int .i64 (md.many : Int)) := ⟨_, rfl⟩; rw [← hw4] at hs4; have HS4 := Lib.hid hs4; have HW4 := Lib.hid hw4; clear hw4 hs4 hv3 hf3 HD b0 b1 b2 hfz; obtain ⟨gx, cx, gy, cy, -, -, hx3⟩ := lq_xs HS3.out; obtain ⟨⟨b0, b1, b2⟩, hfz⟩ := hx3 w3 (Fr.refl [] w3); clear hx3)
                    | (rw [← HW4.out]; clear HW4 HS3 b0 b1 b2 hfz)
                    | (have h' := HS4; go_at_call 35; (with_reducible refine useC (HLS.out w4 HS4.out.lsm) ?_); rintro e w5 ha; obtain ⟨rfl, hs⟩ := HS4.out.turn HOK.out ha; have HS5 : Hid (∃ P m, LqS w w5 P b X m m) := ⟨_, _, hs⟩; clear ha hs h'))
                  go_meet
                  case rel => exact ⟨_, rfl, rfl, HS5⟩
              · as_aux_lemma =>
                  have b1' : ((ln : Int) == 1) = false := beq_eq_false_iff_ne.2 (by omega)
                  have b2' : ((ln : Int) == 2) = false := beq_eq_false_iff_ne.2 (by omega)
                  have b3' : ((ln : Int) == 3) = false := beq_eq_false_iff_ne.2 (by omega)
                  have b4' : ((ln : Int) == 4) = false := beq_eq_false_iff_ne.2 (by omega)
                  go_wp2
                  go_meet
                  case rel => exact ⟨0, rfl, rfl, P, m, HS2.out⟩
      case rest =>
        as_aux_lemma =>
          obtain ⟨ec, rfl, rfl, hS⟩ := hcut
          clear HC0 HA HS2
          obtain ⟨P, m, hS2⟩ := hS.out
          have HS := Lib.hid hS2
          obtain ⟨gk, ck, gv, cv, hv, hk', hx⟩ := lq_xs hS2
          have HX := Lib.hid hx
          have HV := Lib.hid (fun W (hW : Fr [] wc W) => hv.step hW)
          have HK := Lib.hid (fun i hi => lq_rows hk' i hi)
          have hrl : m.runs.length ≤ 60 := by have := hS2.lsm.ok.len; have := hS2.lsm.ok.many; omega
          have HO := Lib.hid hS2.lsm.ok
          clear hv hk' hx hS hS2
          have HR0 : Hid (Rg wc wc (.slice none 0 0) ((Ls.lens m).take 0)) := Rg.start wc
          obtain ⟨N, hN⟩ : ∃ n, m.runs.length + 1 = n := ⟨_, rfl⟩
          rw [hN] at HX HK HV
          have HN := Lib.hid hN
          have hN2 : N ≤ 61 := by omega
          clear hN hrl
          go_wp2_with fail
          go_loopw [11, 13] (fun rv iv wr => ∃ j : Nat, j + 1 ≤ N ∧ iv = .int .i64 ((j + 1 : Nat) : Int) ∧ Hid (Rg wc wr rv ((Ls.lens m).take j))) (fun _ iv _ => N - (intOf iv).toNat)
          case atStart => exact ⟨0, by have := HN.out; omega, rfl, HR0⟩
          case round =>
            clear HR0
            obtain ⟨j, hj, rfl, hG⟩ := hrel
            obtain ⟨⟨b0, b1, b2⟩, hfz⟩ := HX.out wr hG.out.fr
            obtain ⟨i, hi⟩ : ∃ i, j + 1 = i := ⟨_, rfl⟩
            rw [hi] at hj ⊢
            by_cases hlt : i < N
            · have iI : (i : Int) < N := by omega
              have i0 : (0 : Int) ≤ i := by omega
              have hjr : j < m.runs.length := by have := HN.out; omega
              obtain ⟨A5, c5, g5, o5, hq, -⟩ := HK.out i hlt
              have q := hq wr hG.out.fr
              rw [← hi, show (m.mem :: m.runs).getD (j + 1) [] = m.runs.getD j [] from rfl, hi] at q
              have HLT := Lib.hid (Ls.lens_take hjr)
              have hll : ((Ls.lens m).take j).length < 1000000 := by rw [List.length_take]; omega
              have HG := Lib.hid hG.out
              generalize (m.runs.getD j []).length = ln' at *
              have hsz := HG.out.fr.size
              have HI := Lib.hid hi
              clear hG hq hjr hi
              go_wp2_with (at_builtin; refine wpList_push_int (wr := wr) Tryd.intT rfl _ _ rfl wc.heap.size _ _ rfl HG.out.own rfl hll hsz ?_; intro v' w2 h1 h2 h3; have HG2 := Lib.hid (HG.out.push h1 h3); clear h1 h2 h3)
              go_roundw
              case rel => exact ⟨j + 1, by have := HI.out; omega, by rw [HI.out]; go_num, by show Rg _ _ _ _; rw [HLT.out]; exact HG2.out⟩
              case measure => (simp [intOf]; try omega)
            · obtain rfl : i = N := by omega
              have iI : ¬ (i : Int) < i := by omega
              have hlen : (Ls.lens m).take j = Ls.lens m := List.take_of_length_le (by rw [Ls.lens_len]; have := HN.out; omega)
              rw [hlen] at hG
              have HRG := Lib.hid hG.out
              clear hG hlen hlt hj
              go_wp2_with fail
              clear b0 b1 b2 hfz hi
              obtain ⟨wB, hwB⟩ : ∃ x, x = wr := ⟨_, rfl⟩
              subst hwB
              have HR0 : Hid (Rg wB wB (.slice none 0 0) (Ls.gath (Ls.dGet (m.mem :: m.runs)) (((m.mem :: m.runs).take 0).map Ls.kys).flatten)) := Rg.start wB
              go_loopw [12, 14] (fun kv iv wr => ∃ n : Nat, n ≤ i ∧ iv = .int .i64 n ∧ Hid (Rg wB wr kv (Ls.gath (Ls.dGet (m.mem :: m.runs)) (((m.mem :: m.runs).take n).map Ls.kys).flatten))) (fun _ iv _ => i - (intOf iv).toNat)
              case atStart => exact ⟨0, Nat.zero_le _, rfl, HR0⟩
              case round =>
                clear HR0
                obtain ⟨n, hn, rfl, hG⟩ := hrel
                have HFW := Lib.hid (HRG.out.fr.trans hG.out.fr)
                obtain ⟨⟨b0, b1, b2⟩, hfz⟩ := HX.out wr HFW.out
                by_cases hlt : n < i
                · have nI : (n : Int) < i := by omega
                  have n0 : (0 : Int) ≤ n := by omega
                  have htl : n < (m.mem :: m.runs).length := by have := HN.out; simp; omega
                  have HFN := Lib.hid (Ls.flat_next htl)
                  have HGL := Lib.hid (fun j => Ls.gath_le HO.out n j htl)
                  obtain ⟨A5, c5, g5, o5, hq, hrow⟩ := HK.out n hlt
                  have HQ := Lib.hid hq
                  have HROW := Lib.hid hrow
                  have htb : ((m.mem :: m.runs).getD n []).length ≤ 60 := by
                    have h3 := Ls.row_le htl
                    have h4 := HO.out.tot
                    have h5 := HO.out.many
                    rw [List.flatten_cons, List.length_append] at h3
                    omega
                  have HKT := Lib.hid (fun j (hj : j < ((m.mem :: m.runs).getD n []).length) => Ls.kys_take hj)
                  have HG := Lib.hid hG.out
                  clear hq hrow htl hG
                  obtain ⟨t, ht⟩ : ∃ t, (m.mem :: m.runs).getD n [] = t := ⟨_, rfl⟩
                  obtain ⟨F, hF'⟩ : ∃ F, (((m.mem :: m.runs).take n).map Ls.kys).flatten = F := ⟨_, rfl⟩
                  rw [ht] at HFN HGL HQ HROW HKT htb
                  rw [hF'] at HFN HGL HG
                  clear ht hF'
                  go_wp2_with fail
                  clear b0 b1 b2 hfz
                  obtain ⟨wD, hwD⟩ : ∃ x, x = wr := ⟨_, rfl⟩
                  subst hwD
                  have HG0 : Hid (Rg wB wD u12 (Ls.gath (Ls.dGet (m.mem :: m.runs)) (F ++ (Ls.kys t).take 0))) := by show Rg _ _ _ _; rw [List.take_zero, List.append_nil]; exact HG.out
                  go_loopw [12, 15] (fun kv jv wr => ∃ j : Nat, j ≤ t.length ∧ jv = .int .i64 j ∧ Hid (Rg wB wr kv (Ls.gath (Ls.dGet (m.mem :: m.runs)) (F ++ (Ls.kys t).take j)))) (fun _ jv _ => t.length - (intOf jv).toNat)
                  case atStart => exact ⟨0, Nat.zero_le _, rfl, HG0⟩
                  case round =>
                    clear HG0 HG HFW
                    obtain ⟨j, hj, rfl, hG⟩ := hrel
                    have HFW := Lib.hid (HRG.out.fr.trans hG.out.fr)
                    obtain ⟨⟨b0, b1, b2⟩, hfz⟩ := HX.out wr HFW.out
                    have q := HQ.out wr HFW.out
                    by_cases hlj : j < t.length
                    · have jI : (j : Int) < t.length := by omega
                      have j0 : (0 : Int) ≤ j := by omega
                      obtain ⟨rfl, hcell⟩ := HROW.out j hlj
                      have HSN := Lib.hid ((congrArg (fun z => Ls.gath (Ls.dGet (m.mem :: m.runs)) (F ++ z)) (HKT.out j hlj)).trans (by rw [← List.append_assoc, Ls.gath_snoc]))
                      have hgl := HGL.out j
                      obtain ⟨y, hy⟩ : ∃ y, nth (Ls.kys t) j = y := ⟨_, rfl⟩
                      rw [hy] at HSN hcell
                      have HCL := Lib.hid hcell
                      have HALL : Hid (∀ W, Fr [] wr W → ((W.cell? ⟨X, 0, none⟩ = some (.slice (some ⟨gk, 0, none⟩) i ck) ∧ W.cell? ⟨X, 1, none⟩ = some (.slice (some ⟨gv, 0, none⟩) i cv) ∧ W.cell? ⟨X, 2, none⟩ = some (.int .i64 (m.many : Int))) ∧ W.cell? ⟨gk, n, none⟩ = some (.slice (some ⟨g5, o5, none⟩) t.length c5) ∧ W.cell? ⟨g5, o5 + j, none⟩ = some (.int .i64 y))) := fun W hW => ⟨(HX.out W (HFW.out.trans hW)).1, HQ.out W (HFW.out.trans hW), HCL.out W (HFW.out.trans hW)⟩
                      have HGT := Lib.hid (fun W (hW : Fr [] wr W) => lq_Get W _ _ m y (HV.out W (HFW.out.trans hW)) (by have := HN.out; omega))
                      have hst : Ls.gstep (Ls.dGet (m.mem :: m.runs)) (Ls.gath (Ls.dGet (m.mem :: m.runs)) (F ++ (Ls.kys t).take j)) y = if 0 ≤ Ls.dGet (m.mem :: m.runs) y ∧ hasB (Ls.gath (Ls.dGet (m.mem :: m.runs)) (F ++ (Ls.kys t).take j)) y = false then Ls.gath (Ls.dGet (m.mem :: m.runs)) (F ++ (Ls.kys t).take j) ++ [y] else Ls.gath (Ls.dGet (m.mem :: m.runs)) (F ++ (Ls.kys t).take j) := rfl
                      rw [hst] at HSN
                      have HG := Lib.hid hG.out
                      generalize Ls.gath (Ls.dGet (m.mem :: m.runs)) (F ++ (Ls.kys t).take j) = acc at *
                      generalize Ls.dGet (m.mem :: m.runs) y = d at *
                      clear hy hcell hst hG
                      have hd0 := (Fr.refl [] wr).drew
                      by_cases hd : 0 ≤ d
                      · have g1 : (d ≥ 0) = True := eq_true hd
                        have g2 : decide (d ≥ 0) = true := decide_eq_true hd
                        obtain ⟨ga, hga, hsa⟩ := HG.out.own.sl
                        have HHAS := Lib.hid (fun W (hW : Fr [] wr W) => by have := HG.out.step hW; obtain ⟨ga, hga, hsa⟩ := this.own.sl; exact has_any W u12 ga acc y hsa)
                        clear hga hsa
                        cases hb : hasB acc y with
                        | true => as_aux_lemma =>
                            rw [hb] at HHAS
                            have HSN2 := Lib.hid (HSN.out.trans (if_neg (fun h => by rw [hb] at h; exact absurd h.2 (by decide))))
                            clear hb HSN hd hd0
                            go_wp2_with fail
                            (refine wp_region_mix (Fr [] wr ·) 21 [(true, 0), (true, 1), (true, 2), (true, 3), (true, 4), (true, 5), (true, 6), (true, 7), (true, 8), (false, 9), (true, 10), (true, 11), (true, 12), (true, 13), (true, 14), (true, 15), (true, 16), (true, 17), (true, 18), (true, 19), (true, 20)] (by kernel_rfl) (by kernel_rfl) ((Fr.refl _ _).drew) ?_; simp only [pickOps, List.map_cons, List.map_nil, List.getD_cons_zero, List.getD_cons_succ, List.drop_succ_cons, List.drop_zero])
                            (iterate 9 (first | (refine wpMix_take (v := ?_) (by rfl) ?_ ?_; rotate_left; (focus (intro W hW; obtain ⟨⟨b0, b1, b2⟩, q0, q1⟩ := HALL.out W hW; go_simp; (try with_reducible rfl); done)); try simp only [Act.put, List.setIfInBounds_toArray, List.set_cons_zero, List.set_cons_succ]) | (refine wpMix_leave (by rfl) ?_; try simp only [Act.put, List.setIfInBounds_toArray, List.set_cons_zero, List.set_cons_succ])))
                            refine wpMix_walk ?_
                            go_wp2_with (go_at_call 45; (refine useC (HGT.out _ (Fr.refl [] wr).drew) ?_); rintro e w4 ⟨rfl, hf⟩; have HF4 : Hid (Fr [] wr w4) := (Fr.refl [] wr).drew.trans hf; clear hf)
                            refine MixQ.mk (HF4.out) ?_
                            (iterate 11 (first | (refine wpMix_take (v := ?_) (by rfl) ?_ ?_; rotate_left; (focus (intro W hW; obtain ⟨⟨b0, b1, b2⟩, q0, q1⟩ := HALL.out W hW; go_simp; (try with_reducible rfl); done)); try simp only [Act.put, List.setIfInBounds_toArray, List.set_cons_zero, List.set_cons_succ]) | (refine wpMix_leave (by rfl) ?_; try simp only [Act.put, List.setIfInBounds_toArray, List.set_cons_zero, List.set_cons_succ])))
                            refine wpMix_nil ?_
                            go_wp2_with (go_at_call 21; (with_reducible refine useC (HHAS.out w4 HF4.out) ?_); rintro e w4 ⟨rfl, rfl⟩)
                            go_roundw
                            case rel => exact ⟨j + 1, by omega, by go_num, by show Rg _ _ _ _; rw [HSN2.out]; exact HG.out.step HF4.out⟩
                            case measure => (simp [intOf]; try omega)
                        | false => as_aux_lemma =>
                            rw [hb] at HHAS
                            have HSN2 := Lib.hid (HSN.out.trans (if_pos ⟨hd, hb⟩))
                            clear hb HSN hd hd0
                            obtain ⟨E1, f1, hu⟩ := HG.out.own.form0
                            subst hu
                            go_wp2_with fail
                            (refine wp_region_mix (Fr [] wr ·) 21 [(true, 0), (true, 1), (true, 2), (true, 3), (true, 4), (true, 5), (true, 6), (true, 7), (true, 8), (false, 9), (true, 10), (true, 11), (true, 12), (true, 13), (true, 14), (true, 15), (true, 16), (true, 17), (true, 18), (true, 19), (true, 20)] (by kernel_rfl) (by kernel_rfl) ((Fr.refl _ _).drew) ?_; simp only [pickOps, List.map_cons, List.map_nil, List.getD_cons_zero, List.getD_cons_succ, List.drop_succ_cons, List.drop_zero])
                            (iterate 9 (first | (refine wpMix_take (v := ?_) (by rfl) ?_ ?_; rotate_left; (focus (intro W hW; obtain ⟨⟨b0, b1, b2⟩, q0, q1⟩ := HALL.out W hW; go_simp; (try with_reducible rfl); done)); try simp only [Act.put, List.setIfInBounds_toArray, List.set_cons_zero, List.set_cons_succ]) | (refine wpMix_leave (by rfl) ?_; try simp only [Act.put, List.setIfInBounds_toArray, List.set_cons_zero, List.set_cons_succ])))
                            refine wpMix_walk ?_
                            go_wp2_with (go_at_call 45; (refine useC (HGT.out _ (Fr.refl [] wr).drew) ?_); rintro e w4 ⟨rfl, hf⟩; have HF4 : Hid (Fr [] wr w4) := (Fr.refl [] wr).drew.trans hf; clear hf)
                            refine MixQ.mk (HF4.out) ?_
                            (iterate 11 (first | (refine wpMix_take (v := ?_) (by rfl) ?_ ?_; rotate_left; (focus (intro W hW; obtain ⟨⟨b0, b1, b2⟩, q0, q1⟩ := HALL.out W hW; go_simp; (try with_reducible rfl); done)); try simp only [Act.put, List.setIfInBounds_toArray, List.set_cons_zero, List.set_cons_succ]) | (refine wpMix_leave (by rfl) ?_; try simp only [Act.put, List.setIfInBounds_toArray, List.set_cons_zero, List.set_cons_succ])))
                            refine wpMix_nil ?_
                            have HG4 := Lib.hid (HG.out.step HF4.out)
                            clear b0 b1 b2 hfz q
                            obtain ⟨⟨b0, b1, b2⟩, q0, q1⟩ := HALL.out w4 HF4.out
                            have hsz := HG4.out.fr.size
                            have hgl2 : acc.length < 1000000 := by omega
                            go_wp2_with (first
                              | (go_at_call 21; (with_reducible refine useC (HHAS.out w4 HF4.out) ?_); rintro e w4 ⟨rfl, rfl⟩)
                              | (at_builtin; refine wpList_push_int (wr := w4) Tryd.intT rfl _ _ rfl wB.heap.size _ _ rfl HG4.out.own rfl hgl2 hsz ?_; intro v' w5 h1 h2 h3; have HG5 := Lib.hid (HG4.out.push h1 h3); clear h1 h2 h3))
                            go_roundw
                            case rel => exact ⟨j + 1, by omega, by go_num, by show Rg _ _ _ _; rw [HSN2.out]; exact HG5.out⟩
                            case measure => (simp [intOf]; try omega)
                      · as_aux_lemma =>
                          have g1 : (d ≥ 0) = False := eq_false (by omega)
                          have g2 : decide (d ≥ 0) = false := decide_eq_false (by omega)
                          have HSN2 := Lib.hid (HSN.out.trans (if_neg (fun h => hd h.1)))
                          clear HSN hd hd0
                          go_wp2_with fail
                          (refine wp_region_mix (Fr [] wr ·) 21 [(true, 0), (true, 1), (true, 2), (true, 3), (true, 4), (true, 5), (true, 6), (true, 7), (true, 8), (false, 9), (true, 10), (true, 11), (true, 12), (true, 13), (true, 14), (true, 15), (true, 16), (true, 17), (true, 18), (true, 19), (true, 20)] (by kernel_rfl) (by kernel_rfl) ((Fr.refl _ _).drew) ?_; simp only [pickOps, List.map_cons, List.map_nil, List.getD_cons_zero, List.getD_cons_succ, List.drop_succ_cons, List.drop_zero])
                          (iterate 9 (first | (refine wpMix_take (v := ?_) (by rfl) ?_ ?_; rotate_left; (focus (intro W hW; obtain ⟨⟨b0, b1, b2⟩, q0, q1⟩ := HALL.out W hW; go_simp; (try with_reducible rfl); done)); try simp only [Act.put, List.setIfInBounds_toArray, List.set_cons_zero, List.set_cons_succ]) | (refine wpMix_leave (by rfl) ?_; try simp only [Act.put, List.setIfInBounds_toArray, List.set_cons_zero, List.set_cons_succ])))
                          refine wpMix_walk ?_
                          go_wp2_with (go_at_call 45; (refine useC (HGT.out _ (Fr.refl [] wr).drew) ?_); rintro e w4 ⟨rfl, hf⟩; have HF4 : Hid (Fr [] wr w4) := (Fr.refl [] wr).drew.trans hf; clear hf)
                          refine MixQ.mk (HF4.out) ?_
                          (iterate 11 (first | (refine wpMix_take (v := ?_) (by rfl) ?_ ?_; rotate_left; (focus (intro W hW; obtain ⟨⟨b0, b1, b2⟩, q0, q1⟩ := HALL.out W hW; go_simp; (try with_reducible rfl); done)); try simp only [Act.put, List.setIfInBounds_toArray, List.set_cons_zero, List.set_cons_succ]) | (refine wpMix_leave (by rfl) ?_; try simp only [Act.put, List.setIfInBounds_toArray, List.set_cons_zero, List.set_cons_succ])))
                          refine wpMix_nil ?_
                          go_wp2
                          go_roundw
                          case rel => exact ⟨j + 1, by omega, by go_num, by show Rg _ _ _ _; rw [HSN2.out]; exact HG.out.step HF4.out⟩
                          case measure => (simp [intOf]; try omega)
                    · obtain rfl : j = t.length := by omega
                      have jI : ¬ ((t.length : Nat) : Int) < t.length := by omega
                      have htk : (Ls.kys t).take t.length = Ls.kys t := List.take_of_length_le (by simp)
                      rw [htk, ← HFN.out] at hG
                      have HG := Lib.hid hG.out
                      clear hG htk hlj
                      go_wp2
                      go_roundw
                      case rel => exact ⟨n + 1, by omega, by go_num, HG.out⟩
                      case measure => (simp [intOf]; try omega)
                · as_aux_lemma =>
                    obtain rfl : n = i := by omega
                    have nI : ¬ (n : Int) < n := by omega
                    have htk : (m.mem :: m.runs).take n = m.mem :: m.runs := List.take_of_length_le (by have := HN.out; simp; omega)
                    rw [htk] at hG
                    have hgl := Ls.gath_all_len HO.out
                    have HGK := Lib.hid (Ls.gath_keys HO.out)
                    generalize Ls.gath (Ls.dGet (m.mem :: m.runs)) ((m.mem :: m.runs).map Ls.kys).flatten = acc at *
                    have HG := Lib.hid hG.out
                    have HS9 := Lib.hid (HS.out.step HFW.out)
                    have HRN := Lib.hid (ls_Runs wr P b m HS9.out.lsm.file HS9.out.lsm.ok)
                    have HRL := Lib.hid (HRG.out.step HG.out.fr)
                    obtain ⟨A5, c5, g5, o5, hq, -⟩ := HK.out 0 (by have := HN.out; omega)
                    have HQ := Lib.hid (fun W (hW : Fr [] wr W) => And.intro (HX.out W (HFW.out.trans hW)) (hq W (HFW.out.trans hW)))
                    rw [show (m.mem :: m.runs).getD 0 [] = m.mem from rfl] at HQ
                    have HER := Lib.hid (fun W (hW : Fr [] wr W) => error_yes ec W (HE.out W ((HS9.out.step hW).fr)))
                    have HKY := Lib.hid (fun W (hW : Fr [] wr W) => ls_Keys W P b m (HS9.out.step hW).lsm.file (HS9.out.step hW).lsm.ok)
                    have HRI := Lib.hid (fun W (hW : Fr [] wr W) => by have h := HG.out.step hW; obtain ⟨ga, hga, hsa⟩ := h.own.sl; exact rising_any W u12 ga acc hsa (sl_lt hsa) hgl)
                    have z0 : (0 : Int) < (n : Int) := by have := HN.out; omega
                    clear hG htk hgl hq hlt
                    go_wp2_with (first
                      | (go_at_call 39; (with_reducible refine useC HRN.out ?_); rintro e w4 ⟨v4, g4, rfl, -, hs4, hf4⟩; have HF4 := Lib.hid hf4; have HS4 := Lib.hid hs4; clear hf4 hs4 b0 b1 b2 hfz; obtain ⟨⟨⟨b0, b1, b2⟩, hfz⟩, q0⟩ := HQ.out w4 HF4.out)
                      | (have h' := HF4; go_at_call 12; (with_reducible refine useC (HER.out w4 HF4.out) ?_); rintro e w5 ⟨rfl, hf5⟩; have HF5 := Lib.hid (HF4.out.trans hf5); have HS5 := Lib.hid (HS4.out.fr hf5 (by simp)); clear hf5 h' b0 b1 b2 hfz q0; obtain ⟨⟨⟨b0, b1, b2⟩, hfz⟩, q0⟩ := HQ.out w5 HF5.out; have hri := (HRL.out.step HF5.out).own.sl; obtain ⟨gr, -, hrs⟩ := hri; have HI5 := Lib.hid (ints_same w5 _ _ _ _ _ HS5.out hrs); clear hrs)
                      | (have h' := HF5; go_at_call 14; (with_reducible refine useC HI5.out ?_); rintro e w6 ⟨rfl, hd⟩; have HF6 := Lib.hid (HF5.out.trans (hd.fr [])); clear hd h' HI5 HS5)
                      | (have h' := HF6; go_at_call 37; (with_reducible refine useC (HKY.out w6 HF6.out) ?_); rintro e w7 ⟨v7, g7, rfl, -, hs7, hf7⟩; have HF7 := Lib.hid (HF6.out.trans hf7); have HS7 := Lib.hid hs7; clear hs7 hf7 h')
                      | (have h' := HF7; go_at_call 15; (with_reducible refine useC (HRI.out w7 HF7.out) ?_); rintro e w8 ⟨v8, g8, rfl, -, hs8, hf8⟩; rw [HGK.out] at hs8; have HF8 := Lib.hid (HF7.out.trans hf8); have HI8 := Lib.hid (ints_same w8 _ _ _ _ _ (HS7.out.fr hf8 (by simp)) hs8); clear hs8 hf8 h')
                      | (have h' := HF8; go_at_call 14; (with_reducible refine useC HI8.out ?_); rintro e w9 ⟨rfl, hd⟩; have HF9 := Lib.hid (HF8.out.trans (hd.fr [])); clear hd h' HI8))
                    have HS10 : Hid (∃ P m, LqS w w9 P b X m m) := ⟨_, _, HS9.out.step HF9.out⟩
                    go_roundw
                    case rel => exact ⟨k + 1, by omega, by omega, by go_num, HS10⟩
                    case measure => (simp [intOf]; try omega)
    · as_aux_lemma =>
        have hend : Hid (¬ ((k : Int) < ls.length) ∨ ((k : Int) < ls.length ∧ ¬ (k : Int) < 80)) := by
          by_cases h : k < ls.length
          · exact .inr ⟨by omega, by omega⟩
          · exact .inl (by omega)
        have HS := Lib.hid hS2
        obtain ⟨gk, ck, gv, cv, hv, -, hx⟩ := lq_xs hS2
        have HX := Lib.hid (hx wr (Fr.refl _ _))
        have hrl : m.runs.length ≤ 900 := by have := hS2.lsm.ok.len; have := hS2.lsm.ok.many; omega
        have HGT := Lib.hid (lq_Get wr _ _ m ask hv hrl)
        have HLG := Lib.hid (fun W (hW : Fr [] wr W) => ls_Get W P b m ask (hS2.step hW).lsm.file (hS2.step hW).lsm.ok)
        have HER := Lib.hid (fun W (hW : Fr [] wr W) => error_yes 5 W (HE.out W ((hS2.step hW).fr)))
        obtain ⟨⟨b0, b1, b2⟩, hfz⟩ := HX.out
        have hdg := Ls.dGet_get hS2.lsm.ok ask
        generalize Ls.dGet (m.mem :: m.runs) ask = d at *
        rw [errV_no (show (5 : Int) ≠ 0 by decide)] at HER
        have hcases : (d < 0 ∧ Ls.getV m ask = 0 ∧ errV (Ls.getE m ask) = .iface 88 (.int .i64 5)) ∨ (¬ d < 0 ∧ Ls.getV m ask = d ∧ errV (Ls.getE m ask) = .nilIface) := by
          unfold Ls.getV Ls.getE
          cases hg : Ls.get m ask with
          | none =>
            rw [hg] at hdg
            refine .inl ⟨?_, rfl, rfl⟩
            by_cases h : d < 0
            · exact h
            · exact absurd (hdg.1.1 (by omega)) (by simp)
          | some x =>
            rw [hg] at hdg
            refine .inr ⟨?_, (hdg.2 x rfl).symm, rfl⟩
            have := hdg.1.2 rfl
            omega
        clear hS hS2 hv hx hdg HF hrl
        rcases hcases with ⟨h1, h2, h3⟩ | ⟨h1, h2, h3⟩
        all_goals
          rw [h2, h3] at HLG
          clear h2 h3
          rcases hend.out with j1 | ⟨j1, j2⟩
          all_goals
            clear hend
            go_wp2_with (first
              | (go_at_call 45; (refine useC HGT.out ?_); rintro e w4 ⟨rfl, hf⟩; have HF4 := Lib.hid hf; clear hf)
              | (have h' := HF4; go_at_call 36; (with_reducible refine useC (HLG.out w4 HF4.out) ?_); rintro e w5 ⟨rfl, hf⟩; have HF5 := Lib.hid (HF4.out.trans hf); clear hf h')
              | (have h' := HF5; go_at_call 12; (with_reducible refine useC (HER.out w5 HF5.out) ?_); rintro e w5 ⟨rfl, hf⟩; have HF5 := Lib.hid (HF5.out.trans hf); clear hf h'))
            go_ret
            exact ⟨rfl, HS.out.fr.trans HF5.out⟩
end Go.Proofs.YtokbhiokcoldbaaDoor
