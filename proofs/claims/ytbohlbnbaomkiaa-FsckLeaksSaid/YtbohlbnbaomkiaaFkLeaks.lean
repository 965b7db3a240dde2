/- FsckLeaks: what is only too many needs no entry to go. -/
import Derived.Test.YtbohlbnbaomkiaaFkMends
import Derived.Test.YtbohlbnbaomkiaaCIn3
import Derived.Test.YtbohlbnbaomkiaaCSet
import Derived.IntWalk
namespace Go.Proofs.Ytbohlbnbaomkiaa
open Go.RowKit

theorem fk_im_of {w : World} {a b c : Value} {g : Nat} {C X : List Int} {E : List (Int × Int)} (h : Sl w a g C) (h' : ImV w (.agg #[c, b]) X E) : ImV w (.agg #[a, b]) C E := by
  obtain ⟨c', e, g1, g2, h0, _, h2⟩ := h'
  injection h0 with h0
  injection h0 with h0
  injection h0 with _ h0
  injection h0 with h0
  subst h0
  exact ⟨a, b, g, g2, rfl, h, h2⟩
theorem g_ne {w : World} {o : Obj} {g n : Nat} {xs : List Int} (h : (w.alloc o).drew.heap.size ≤ g ∨ xs = []) (hl : n < xs.length) : w.heap.size ≠ g := by
  rcases h with h | h
  · have e : (w.alloc o).drew.heap.size = w.heap.size + 1 := World.size_alloc w o
    omega
  · rw [h] at hl; simp at hl
theorem fk_sl_past {w : World} {B g : Nat} {v : Value} {xs : List Int} (h : Sl w v g xs) (hg : B ≠ g) (a b : Value) : Sl ((w.setCell ⟨B, 0, none⟩ a).setCell ⟨B, 1, none⟩ b) v g xs :=
  h.fr (S := [B]) (Fr.setCell (Fr.setCell (Fr.refl _ _) (.inl (by simp)) _) (.inl (by simp)) _) (by simpa using Ne.symm hg)
set_option maxRecDepth 100000 in
set_option maxHeartbeats 8000000 in
theorem fk_leaks (w : World) (v : Value) (C : List Int) (E : List (Int × Int)) (i more : Int) (hv : ImV w v C E) :
    Calls Try.prog 5 #[v, .int .i64 i, .int .i64 more] w (OkT w) := by
  have HV := Lib.hid (fun W (hW : Fr [] w W) => hv.fr hW)
  obtain ⟨A1, c1, A2, c2, rfl⟩ := hv.form
  have HF : Hid (Fr [] w (w.alloc (.cells #[.slice A1 C.length c1, .slice A2 E.length c2] 25))) := (Fr.refl _ _).alloc _
  clear hv
  by_cases hok : Fk.check C E = 0
  · have HOK := Lib.hid hok
    obtain ⟨h8, h12, hoc, hoe⟩ := Fk.check_ok hok
    obtain ⟨k1, k2⟩ := Fk.keeps_len C E
    have K1 := Lib.hid k1
    have hl : (Fk.mendE C E).length ≤ 1000 := by omega
    by_cases hi : 0 ≤ i ∧ i ≤ (C.length : Int) - 1
    · have e1 := decide_eq_true hi
      obtain ⟨n, rfl⟩ : ∃ n : Nat, i = n := ⟨i.toNat, by omega⟩
      have hn : n < C.length := by omega
      have hn2 : (n : Int) < C.length := by omega
      by_cases hm : 0 ≤ more ∧ more ≤ 500
      · have e2 := decide_eq_true hm
        by_cases hz : nth (Fk.mendC C E) n = 0
        · have HZ0 := Lib.hid hz
          clear hz
          clear hok hoc hoe k1 k2
          go_enter Try.func5, Try.ntmps5
          go_wp2_with (first
            | (go_at_call 7; (with_reducible refine useC (fk_fact _) ?_); rintro e w2 ⟨rfl, hf⟩; have HF2 := Lib.hid (HF.out.trans hf); obtain ⟨b0, b1⟩ := (im2_keep _ _ _ hf).cells; clear hf)
            | (go_at_call 8; (with_reducible refine useC (fk_Mend_ok _ _ C E (HV.out _ HF2.out) HOK.out) ?_); rintro e w3 ⟨v3, rfl, hv3, hf3⟩; obtain ⟨vx, vy, g3, g4, rfl, hX, hY⟩ := hv3; obtain ⟨A3, o3, c3, hvx, _, haX, hcX⟩ := hX.form; rw [K1.out] at hvx haX hcX; subst hvx; obtain ⟨A4, o4, c4, rfl, _, haY, hcY⟩ := hY.formE; obtain rfl := haX (by omega); have hcn := hcX n hn; rw [HZ0.out] at hcn; have hg3 : g3 < w3.heap.size := block_lt_of_cell hcn; have HF3 := Lib.hid (HF2.out.trans hf3); clear hf3 hX hY haX hcX haY hcY)
            | (go_at_call 12; (with_reducible refine useC (in3_is _ _ _ true _ e1) ?_); rintro e w2 ⟨rfl, rfl⟩)
            | (go_at_call 12; (with_reducible refine useC (in3_is _ _ _ true _ e2) ?_); rintro e w2 ⟨rfl, rfl⟩))
          go_ret
          exact ⟨rfl, HF3.out.alloc _⟩
        · have hzb : (nth (Fk.mendC C E) n == 0) = false := by simpa using hz
          obtain ⟨l1, l2, l3, l4, l5⟩ := Fk.leaks hok n hn more hm.1 hm.2
          have hb := Fk.mendC_bound C E h8 h12 hoe n hn
          have L1 := Lib.hid l1
          have L2 := Lib.hid l2
          have hcase : ((0 < more ∧ decide (0 < more) = true) ∧ Fk.faults2 ((Fk.mendC C E).set n (nth (Fk.mendC C E) n + more)) (Fk.mendE C E) = [(n : Int)]) ∨ ((¬ 0 < more ∧ decide (0 < more) = false) ∧ Fk.faults2 ((Fk.mendC C E).set n (nth (Fk.mendC C E) n + more)) (Fk.mendE C E) = []) := by
            by_cases hmo : 0 < more
            · exact .inl ⟨⟨hmo, decide_eq_true hmo⟩, by rw [l3, if_pos hmo]⟩
            · exact .inr ⟨⟨hmo, decide_eq_false hmo⟩, by rw [l3, if_neg hmo]⟩
          have L4 := Lib.hid l4
          have L5 := Lib.hid l5
          clear l1 l2 l3 l4 l5 hi hok hoc hoe k1 k2
          obtain ⟨hm1, hm2⟩ := hm
          obtain ⟨hb1, hb2⟩ := hb
          rcases hcase with ⟨⟨hmo, hmd⟩, l3'⟩ | ⟨⟨hmo, hmd⟩, l3'⟩
          all_goals
            have L3 := Lib.hid l3'
            clear l3'
            go_enter Try.func5, Try.ntmps5
            go_wp2_with (first
              | (go_at_call 7; (with_reducible refine useC (fk_fact _) ?_); rintro e w2 ⟨rfl, hf⟩; have HF2 := Lib.hid (HF.out.trans hf); obtain ⟨b0, b1⟩ := (im2_keep _ _ _ hf).cells; clear hf)
              | (go_at_call 8; (with_reducible refine useC (fk_Mend_ok _ _ C E (HV.out _ HF2.out) HOK.out) ?_); rintro e w3 ⟨v3, rfl, hv3, hf3⟩; have HV3 := Lib.hid hv3; obtain ⟨vx, vy, g3, g4, rfl, hX, hY⟩ := hv3; have HX := Lib.hid hX; obtain ⟨A3, o3, c3, hvx, _, haX, hcX⟩ := hX.form; rw [K1.out] at hvx haX hcX; subst hvx; obtain ⟨A4, o4, c4, rfl, _, haY, hcY⟩ := hY.formE; obtain rfl := haX (by omega); have hcn := hcX n hn; have hg3 : g3 < w3.heap.size := block_lt_of_cell hcn; have HCN := Lib.hid (fun W (hW : Fr [] w3 W) => hW.cell hcn (by simp)); have HF3 := Lib.hid (HF2.out.trans hf3); clear hf3 hX hY haX hcX haY hcY)
              | (go_at_call 12; (with_reducible refine useC (in3_is _ _ _ true _ e1) ?_); rintro e w2 ⟨rfl, rfl⟩)
              | (go_at_call 12; (with_reducible refine useC (in3_is _ _ _ true _ e2) ?_); rintro e w2 ⟨rfl, rfl⟩))
            have HF4 := Lib.hid ((Fr.refl [] w3).alloc (.cells #[.slice (some ⟨g3, o3, none⟩) C.length c3, .slice A4 (Fk.mendE C E).length c4] 25))
            have HX4 := Lib.hid (im2_new w3 (.slice (some ⟨g3, o3, none⟩) C.length c3) (.slice A4 (Fk.mendE C E).length c4))
            revert HX4
            revert HF4
            generalize (w3.alloc (.cells #[.slice (some ⟨g3, o3, none⟩) C.length c3, .slice A4 (Fk.mendE C E).length c4] 25)) = w4
            intro HF4 HX4
            clear b0 b1 hcn hg3
            generalize hxb : w3.heap.size = xb at *
            clear hxb
            generalize hx : nth (Fk.mendC C E) n = x at *
            have HK := Lib.hid (fun W (hW : Fr [] w4 W) => And.intro ((HX4.out.fr hW).cells).1 (And.intro ((HX4.out.fr hW).cells).2 (HCN.out W (HF4.out.trans hW))))
            have HSET := Lib.hid (fun W (hW : Fr [] w4 W) => set_any W _ _ _ n (x + more) (HX.out.fr (HF4.out.trans hW) (by simp)) (by rw [K1.out]; exact hn) (by rw [K1.out]; omega))
            have cw1 : IntKind.i64.wrap (x + more) = x + more := IntWalk.i64_in _ (by omega)
            clear hx
            obtain ⟨q0, q1, q2⟩ := HK.out _ (Fr.refl [] w4)
            go_region_held3 (fun W => Fr [] w4 W ∧ W.cell? ⟨xb, 0, none⟩ = some (.slice (some ⟨g3, o3, none⟩) C.length c3) ∧ W.cell? ⟨xb, 1, none⟩ = some (.slice A4 (Fk.mendE C E).length c4) ∧ W.cell? ⟨g3, o3 + n, none⟩ = some (.int .i64 x)) ((refine (fun hf => ⟨hf, HK.out _ hf⟩) ?_; first | assumption | exact (Fr.refl _ _).drew | exact (Fr.refl _ _).drew.alloc _ | exact ((Fr.refl _ _).alloc _).drew | exact Fr.alloc (by assumption) _ | exact Fr.setCell (Fr.setCell (by assumption) (.inr (Nat.le_refl _)) _) (.inr (Nat.le_refl _)) _)) (first
              | (go_at_call 13; (with_reducible refine (HSET.out _ (Fr.refl _ _).drew).mono ?_); rintro e w5 ⟨v5, g5, rfl, hg5, hs5, hf5⟩; obtain ⟨A5, o5, c5, hv5, _, _, _⟩ := hs5.form; rw [List.length_set, K1.out] at hv5; subst hv5; have HS5 := Lib.hid hs5; clear hs5; have hF5 : Fr [] w4 w5 := (Fr.refl _ _).drew.trans hf5; clear hg5 hf5)
              | (go_at_call 13; (with_reducible refine (HSET.out _ ((Fr.refl _ _).alloc _).drew).mono ?_); rintro e w5 ⟨v5, g5, rfl, hg5, hs5, hf5⟩; obtain ⟨A5, o5, c5, hv5, _, _, _⟩ := hs5.form; rw [List.length_set, K1.out] at hv5; subst hv5; have HS5 := Lib.hid hs5; clear hs5; have hF5 : Fr [] w4 w5 := ((Fr.refl _ _).alloc _).drew.trans hf5; have hy := (im2_new w4 (.slice none 0 0) (.slice none 0 0)).fr ((Fr.refl [] _).drew.trans hf5); have HY := Lib.hid hy; obtain ⟨y0, y1⟩ := hy.cells; have y2 := fun i => free_block hy i none; have HG := Lib.hid (g_ne (n := n) hg5 (by rw [List.length_set, K1.out]; exact hn)); clear hy; clear hg5 hf5)
              | (fail))
            all_goals (first
              | (have HY' := HY; have HZ : Hid (Im2 ((w5.setCell ⟨w4.heap.size, 0, none⟩ (.slice A5 C.length c5)).setCell ⟨w4.heap.size, 1, none⟩ (.slice A4 (Fk.mendE C E).length c4)) w4.heap.size (.slice A5 C.length c5) (.slice A4 (Fk.mendE C E).length c4)) := set_block (set_block HY.out _) _; have HFZ : Hid (Fr [] w4 ((w5.setCell ⟨w4.heap.size, 0, none⟩ (.slice A5 C.length c5)).setCell ⟨w4.heap.size, 1, none⟩ (.slice A4 (Fk.mendE C E).length c4))) := Fr.setCell (Fr.setCell hF5 (.inr (Nat.le_refl _)) _) (.inr (Nat.le_refl _)) _; have HSZ : Hid (Sl ((w5.setCell ⟨w4.heap.size, 0, none⟩ (.slice A5 C.length c5)).setCell ⟨w4.heap.size, 1, none⟩ (.slice A4 (Fk.mendE C E).length c4)) (.slice A5 C.length c5) g5 ((Fk.mendC C E).set n (x + more))) := fk_sl_past HS5.out HG.out _ _; clear y0 y1 y2; revert HSZ; revert HFZ; revert HZ; generalize ((w5.setCell ⟨w4.heap.size, 0, none⟩ (.slice A5 C.length c5)).setCell ⟨w4.heap.size, 1, none⟩ (.slice A4 (Fk.mendE C E).length c4)) = wZ; generalize w4.heap.size = zb; intro HZ HFZ HSZ)
              | (have HZ := Lib.hid (im2_new w5 (.slice A5 C.length c5) (.slice A4 (Fk.mendE C E).length c4)); have HFZ : Hid (Fr [] w4 (w5.alloc (.cells #[.slice A5 C.length c5, .slice A4 (Fk.mendE C E).length c4] 25))) := hF5.alloc _; have HSZ : Hid (Sl (w5.alloc (.cells #[.slice A5 C.length c5, .slice A4 (Fk.mendE C E).length c4] 25)) (.slice A5 C.length c5) g5 ((Fk.mendC C E).set n (x + more))) := HS5.out.fr ((Fr.refl [] _).alloc _) (by simp); revert HSZ; revert HFZ; revert HZ; generalize (w5.alloc (.cells #[.slice A5 C.length c5, .slice A4 (Fk.mendE C E).length c4] 25)) = wZ; generalize w5.heap.size = zb; intro HZ HFZ HSZ))
            all_goals
              have HVZ := Lib.hid (fun W (hW : Fr [] wZ W) => (show ImV W (.agg #[.slice A5 C.length c5, .slice A4 (Fk.mendE C E).length c4]) ((Fk.mendC C E).set n (x + more)) (Fk.mendE C E) from fk_im_of (HSZ.out.fr hW (by simp)) (HV3.out.fr ((HF4.out.trans HFZ.out).trans hW))))
              have HVX := Lib.hid (fun W (hW : Fr [] wZ W) => HV3.out.fr ((HF4.out.trans HFZ.out).trans hW))
              have HXZ := Lib.hid (fun W (hW : Fr [] wZ W) => (HX4.out.fr (HFZ.out.trans hW)).cells)
              obtain ⟨b0, b1⟩ := HZ.out.cells
              clear q0 q1 q2
              go_wp2_with (first
                | (go_at_call 9; (with_reducible refine useC (fk_Faults_ok _ _ _ _ (HVZ.out _ (Fr.refl _ _)) L1.out) ?_); rintro e w6 ⟨v1, v2, rfl, ho1, ho2, hf6⟩; rw [L2.out] at ho1; rw [L3.out] at ho2; obtain ⟨_, _, hs1⟩ := ho1.sl; obtain ⟨_, _, k1, rfl, _⟩ := hs1.form; obtain ⟨_, _, hs2⟩ := ho2.sl; obtain ⟨_, _, k2, rfl, _⟩ := hs2.form; obtain ⟨b2, b3⟩ := Im2.cells (HZ.out.fr hf6); have HF6 := Lib.hid hf6; clear ho1 ho2 hs1 hs2 hf6)
                | (go_at_call 8; (with_reducible refine useC (fk_Mend_ok _ _ _ _ (HVZ.out _ HF6.out) L1.out) ?_); rintro e w7 ⟨v7, rfl, hv7, hf7⟩; rw [L4.out, L5.out] at hv7; have HV7 := Lib.hid hv7; obtain ⟨A7, c7, A8, c8, hvx⟩ := hv7.form; rw [K1.out] at hvx; subst hvx; have HF7 := Lib.hid (HF6.out.trans hf7); obtain ⟨b4, b5⟩ := HXZ.out w7 (HF6.out.trans hf7); have hlt7 := block_lt_of_cell b4; clear hv7 hf7)
                | (go_at_call 10; (with_reducible refine useC (fk_images _ _ _ _ _ (HV7.out.fr ((Fr.refl [] _).alloc _)) (HVX.out _ (HF7.out.alloc _)) hl) ?_); rintro e w8 ⟨rfl, hf8⟩; have HF8 := Lib.hid (((HF3.out.trans (HF4.out.trans HFZ.out)).trans (HF7.out.alloc _)).trans hf8); clear hf8))
              go_ret
              exact ⟨rfl, HF8.out⟩
      · have e2 := decide_eq_false hm
        clear hm
        clear hok hoc hoe k1 k2
        go_enter Try.func5, Try.ntmps5
        go_wp2_with (first
          | (go_at_call 7; (with_reducible refine useC (fk_fact _) ?_); rintro e w2 ⟨rfl, hf⟩; have HF2 := Lib.hid (HF.out.trans hf); obtain ⟨b0, b1⟩ := (im2_keep _ _ _ hf).cells; clear hf)
          | (go_at_call 8; (with_reducible refine useC (fk_Mend_ok _ _ C E (HV.out _ HF2.out) HOK.out) ?_); rintro e w3 ⟨v3, rfl, hv3, hf3⟩; obtain ⟨vx, vy, g3, g4, rfl, hX, hY⟩ := hv3; obtain ⟨A3, o3, c3, hvx, _, haX, hcX⟩ := hX.form; rw [K1.out] at hvx haX hcX; subst hvx; obtain ⟨A4, o4, c4, rfl, _, haY, hcY⟩ := hY.formE; have HF3 := Lib.hid (HF2.out.trans hf3); clear hf3 hX hY haX hcX haY hcY)
          | (go_at_call 12; (with_reducible refine useC (in3_is _ _ _ true _ e1) ?_); rintro e w2 ⟨rfl, rfl⟩)
          | (go_at_call 12; (with_reducible refine useC (in3_is _ _ _ false _ e2) ?_); rintro e w2 ⟨rfl, rfl⟩))
        go_ret
        exact ⟨rfl, HF3.out.alloc _⟩
    · have e1 := decide_eq_false hi
      clear hi
      clear hok hoc hoe k1 k2
      go_enter Try.func5, Try.ntmps5
      go_wp2_with (first
        | (go_at_call 7; (with_reducible refine useC (fk_fact _) ?_); rintro e w2 ⟨rfl, hf⟩; have HF2 := Lib.hid (HF.out.trans hf); obtain ⟨b0, b1⟩ := (im2_keep _ _ _ hf).cells; clear hf)
        | (go_at_call 8; (with_reducible refine useC (fk_Mend_ok _ _ C E (HV.out _ HF2.out) HOK.out) ?_); rintro e w3 ⟨v3, rfl, hv3, hf3⟩; obtain ⟨vx, vy, g3, g4, rfl, hX, hY⟩ := hv3; obtain ⟨A3, o3, c3, hvx, _, haX, hcX⟩ := hX.form; rw [K1.out] at hvx haX hcX; subst hvx; obtain ⟨A4, o4, c4, rfl, _, haY, hcY⟩ := hY.formE; have HF3 := Lib.hid (HF2.out.trans hf3); clear hf3 hX hY haX hcX haY hcY)
        | (go_at_call 12; (with_reducible refine useC (in3_is _ _ _ false _ e1) ?_); rintro e w2 ⟨rfl, rfl⟩))
      go_ret
      exact ⟨rfl, HF3.out.alloc _⟩
  · have HOK := Lib.hid hok
    have HNE := Lib.hid (errV_no hok)
    clear hok
    go_enter Try.func5, Try.ntmps5
    go_wp2_with (first
      | (go_at_call 7; (with_reducible refine useC (fk_fact _) ?_); rintro e w2 ⟨rfl, hf⟩; have HF2 := Lib.hid (HF.out.trans hf); obtain ⟨b0, b1⟩ := (im2_keep _ _ _ hf).cells; clear hf)
      | (go_at_call 8; (with_reducible refine useC (fk_Mend_bad _ _ C E (HV.out _ HF2.out) HOK.out) ?_); rintro e w3 ⟨rfl, hf3⟩; have HF3 := Lib.hid (HF2.out.trans hf3); clear hf3))
    go_ret
    exact ⟨rfl, HF3.out.alloc _⟩
end Go.Proofs.Ytbohlbnbaomkiaa
