/- The contract of the reference's Move. -/
import Derived.Test.YtmgalnkcpolafaaDoorFxRef2
import Derived.Test.YtmgalnkcpolafaaDoorCSetO
namespace Go.Proofs.YtmgalnkcpolafaaDoor
open Go.RowKit

/-- What a number names is within the rows. -/
def Fx.Fit (x : Fx.X) (fd : Int) : Prop := Fx.wrong x fd = 0 → (Fx.key x fd < x.pl.length ∧ Fx.key x fd < x.sz.length) ∧ nth x.of_ fd.toNat = (Fx.key x fd : Nat) ∧ 0 ≤ nth x.pl (Fx.key x fd) ∧ nth x.pl (Fx.key x fd) ≤ nth x.sz (Fx.key x fd) ∧ nth x.sz (Fx.key x fd) ≤ 64
theorem Fx.wrong_in {x : Fx.X} {fd : Int} (hw : Fx.wrong x fd = 0) : 0 ≤ fd ∧ fd ≤ 7 := by
  unfold Fx.wrong at hw
  split at hw
  · assumption
  · cases hw
set_option maxRecDepth 100000 in
set_option maxHeartbeats 4000000 in
theorem fx_Move (w : World) (G : Nat → Prop) (v : Value) (x : Fx.X) (fd by_ : Int) (hv : FxV G w v x) (h8 : x.of_.length = 8) (hfit : Fx.Fit x fd) (hln : x.pl.length ≤ 1000000) (hG : ∀ k, w.heap.size ≤ k → G k) :
    Calls Tryd.prog 21 #[v, .int .i64 fd, .int .i64 by_] w (FxA G (Fx.move x fd by_) w) := by
  obtain ⟨a, b, c, rfl, h1, h2, h3, h4⟩ := hv
  have hQ0 := Lib.hid (FxQ.start w h1 h2 h3 h4 hG)
  obtain ⟨A1, c1, rfl⟩ := h1.slice
  obtain ⟨A2, c2, rfl⟩ := h2.slice
  obtain ⟨A3, c3, rfl⟩ := h3.slice
  have H8 := Lib.hid h8
  have HFT := Lib.hid hfit
  have HLN := Lib.hid hln
  clear h1 h2 h3 h4 hG h8 hfit hln
  go_enter Tryd.func21, Tryd.ntmps21
  go_wp2_with fail
  revert hQ0
  generalize (w.alloc (.cells #[.slice A1 x.of_.length c1, .slice A2 x.sz.length c2, .slice A3 x.pl.length c3] 38)).alloc (.cells #[.slice none 0 0, .slice none 0 0, .slice none 0 0] 38) = w1
  intro hQ0
  generalize w.heap.size = B at *
  refine useC (fx_Wrong w1 _ _ x fd hQ0.out.val H8.out) ?_
  rintro e w2 ⟨rfl, hf2⟩
  have hQ2 := Lib.hid (hQ0.out.step hf2)
  obtain ⟨x0, x1, x2⟩ := hQ2.out.box.cells
  obtain ⟨o0, o1, o2⟩ := hQ2.out.out.cells
  have hfo := fun i => free_block hQ2.out.out i none
  have HE := Lib.hid hQ2.out.fin
  clear hf2 hQ0
  by_cases hw : Fx.wrong x fd = 0
  · have hw0 := Fx.wrong_in hw
    obtain ⟨⟨q1, q2⟩, q3, q4, q5, q6⟩ := HFT.out hw
    have er0 := Lib.hid (show Fx.move x fd by_ = (if -nth x.pl (Fx.key x fd) ≤ by_ ∧ by_ ≤ nth x.sz (Fx.key x fd) - nth x.pl (Fx.key x fd) then (⟨x.of_, x.sz, x.pl.set (Fx.key x fd) (nth x.pl (Fx.key x fd) + by_)⟩, nth x.pl (Fx.key x fd) + by_, 0) else (x, 0, 1)) from by unfold Fx.move; rw [if_pos hw])
    rw [hw]
    obtain ⟨n, rfl⟩ : ∃ n : Nat, fd = n := ⟨fd.toNat, by omega⟩
    rw [Int.toNat_natCast] at q3
    have hn8 : n < 8 := by omega
    have n0 : (0 : Int) ≤ n := by omega
    have n8 : (n : Int) < 8 := by omega
    obtain ⟨g1, hg1, hs1⟩ := hQ2.out.r1
    obtain ⟨oo1, cc1, e1, k1, -, k3⟩ := hs1.form2 (by rw [H8.out]; decide)
    injection e1 with e1 _ e2
    subst e1 e2
    have HC1 := Lib.hid (fun W (hW : Fr [] w2 W) => hW.cell (k3 n (by rw [H8.out]; exact hn8)) (by simp))
    obtain ⟨g2, cc2, e1, -, m3⟩ := hQ2.out.r2.row (by omega)
    injection e1 with e1 _ e2
    subst e1 e2
    have HC2 := Lib.hid (fun W (hW : Fr [] w2 W) => hW.cell (m3 _ q2) (by simp))
    have hr3 := hQ2.out.r3
    obtain ⟨g3, cc3, e1, -, j3⟩ := hr3.row (by omega)
    injection e1 with e1 _ e2
    subst e1 e2
    have HC3 := Lib.hid (fun W (hW : Fr [] w2 W) => hW.cell (j3 _ q1) (by simp))
    rw [q3] at HC1
    have HSET := Lib.hid (fun y => set_own w2.drew.drew _ _ x.pl (Fx.key x n) y ((hr3.2.kept (Fr.refl [] w2).drew.drew (by simp)).sl.choose_spec.2) q1 HLN.out)
    have H8' := H8.out
    rw [H8.out] at hQ2 HE x0 ⊢
    clear hs1 hr3 k1 k3 m3 j3 hw HFT q3 hw0 hfo hg1 o0 o1 o2
    generalize Fx.key x n = k at *
    generalize nth x.pl k = p at *
    generalize nth x.sz k = s at *
    have k0 : (0 : Int) ≤ k := by omega
    have kp : (k : Int) < x.pl.length := by omega
    have ks : (k : Int) < x.sz.length := by omega
    have c1' := HC1.out w2 (Fr.refl _ _)
    have c2' := HC2.out w2 (Fr.refl _ _)
    have c3' := HC3.out w2 (Fr.refl _ _)
    go_wp2_with fail
    (refine wp_region_mixq 18 [(true, 0), (true, 1), (true, 2), (true, 3), (true, 4), (true, 5), (true, 6), (true, 7), (true, 8), (true, 9), (true, 10), (true, 11), (true, 12), (true, 13), (true, 14), (true, 15), (true, 16), (true, 17)] (by kernel_rfl) (by kernel_rfl) ?_; simp only [pickOps, List.map_cons, List.map_nil, List.getD_cons_zero, List.getD_cons_succ, List.drop_succ_cons, List.drop_zero]; (iterate 18 (first | (refine wpMix_take (v := ?_) (by rfl) ?_ ?_; rotate_left; (focus (intro W hW; subst hW; go_simp; (try with_reducible rfl); done)); try simp only [Act.put, List.setIfInBounds_toArray, List.set_cons_zero, List.set_cons_succ]) | (refine wpMix_leave (by rfl) ?_; try simp only [Act.put, List.setIfInBounds_toArray, List.set_cons_zero, List.set_cons_succ]))); refine wpMix_nil ?_)
    by_cases hb : -p ≤ by_ ∧ by_ ≤ s - p
    · have e1 := decide_eq_true hb
      obtain ⟨b1, b2⟩ := hb
      have er := Lib.hid (show Fx.move x n by_ = (⟨x.of_, x.sz, x.pl.set k (p + by_)⟩, p + by_, 0) from by rw [er0.out, if_pos ⟨b1, b2⟩])
      have HS5 : Hid (Calls Tryd.prog 20 #[.slice (some ⟨g3, 0, none⟩) x.pl.length c3, .int .i64 k, .int .i64 (p + by_)] w2.drew.drew fun e w4 => ∃ g4 m, e = .returned (.slice (some ⟨g4, 0, none⟩) x.pl.length m) ∧ g4 ≠ B + 1 ∧ g4 ≠ B ∧ w4.cell? ⟨g4, k, none⟩ = some (.int .i64 (p + by_)) ∧ FxQ G w w4 B (.slice (some ⟨g1, oo1, none⟩) 8 c1) (.slice (some ⟨g2, 0, none⟩) x.sz.length c2) (.slice (some ⟨g3, 0, none⟩) x.pl.length c3) x ∧ FxQ G w (w4.setCell ⟨B, 2, none⟩ (.slice (some ⟨g4, 0, none⟩) x.pl.length m)) B (.slice (some ⟨g1, oo1, none⟩) 8 c1) (.slice (some ⟨g2, 0, none⟩) x.sz.length c2) (.slice (some ⟨g4, 0, none⟩) x.pl.length m) ⟨x.of_, x.sz, x.pl.set k (p + by_)⟩) := by
        refine (HSET.out (p + by_)).mono fun _ w4 hn => ?_
        obtain ⟨v4, r1, r2, r3⟩ := hn
        have hQd := hQ2.out.step (Fr.refl [] w2).drew.drew
        have r4 : OwnG (FxG G B) w4 v4 _ := OwnG.made r2 hQd.new
        have r5 := hQd.step r3
        have r6 := hQd.put2 r3.nil r2
        have hl : (x.pl.set k (p + by_)).length = x.pl.length := List.length_set
        obtain ⟨g4, m, e4, hg4, z3⟩ := r4.row (by rw [hl]; omega)
        have hc4 := z3 k (by rw [hl]; exact q1)
        rw [Sp.nth_set _ _ _ _ q1, if_pos rfl] at hc4
        rw [hl] at e4
        subst e4
        exact ⟨g4, m, r1, hg4.2.1, hg4.1, hc4, r5, r6⟩
      clear er0 HSET
      go_wp2_with (go_at_call 39; (with_reducible refine useC (r2in_is by_ (-p) (s - p) true _ e1) ?_); rintro e w3 ⟨rfl, rfl⟩)
      (refine wp_region_mixq 10 [(true, 0), (true, 1), (true, 2), (true, 3), (true, 4), (true, 5), (true, 6), (true, 7), (true, 8), (true, 9)] (by kernel_rfl) (by kernel_rfl) ?_; simp only [pickOps, List.map_cons, List.map_nil, List.getD_cons_zero, List.getD_cons_succ, List.drop_succ_cons, List.drop_zero]; (iterate 10 (first | (refine wpMix_take (v := ?_) (by rfl) ?_ ?_; rotate_left; (focus (intro W hW; subst hW; go_simp; (try with_reducible rfl); done)); try simp only [Act.put, List.setIfInBounds_toArray, List.set_cons_zero, List.set_cons_succ]) | (refine wpMix_leave (by rfl) ?_; try simp only [Act.put, List.setIfInBounds_toArray, List.set_cons_zero, List.set_cons_succ]))); refine wpMix_nil ?_)
      clear x0 x1 x2 c1' c2' c3' HE
      go_wp2_with (go_at_call 20; (with_reducible refine useC HS5.out ?_); rintro e w4 ⟨g4, m, rfl, z1, z2, z3, hq, hq5⟩; have HQ5 := Lib.hid hq5; have HZ3 := Lib.hid z3; obtain ⟨x0, x1, x2⟩ := hq.box.cells; have hfb := free_block hq.box 2 none; clear hq hq5 HS5 z3)
      clear x0 x1 x2 hfb
      have HZ5 : Hid ((w4.setCell ⟨B, 2, none⟩ (.slice (some ⟨g4, 0, none⟩) x.pl.length m)).cell? ⟨g4, k, none⟩ = some (.int .i64 (p + by_))) := Fr.cell (S := [B]) ((Fr.refl _ w4).setCell (.inl (by simp)) _) HZ3.out (by simpa using z2)
      clear HZ3
      generalize w4.setCell ⟨B, 2, none⟩ (.slice (some ⟨g4, 0, none⟩) x.pl.length m) = w5 at *
      (refine wp_region_mix (Fr [B + 1] w5 ·) 7 [(true, 0), (true, 1), (true, 2), (true, 3), (true, 4), (true, 5), (false, 6)] (by kernel_rfl) (by kernel_rfl) ((Fr.refl _ _).drew) ?_; simp only [pickOps, List.map_cons, List.map_nil, List.getD_cons_zero, List.getD_cons_succ, List.drop_succ_cons, List.drop_zero])
      (iterate 6 (first | (refine wpMix_take (v := ?_) (by rfl) ?_ ?_; rotate_left; (focus (intro W hW; (obtain ⟨y0, y1, y2⟩ := FxX.cells (hW.get HQ5.out.box (by simp)); have y3 := hW.cell HZ5.out (by simpa using z1)); go_simp; (try with_reducible rfl); done)); try simp only [Act.put, List.setIfInBounds_toArray, List.set_cons_zero, List.set_cons_succ]) | (refine wpMix_leave (by rfl) ?_; try simp only [Act.put, List.setIfInBounds_toArray, List.set_cons_zero, List.set_cons_succ])))
      refine wpMix_walk ?_
      have HQd := Lib.hid (HQ5.out.step (Fr.refl [] w5).drew)
      have HE := Lib.hid HQd.out.fin
      obtain ⟨o0, o1, o2⟩ := HQ5.out.out.cells
      have hfo := fun i => free_block HQ5.out.out i none
      go_wp2
      refine MixQ.mk (((((Fr.refl [B + 1] w5).drew.setCell (p := ⟨B + 1, 0, none⟩) (.inl (by simp)) _).setCell (p := ⟨B + 1, 1, none⟩) (.inl (by simp)) _).setCell (p := ⟨B + 1, 2, none⟩) (.inl (by simp)) _)) ?_
      refine wpMix_nil ?_
      go_wp2
      exact bodyPost_ret (v := .tuple #[.agg #[.slice (some ⟨g1, oo1, none⟩) 8 c1, .slice (some ⟨g2, 0, none⟩) x.sz.length c2, .slice (some ⟨g4, 0, none⟩) x.pl.length m], .int .i64 (p + by_), .int .i64 0]) (fx_results Tryd.results21 rfl rfl rfl HE.out.1) rfl ⟨_, by rw [er.out], by rw [er.out]; exact HE.out.2.1, HE.out.2.2⟩
    · have e1 := decide_eq_false hb
      have er := Lib.hid (show Fx.move x n by_ = (x, 0, 1) from by rw [er0.out, if_neg hb])
      have HQd := Lib.hid (hQ2.out.step (Fr.refl [] w2).drew)
      clear HE
      have HE := Lib.hid HQd.out.fin
      obtain ⟨o0, o1, o2⟩ := hQ2.out.out.cells
      have hfo := fun i => free_block hQ2.out.out i none
      clear er0 HSET hb
      go_wp2_with (go_at_call 39; (with_reducible refine useC (r2in_is by_ (-p) (s - p) false _ e1) ?_); rintro e w3 ⟨rfl, rfl⟩)
      exact bodyPost_ret (v := .tuple #[.agg #[.slice (some ⟨g1, oo1, none⟩) 8 c1, .slice (some ⟨g2, 0, none⟩) x.sz.length c2, .slice (some ⟨g3, 0, none⟩) x.pl.length c3], .int .i64 0, .int .i64 1]) (fx_results Tryd.results21 rfl rfl rfl HE.out.1) rfl ⟨_, by rw [er.out], by rw [er.out]; exact HE.out.2.1, HE.out.2.2⟩
  · have er := Lib.hid (show Fx.move x fd by_ = (x, 0, Fx.wrong x fd) from by unfold Fx.move; rw [if_neg hw])
    generalize Fx.wrong x fd = k at *
    go_wp2
    exact bodyPost_ret (v := .tuple #[.agg #[.slice A1 x.of_.length c1, .slice A2 x.sz.length c2, .slice A3 x.pl.length c3], .int .i64 0, .int .i64 k]) (fx_results Tryd.results21 rfl rfl rfl HE.out.1) rfl ⟨_, by rw [er.out], by rw [er.out]; exact HE.out.2.1, HE.out.2.2⟩
end Go.Proofs.YtmgalnkcpolafaaDoor
