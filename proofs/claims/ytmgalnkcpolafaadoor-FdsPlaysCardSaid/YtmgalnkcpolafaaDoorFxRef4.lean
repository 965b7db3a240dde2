/- The contract of the reference's Open. Printed by wip/gen_fxopen.py. -/
import Derived.Test.YtmgalnkcpolafaaDoorFxPush
namespace Go.Proofs.YtmgalnkcpolafaaDoor
open Go.RowKit

theorem Fk.own0 {w5 W : World} {B : Nat} {a b c old : Value} {sz : List Int} {y : Int} {l0 l1 : Option Nat} (h : Fk w5 W B a b c sz y 0 old old l0 l1) : Own W 0 3 old sz := h.row.2
set_option maxRecDepth 100000 in
set_option maxHeartbeats 8000000 in
theorem fx_Open (w : World) (G : Nat → Prop) (v : Value) (x : Fx.X) (size : Int) (hv : FxV G w v x) (h8 : x.of_.length = 8) (hln : x.sz.length < 1000) (hlp : x.pl.length < 1000) (hG : ∀ k, w.heap.size ≤ k → G k) :
    Calls Tryd.prog 16 #[v, .int .i64 size] w (FxA G (Fx.opn x size) w) := by
  obtain ⟨a, b, c, rfl, h1, h2, h3, h4⟩ := hv
  have hQ0 := Lib.hid (FxQ.start w h1 h2 h3 h4 hG)
  obtain ⟨A1, c1, rfl⟩ := h1.slice
  obtain ⟨A2, c2, rfl⟩ := h2.slice
  obtain ⟨A3, c3, rfl⟩ := h3.slice
  have H8 := Lib.hid h8
  have HL8 := Lib.hid (Fx.least_le x.of_ 8 0)
  have HLN := Lib.hid hln
  have HLP := Lib.hid hlp
  clear h1 h2 h3 h4 hG h8 hln hlp
  go_enter Tryd.func16, Tryd.ntmps16
  go_wp2_with fail
  revert hQ0
  generalize (w.alloc (.cells #[.slice A1 x.of_.length c1, .slice A2 x.sz.length c2, .slice A3 x.pl.length c3] 38)).alloc (.cells #[.slice none 0 0, .slice none 0 0, .slice none 0 0] 38) = w1
  intro hQ0
  generalize w.heap.size = B at *
  obtain ⟨x0, x1, x2⟩ := hQ0.out.box.cells
  by_cases hs : 0 ≤ size ∧ size ≤ 64
  · have e1 := decide_eq_true hs
    have er0 := Lib.hid (show Fx.opn x size = if Fx.least x = 8 then (x, 0, 4) else (⟨x.of_.set (Fx.least x) (x.sz.length : Nat), x.sz ++ [size], x.pl ++ [0]⟩, ((Fx.least x : Nat) : Int), 0) from by unfold Fx.opn; rw [if_pos hs])
    clear hs
    refine useC (r2in_is size 0 64 true w1 e1) ?_
    rintro e w1 ⟨rfl, rfl⟩
    go_wp2_with fail
    refine useC (fx_least w1 _ _ x hQ0.out.val H8.out) ?_
    rintro e w3 ⟨rfl, hf3⟩
    have hQ3 := Lib.hid (hQ0.out.step hf3)
    clear hf3 hQ0 x0 x1 x2
    obtain ⟨x0, x1, x2⟩ := hQ3.out.box.cells
    by_cases hl : Fx.least x = 8
    · have er := Lib.hid (show Fx.opn x size = (x, 0, 4) from by rw [er0.out, if_pos hl])
      have HE := Lib.hid hQ3.out.fin
      obtain ⟨o0, o1, o2⟩ := hQ3.out.out.cells
      have hfo := fun i => free_block hQ3.out.out i none
      rw [hl]
      clear hl
      go_wp2
      exact bodyPost_ret (v := .tuple #[.agg #[.slice A1 x.of_.length c1, .slice A2 x.sz.length c2, .slice A3 x.pl.length c3], .int .i64 0, .int .i64 4]) (fx_results Tryd.results16 rfl rfl rfl HE.out.1) rfl ⟨_, by rw [er.out], by rw [er.out]; exact HE.out.2.1, HE.out.2.2⟩
    · have er := Lib.hid (show Fx.opn x size = (⟨x.of_.set (Fx.least x) (x.sz.length : Nat), x.sz ++ [size], x.pl ++ [0]⟩, ((Fx.least x : Nat) : Int), 0) from by rw [er0.out, if_neg hl])
      have hl8 : Fx.least x < 8 := by have := HL8.out; unfold Fx.least at hl ⊢; omega
      clear er0 HL8
      generalize Fx.least x = i at *
      have i0 : (i : Int) ≠ 8 := by omega
      clear hl
      have HC1 : Hid (Calls Tryd.prog 20 #[.slice A1 x.of_.length c1, .int .i64 i, .int .i64 (x.sz.length : Nat)] w3 fun e w2 => ∃ A m, e = .returned (.slice A 8 m) ∧ FxQ G w w2 B (.slice A1 x.of_.length c1) (.slice A2 x.sz.length c2) (.slice A3 x.pl.length c3) x ∧ FxQ G w (w2.setCell ⟨B, 0, none⟩ (.slice A 8 m)) B (.slice A 8 m) (.slice A2 x.sz.length c2) (.slice A3 x.pl.length c3) ⟨x.of_.set i (x.sz.length : Nat), x.sz, x.pl⟩) := by
        obtain ⟨g1, _, hs1⟩ := hQ3.out.r1
        refine (set_any w3 _ g1 x.of_ i (x.sz.length : Nat) hs1 (by rw [H8.out]; exact hl8) (by rw [H8.out]; decide)).mono fun _ _ hn => ?_
        obtain ⟨A, m, q1, q2, q3⟩ := hQ3.out.row rfl hn
        rw [List.length_set, H8.out] at q1 q2
        exact ⟨A, m, q1, q3, q3.put0 q2⟩
      go_wp2_with (go_at_call 20; (with_reducible refine useC HC1.out ?_); rintro e w4 ⟨A4, c4, rfl, hq, hq5⟩; have HQ5 := Lib.hid hq5; clear x0 x1 x2; obtain ⟨x0, x1, x2⟩ := hq.box.cells; have hfb := free_block hq.box 0 none; clear hq hq5 HC1)
      clear x0 x1 x2 hfb
      generalize w4.setCell ⟨B, 0, none⟩ (.slice A4 8 c4) = w5 at *
      have HQd := Lib.hid (HQ5.out.step (Fr.refl [] w5).drew)
      generalize hXZ : x.sz = xz at *
      generalize hXP : x.pl = xp at *
      have HXZ := Lib.hid hXZ
      have HXP := Lib.hid hXP
      clear hXZ hXP hQ3
      have HK : Hid (Fk w5.drew w5.drew B (.slice A4 8 c4) (.slice A2 xz.length c2) (.slice A3 xp.length c3) xz size 0 (.slice A2 xz.length c2) (.slice A2 xz.length c2) none none) :=
        ⟨HQd.out.box, Fr.refl _ _, HQd.out.r2.2, fun e => (HQd.out.r2.1 B e).1 rfl, ⟨rfl, HQd.out.r2.2⟩, FkLit.none _ _ _, FkLit.none _ _ _, HLN.out, Nat.lt_of_succ_lt HQd.out.lt⟩
      (refine wp_region_fork (fun W => FxX W B (.slice A4 8 c4) (.slice A2 xz.length c2) (.slice A3 xp.length c3)) 15 (Plan.take 0 (.take 1 (.take 4 (.take 5 (.take 6 (.take 8 (.take 9 (.take 10 (.take 12 (.both 2 (.both 3 (.both 7 (.take 11 (.walk 13 (.walk 14 .stop))) 13 (.walk 7 (.take 11 (.walk 14 .stop)))) 13 (.walk 3 (.walk 7 (.take 11 (.walk 14 .stop))))) 13 (.walk 2 (.walk 3 (.walk 7 (.take 11 (.walk 14 .stop))))))))))))))) (by kernel_rfl) (by kernel_rfl) (HK.out.box) ?_; simp only [pickPlan, List.getD_cons_zero, List.getD_cons_succ, List.drop_succ_cons, List.drop_zero])
      (iterate 9 (first | (refine wpPlan_take (v := ?_) (by rfl) ?_ ?_; rotate_left; (focus (intro W hW; obtain ⟨y0, y1, y2⟩ := FxX.cells hW; go_simp; (try with_reducible rfl); done)); try simp only [Act.put, List.setIfInBounds_toArray, List.set_cons_zero, List.set_cons_succ]) | (refine wpPlan_leave (by rfl) ?_; try simp only [Act.put, List.setIfInBounds_toArray, List.set_cons_zero, List.set_cons_succ])))
      revert HK HQd; generalize w5.drew = w5d; intro HQd HK
      refine wpPlan_both ?_ ?_
      · skip
        go_wp2
        have HK1 := Lib.hid HK.out.lit0
        revert HK1; generalize hq0 : w5d.heap.size = q0; clear hq0; generalize w5d.alloc (.cells #[.int .i64 0] 3) = w1_; intro HK1
        refine ForkQ.mk (HK1.out.box) ?_
        refine wpPlan_both ?_ ?_
        · skip
          go_wp2_with (at_builtin; refine wpList_push_any Tryd.intT rfl _ _ rfl 0 _ _ rfl HK1.out.own0 q0 rfl (HK1.out.l0 q0 rfl).2 (by have := HK1.out.ln; omega) (Nat.zero_le _) ?_; intro r2 w2_ h1 hg hm; have HK2 := Lib.hid (HK1.out.app0 h1 hg); clear h1 hg hm)
          refine ForkQ.mk (HK2.out.box) ?_
          refine wpPlan_both ?_ ?_
          · skip
            go_wp2_with (go_at_call 20; (with_reducible refine useC HK2.out.setC ?_); rintro e w3_ ⟨g3, cp3, rfl, hcp, hk⟩; have HK3 := Lib.hid hk; clear hk)
            refine ForkQ.mk (HK3.out.box) ?_
            have hcpI : ((xz).length : Int) ≤ cp3 := by omega
            (iterate 1 (first | (refine wpPlan_take (v := ?_) (by rfl) ?_ ?_; rotate_left; (focus (intro W hW; skip; go_simp; (try with_reducible rfl); done)); try simp only [Act.put, List.setIfInBounds_toArray, List.set_cons_zero, List.set_cons_succ]) | (refine wpPlan_leave (by rfl) ?_; try simp only [Act.put, List.setIfInBounds_toArray, List.set_cons_zero, List.set_cons_succ])))
            have HK4 := Lib.hid HK3.out.cut
            refine wpPlan_walk ?_
            go_wp2
            have HK5 := Lib.hid HK4.out.lit1
            revert HK5; generalize hq1 : w3_.heap.size = q1; clear hq1; generalize w3_.alloc (.cells #[.int .i64 size] 3) = w5_; intro HK5
            refine ForkQ.mk (HK5.out.box) ?_
            refine wpPlan_walk ?_
            go_wp2_with (at_builtin; refine wpList_push_any Tryd.intT rfl _ _ rfl w5d.heap.size _ _ rfl HK5.out.row q1 rfl (HK5.out.l1 q1 rfl).2 (by have := HK5.out.ln; omega) HK5.out.F.size ?_; intro rF wF h1 hg hm; have HR := Lib.hid (HK5.out.app1 h1 hg); obtain ⟨AF, cF, rfl⟩ := h1.slice'; rw [show (xz ++ [(size : Int)]).length = xz.length + 1 by simp] at HR ⊢; clear h1 hg hm)
            refine ForkQ.mk (HR.out.1) ?_
            refine wpPlan_nil ?_
            have HQ6 := Lib.hid (HQd.out.put1 HR.out.2.1 HR.out.2.2)
            obtain ⟨x0, x1, x2⟩ := HR.out.1.cells
            have hfb := free_block HR.out.1 1 none
            clear HK HK1 HK2 HK3 HK4 HK5 HQd
            go_wp2_with fail
            clear x0 x1 x2 hfb HR
            generalize wF.setCell ⟨B, 1, none⟩ (.slice AF (xz.length + 1) cF) = w6 at *
            have HQd := Lib.hid (HQ6.out.step (Fr.refl [] w6).drew)
            have HK : Hid (Fk w6.drew w6.drew B (.slice A4 8 c4) (.slice AF (xz.length + 1) cF) (.slice A3 xp.length c3) xp 0 0 (.slice A3 xp.length c3) (.slice A3 xp.length c3) none none) :=
              ⟨HQd.out.box, Fr.refl _ _, HQd.out.r3.2, fun e => (HQd.out.r3.1 B e).1 rfl, ⟨rfl, HQd.out.r3.2⟩, FkLit.none _ _ _, FkLit.none _ _ _, HLP.out, Nat.lt_of_succ_lt HQd.out.lt⟩
            (refine wp_region_fork (fun W => FxX W B (.slice A4 8 c4) (.slice AF (xz.length + 1) cF) (.slice A3 xp.length c3)) 14 (Plan.take 0 (.take 1 (.take 4 (.take 5 (.take 6 (.take 8 (.take 9 (.take 10 (.both 2 (.both 3 (.both 7 (.take 11 (.walk 12 (.walk 13 .stop))) 12 (.walk 7 (.take 11 (.walk 13 .stop)))) 12 (.walk 3 (.walk 7 (.take 11 (.walk 13 .stop))))) 12 (.walk 2 (.walk 3 (.walk 7 (.take 11 (.walk 13 .stop)))))))))))))) (by kernel_rfl) (by kernel_rfl) (HK.out.box) ?_; simp only [pickPlan, List.getD_cons_zero, List.getD_cons_succ, List.drop_succ_cons, List.drop_zero])
            (iterate 8 (first | (refine wpPlan_take (v := ?_) (by rfl) ?_ ?_; rotate_left; (focus (intro W hW; obtain ⟨y0, y1, y2⟩ := FxX.cells hW; go_simp; (try with_reducible rfl); done)); try simp only [Act.put, List.setIfInBounds_toArray, List.set_cons_zero, List.set_cons_succ]) | (refine wpPlan_leave (by rfl) ?_; try simp only [Act.put, List.setIfInBounds_toArray, List.set_cons_zero, List.set_cons_succ])))
            revert HK HQd; generalize w6.drew = w6d; intro HQd HK
            refine wpPlan_both ?_ ?_
            · skip
              go_wp2
              have HK1 := Lib.hid HK.out.lit0
              revert HK1; generalize hq0 : w6d.heap.size = q0; clear hq0; generalize w6d.alloc (.cells #[.int .i64 0] 3) = w1_; intro HK1
              refine ForkQ.mk (HK1.out.box) ?_
              refine wpPlan_both ?_ ?_
              · skip
                go_wp2_with (at_builtin; refine wpList_push_any Tryd.intT rfl _ _ rfl 0 _ _ rfl HK1.out.own0 q0 rfl (HK1.out.l0 q0 rfl).2 (by have := HK1.out.ln; omega) (Nat.zero_le _) ?_; intro r2 w2_ h1 hg hm; have HK2 := Lib.hid (HK1.out.app0 h1 hg); clear h1 hg hm)
                refine ForkQ.mk (HK2.out.box) ?_
                refine wpPlan_both ?_ ?_
                · skip
                  go_wp2_with (go_at_call 20; (with_reducible refine useC HK2.out.setC ?_); rintro e w3_ ⟨g3, cp3, rfl, hcp, hk⟩; have HK3 := Lib.hid hk; clear hk)
                  refine ForkQ.mk (HK3.out.box) ?_
                  have hcpI : ((xp).length : Int) ≤ cp3 := by omega
                  (iterate 1 (first | (refine wpPlan_take (v := ?_) (by rfl) ?_ ?_; rotate_left; (focus (intro W hW; skip; go_simp; (try with_reducible rfl); done)); try simp only [Act.put, List.setIfInBounds_toArray, List.set_cons_zero, List.set_cons_succ]) | (refine wpPlan_leave (by rfl) ?_; try simp only [Act.put, List.setIfInBounds_toArray, List.set_cons_zero, List.set_cons_succ])))
                  have HK4 := Lib.hid HK3.out.cut
                  refine wpPlan_walk ?_
                  go_wp2
                  have HK5 := Lib.hid HK4.out.lit1
                  revert HK5; generalize hq1 : w3_.heap.size = q1; clear hq1; generalize w3_.alloc (.cells #[.int .i64 0] 3) = w5_; intro HK5
                  refine ForkQ.mk (HK5.out.box) ?_
                  refine wpPlan_walk ?_
                  go_wp2_with (at_builtin; refine wpList_push_any Tryd.intT rfl _ _ rfl w6d.heap.size _ _ rfl HK5.out.row q1 rfl (HK5.out.l1 q1 rfl).2 (by have := HK5.out.ln; omega) HK5.out.F.size ?_; intro rF wF h1 hg hm; have HR := Lib.hid (HK5.out.app1 h1 hg); obtain ⟨AFb, cFb, rfl⟩ := h1.slice'; rw [show (xp ++ [(0 : Int)]).length = xp.length + 1 by simp] at HR ⊢; clear h1 hg hm)
                  refine ForkQ.mk (HR.out.1) ?_
                  refine wpPlan_nil ?_
                  have HQ7 := Lib.hid (HQd.out.put2 HR.out.2.1 HR.out.2.2)
                  have HE := Lib.hid HQ7.out.fin
                  obtain ⟨x0, x1, x2⟩ := HR.out.1.cells
                  have hfb := free_block HR.out.1 2 none
                  obtain ⟨o0, o1, o2⟩ := (HQd.out.keepBox HQd.out.r3 HR.out.2.1).2.cells
                  have hfo := fun j => free_block (HQd.out.keepBox HQd.out.r3 HR.out.2.1).2 j none
                  go_wp2
                  exact bodyPost_ret (v := .tuple #[.agg #[.slice A4 8 c4, .slice AF (xz.length + 1) cF, .slice AFb (xp.length + 1) cFb], .int .i64 i, .int .i64 0]) (fx_results Tryd.results16 rfl rfl rfl HE.out.1) rfl ⟨_, by rw [er.out], by rw [er.out]; exact HE.out.2.1, HE.out.2.2⟩
                · skip
                  go_wp2
                  have HK3 := Lib.hid HK2.out.lit1
                  revert HK3; generalize hq1 : w2_.heap.size = q1; clear hq1; generalize w2_.alloc (.cells #[.int .i64 0] 3) = w3_; intro HK3
                  refine ForkQ.mk (HK3.out.box) ?_
                  refine wpPlan_walk ?_
                  go_wp2_with (go_at_call 20; (with_reducible refine useC HK3.out.setC ?_); rintro e w4_ ⟨g4, cp4, rfl, hcp, hk⟩; have HK4 := Lib.hid hk; clear hk)
                  refine ForkQ.mk (HK4.out.box) ?_
                  have hcpI : ((xp).length : Int) ≤ cp4 := by omega
                  (iterate 1 (first | (refine wpPlan_take (v := ?_) (by rfl) ?_ ?_; rotate_left; (focus (intro W hW; skip; go_simp; (try with_reducible rfl); done)); try simp only [Act.put, List.setIfInBounds_toArray, List.set_cons_zero, List.set_cons_succ]) | (refine wpPlan_leave (by rfl) ?_; try simp only [Act.put, List.setIfInBounds_toArray, List.set_cons_zero, List.set_cons_succ])))
                  have HK5 := Lib.hid HK4.out.cut
                  refine wpPlan_walk ?_
                  go_wp2_with (at_builtin; refine wpList_push_any Tryd.intT rfl _ _ rfl w6d.heap.size _ _ rfl HK5.out.row q1 rfl (HK5.out.l1 q1 rfl).2 (by have := HK5.out.ln; omega) HK5.out.F.size ?_; intro rF wF h1 hg hm; have HR := Lib.hid (HK5.out.app1 h1 hg); obtain ⟨AFb, cFb, rfl⟩ := h1.slice'; rw [show (xp ++ [(0 : Int)]).length = xp.length + 1 by simp] at HR ⊢; clear h1 hg hm)
                  refine ForkQ.mk (HR.out.1) ?_
                  refine wpPlan_nil ?_
                  have HQ7 := Lib.hid (HQd.out.put2 HR.out.2.1 HR.out.2.2)
                  have HE := Lib.hid HQ7.out.fin
                  obtain ⟨x0, x1, x2⟩ := HR.out.1.cells
                  have hfb := free_block HR.out.1 2 none
                  obtain ⟨o0, o1, o2⟩ := (HQd.out.keepBox HQd.out.r3 HR.out.2.1).2.cells
                  have hfo := fun j => free_block (HQd.out.keepBox HQd.out.r3 HR.out.2.1).2 j none
                  go_wp2
                  exact bodyPost_ret (v := .tuple #[.agg #[.slice A4 8 c4, .slice AF (xz.length + 1) cF, .slice AFb (xp.length + 1) cFb], .int .i64 i, .int .i64 0]) (fx_results Tryd.results16 rfl rfl rfl HE.out.1) rfl ⟨_, by rw [er.out], by rw [er.out]; exact HE.out.2.1, HE.out.2.2⟩
              · skip
                go_wp2
                have HK2 := Lib.hid HK1.out.lit1
                revert HK2; generalize hq1 : w1_.heap.size = q1; clear hq1; generalize w1_.alloc (.cells #[.int .i64 0] 3) = w2_; intro HK2
                refine ForkQ.mk (HK2.out.box) ?_
                refine wpPlan_walk ?_
                go_wp2_with (at_builtin; refine wpList_push_any Tryd.intT rfl _ _ rfl 0 _ _ rfl HK2.out.own0 q0 rfl (HK2.out.l0 q0 rfl).2 (by have := HK2.out.ln; omega) (Nat.zero_le _) ?_; intro r3 w3_ h1 hg hm; have HK3 := Lib.hid (HK2.out.app0 h1 hg); clear h1 hg hm)
                refine ForkQ.mk (HK3.out.box) ?_
                refine wpPlan_walk ?_
                go_wp2_with (go_at_call 20; (with_reducible refine useC HK3.out.setC ?_); rintro e w4_ ⟨g4, cp4, rfl, hcp, hk⟩; have HK4 := Lib.hid hk; clear hk)
                refine ForkQ.mk (HK4.out.box) ?_
                have hcpI : ((xp).length : Int) ≤ cp4 := by omega
                (iterate 1 (first | (refine wpPlan_take (v := ?_) (by rfl) ?_ ?_; rotate_left; (focus (intro W hW; skip; go_simp; (try with_reducible rfl); done)); try simp only [Act.put, List.setIfInBounds_toArray, List.set_cons_zero, List.set_cons_succ]) | (refine wpPlan_leave (by rfl) ?_; try simp only [Act.put, List.setIfInBounds_toArray, List.set_cons_zero, List.set_cons_succ])))
                have HK5 := Lib.hid HK4.out.cut
                refine wpPlan_walk ?_
                go_wp2_with (at_builtin; refine wpList_push_any Tryd.intT rfl _ _ rfl w6d.heap.size _ _ rfl HK5.out.row q1 rfl (HK5.out.l1 q1 rfl).2 (by have := HK5.out.ln; omega) HK5.out.F.size ?_; intro rF wF h1 hg hm; have HR := Lib.hid (HK5.out.app1 h1 hg); obtain ⟨AFb, cFb, rfl⟩ := h1.slice'; rw [show (xp ++ [(0 : Int)]).length = xp.length + 1 by simp] at HR ⊢; clear h1 hg hm)
                refine ForkQ.mk (HR.out.1) ?_
                refine wpPlan_nil ?_
                have HQ7 := Lib.hid (HQd.out.put2 HR.out.2.1 HR.out.2.2)
                have HE := Lib.hid HQ7.out.fin
                obtain ⟨x0, x1, x2⟩ := HR.out.1.cells
                have hfb := free_block HR.out.1 2 none
                obtain ⟨o0, o1, o2⟩ := (HQd.out.keepBox HQd.out.r3 HR.out.2.1).2.cells
                have hfo := fun j => free_block (HQd.out.keepBox HQd.out.r3 HR.out.2.1).2 j none
                go_wp2
                exact bodyPost_ret (v := .tuple #[.agg #[.slice A4 8 c4, .slice AF (xz.length + 1) cF, .slice AFb (xp.length + 1) cFb], .int .i64 i, .int .i64 0]) (fx_results Tryd.results16 rfl rfl rfl HE.out.1) rfl ⟨_, by rw [er.out], by rw [er.out]; exact HE.out.2.1, HE.out.2.2⟩
            · skip
              go_wp2
              have HK1 := Lib.hid HK.out.lit1
              revert HK1; generalize hq1 : w6d.heap.size = q1; clear hq1; generalize w6d.alloc (.cells #[.int .i64 0] 3) = w1_; intro HK1
              refine ForkQ.mk (HK1.out.box) ?_
              refine wpPlan_walk ?_
              go_wp2
              have HK2 := Lib.hid HK1.out.lit0
              revert HK2; generalize hq0 : w1_.heap.size = q0; clear hq0; generalize w1_.alloc (.cells #[.int .i64 0] 3) = w2_; intro HK2
              refine ForkQ.mk (HK2.out.box) ?_
              refine wpPlan_walk ?_
              go_wp2_with (at_builtin; refine wpList_push_any Tryd.intT rfl _ _ rfl 0 _ _ rfl HK2.out.own0 q0 rfl (HK2.out.l0 q0 rfl).2 (by have := HK2.out.ln; omega) (Nat.zero_le _) ?_; intro r3 w3_ h1 hg hm; have HK3 := Lib.hid (HK2.out.app0 h1 hg); clear h1 hg hm)
              refine ForkQ.mk (HK3.out.box) ?_
              refine wpPlan_walk ?_
              go_wp2_with (go_at_call 20; (with_reducible refine useC HK3.out.setC ?_); rintro e w4_ ⟨g4, cp4, rfl, hcp, hk⟩; have HK4 := Lib.hid hk; clear hk)
              refine ForkQ.mk (HK4.out.box) ?_
              have hcpI : ((xp).length : Int) ≤ cp4 := by omega
              (iterate 1 (first | (refine wpPlan_take (v := ?_) (by rfl) ?_ ?_; rotate_left; (focus (intro W hW; skip; go_simp; (try with_reducible rfl); done)); try simp only [Act.put, List.setIfInBounds_toArray, List.set_cons_zero, List.set_cons_succ]) | (refine wpPlan_leave (by rfl) ?_; try simp only [Act.put, List.setIfInBounds_toArray, List.set_cons_zero, List.set_cons_succ])))
              have HK5 := Lib.hid HK4.out.cut
              refine wpPlan_walk ?_
              go_wp2_with (at_builtin; refine wpList_push_any Tryd.intT rfl _ _ rfl w6d.heap.size _ _ rfl HK5.out.row q1 rfl (HK5.out.l1 q1 rfl).2 (by have := HK5.out.ln; omega) HK5.out.F.size ?_; intro rF wF h1 hg hm; have HR := Lib.hid (HK5.out.app1 h1 hg); obtain ⟨AFb, cFb, rfl⟩ := h1.slice'; rw [show (xp ++ [(0 : Int)]).length = xp.length + 1 by simp] at HR ⊢; clear h1 hg hm)
              refine ForkQ.mk (HR.out.1) ?_
              refine wpPlan_nil ?_
              have HQ7 := Lib.hid (HQd.out.put2 HR.out.2.1 HR.out.2.2)
              have HE := Lib.hid HQ7.out.fin
              obtain ⟨x0, x1, x2⟩ := HR.out.1.cells
              have hfb := free_block HR.out.1 2 none
              obtain ⟨o0, o1, o2⟩ := (HQd.out.keepBox HQd.out.r3 HR.out.2.1).2.cells
              have hfo := fun j => free_block (HQd.out.keepBox HQd.out.r3 HR.out.2.1).2 j none
              go_wp2
              exact bodyPost_ret (v := .tuple #[.agg #[.slice A4 8 c4, .slice AF (xz.length + 1) cF, .slice AFb (xp.length + 1) cFb], .int .i64 i, .int .i64 0]) (fx_results Tryd.results16 rfl rfl rfl HE.out.1) rfl ⟨_, by rw [er.out], by rw [er.out]; exact HE.out.2.1, HE.out.2.2⟩
          · skip
            go_wp2
            have HK3 := Lib.hid HK2.out.lit1
            revert HK3; generalize hq1 : w2_.heap.size = q1; clear hq1; generalize w2_.alloc (.cells #[.int .i64 size] 3) = w3_; intro HK3
            refine ForkQ.mk (HK3.out.box) ?_
            refine wpPlan_walk ?_
            go_wp2_with (go_at_call 20; (with_reducible refine useC HK3.out.setC ?_); rintro e w4_ ⟨g4, cp4, rfl, hcp, hk⟩; have HK4 := Lib.hid hk; clear hk)
            refine ForkQ.mk (HK4.out.box) ?_
            have hcpI : ((xz).length : Int) ≤ cp4 := by omega
            (iterate 1 (first | (refine wpPlan_take (v := ?_) (by rfl) ?_ ?_; rotate_left; (focus (intro W hW; skip; go_simp; (try with_reducible rfl); done)); try simp only [Act.put, List.setIfInBounds_toArray, List.set_cons_zero, List.set_cons_succ]) | (refine wpPlan_leave (by rfl) ?_; try simp only [Act.put, List.setIfInBounds_toArray, List.set_cons_zero, List.set_cons_succ])))
            have HK5 := Lib.hid HK4.out.cut
            refine wpPlan_walk ?_
            go_wp2_with (at_builtin; refine wpList_push_any Tryd.intT rfl _ _ rfl w5d.heap.size _ _ rfl HK5.out.row q1 rfl (HK5.out.l1 q1 rfl).2 (by have := HK5.out.ln; omega) HK5.out.F.size ?_; intro rF wF h1 hg hm; have HR := Lib.hid (HK5.out.app1 h1 hg); obtain ⟨AF, cF, rfl⟩ := h1.slice'; rw [show (xz ++ [(size : Int)]).length = xz.length + 1 by simp] at HR ⊢; clear h1 hg hm)
            refine ForkQ.mk (HR.out.1) ?_
            refine wpPlan_nil ?_
            have HQ6 := Lib.hid (HQd.out.put1 HR.out.2.1 HR.out.2.2)
            obtain ⟨x0, x1, x2⟩ := HR.out.1.cells
            have hfb := free_block HR.out.1 1 none
            clear HK HK1 HK2 HK3 HK4 HK5 HQd
            go_wp2_with fail
            clear x0 x1 x2 hfb HR
            generalize wF.setCell ⟨B, 1, none⟩ (.slice AF (xz.length + 1) cF) = w6 at *
            have HQd := Lib.hid (HQ6.out.step (Fr.refl [] w6).drew)
            have HK : Hid (Fk w6.drew w6.drew B (.slice A4 8 c4) (.slice AF (xz.length + 1) cF) (.slice A3 xp.length c3) xp 0 0 (.slice A3 xp.length c3) (.slice A3 xp.length c3) none none) :=
              ⟨HQd.out.box, Fr.refl _ _, HQd.out.r3.2, fun e => (HQd.out.r3.1 B e).1 rfl, ⟨rfl, HQd.out.r3.2⟩, FkLit.none _ _ _, FkLit.none _ _ _, HLP.out, Nat.lt_of_succ_lt HQd.out.lt⟩
            (refine wp_region_fork (fun W => FxX W B (.slice A4 8 c4) (.slice AF (xz.length + 1) cF) (.slice A3 xp.length c3)) 14 (Plan.take 0 (.take 1 (.take 4 (.take 5 (.take 6 (.take 8 (.take 9 (.take 10 (.both 2 (.both 3 (.both 7 (.take 11 (.walk 12 (.walk 13 .stop))) 12 (.walk 7 (.take 11 (.walk 13 .stop)))) 12 (.walk 3 (.walk 7 (.take 11 (.walk 13 .stop))))) 12 (.walk 2 (.walk 3 (.walk 7 (.take 11 (.walk 13 .stop)))))))))))))) (by kernel_rfl) (by kernel_rfl) (HK.out.box) ?_; simp only [pickPlan, List.getD_cons_zero, List.getD_cons_succ, List.drop_succ_cons, List.drop_zero])
            (iterate 8 (first | (refine wpPlan_take (v := ?_) (by rfl) ?_ ?_; rotate_left; (focus (intro W hW; obtain ⟨y0, y1, y2⟩ := FxX.cells hW; go_simp; (try with_reducible rfl); done)); try simp only [Act.put, List.setIfInBounds_toArray, List.set_cons_zero, List.set_cons_succ]) | (refine wpPlan_leave (by rfl) ?_; try simp only [Act.put, List.setIfInBounds_toArray, List.set_cons_zero, List.set_cons_succ])))
            revert HK HQd; generalize w6.drew = w6d; intro HQd HK
            refine wpPlan_both ?_ ?_
            · skip
              go_wp2
              have HK1 := Lib.hid HK.out.lit0
              revert HK1; generalize hq0 : w6d.heap.size = q0; clear hq0; generalize w6d.alloc (.cells #[.int .i64 0] 3) = w1_; intro HK1
              refine ForkQ.mk (HK1.out.box) ?_
              refine wpPlan_both ?_ ?_
              · skip
                go_wp2_with (at_builtin; refine wpList_push_any Tryd.intT rfl _ _ rfl 0 _ _ rfl HK1.out.own0 q0 rfl (HK1.out.l0 q0 rfl).2 (by have := HK1.out.ln; omega) (Nat.zero_le _) ?_; intro r2 w2_ h1 hg hm; have HK2 := Lib.hid (HK1.out.app0 h1 hg); clear h1 hg hm)
                refine ForkQ.mk (HK2.out.box) ?_
                refine wpPlan_both ?_ ?_
                · skip
                  go_wp2_with (go_at_call 20; (with_reducible refine useC HK2.out.setC ?_); rintro e w3_ ⟨g3, cp3, rfl, hcp, hk⟩; have HK3 := Lib.hid hk; clear hk)
                  refine ForkQ.mk (HK3.out.box) ?_
                  have hcpI : ((xp).length : Int) ≤ cp3 := by omega
                  (iterate 1 (first | (refine wpPlan_take (v := ?_) (by rfl) ?_ ?_; rotate_left; (focus (intro W hW; skip; go_simp; (try with_reducible rfl); done)); try simp only [Act.put, List.setIfInBounds_toArray, List.set_cons_zero, List.set_cons_succ]) | (refine wpPlan_leave (by rfl) ?_; try simp only [Act.put, List.setIfInBounds_toArray, List.set_cons_zero, List.set_cons_succ])))
                  have HK4 := Lib.hid HK3.out.cut
                  refine wpPlan_walk ?_
                  go_wp2
                  have HK5 := Lib.hid HK4.out.lit1
                  revert HK5; generalize hq1 : w3_.heap.size = q1; clear hq1; generalize w3_.alloc (.cells #[.int .i64 0] 3) = w5_; intro HK5
                  refine ForkQ.mk (HK5.out.box) ?_
                  refine wpPlan_walk ?_
                  go_wp2_with (at_builtin; refine wpList_push_any Tryd.intT rfl _ _ rfl w6d.heap.size _ _ rfl HK5.out.row q1 rfl (HK5.out.l1 q1 rfl).2 (by have := HK5.out.ln; omega) HK5.out.F.size ?_; intro rF wF h1 hg hm; have HR := Lib.hid (HK5.out.app1 h1 hg); obtain ⟨AFb, cFb, rfl⟩ := h1.slice'; rw [show (xp ++ [(0 : Int)]).length = xp.length + 1 by simp] at HR ⊢; clear h1 hg hm)
                  refine ForkQ.mk (HR.out.1) ?_
                  refine wpPlan_nil ?_
                  have HQ7 := Lib.hid (HQd.out.put2 HR.out.2.1 HR.out.2.2)
                  have HE := Lib.hid HQ7.out.fin
                  obtain ⟨x0, x1, x2⟩ := HR.out.1.cells
                  have hfb := free_block HR.out.1 2 none
                  obtain ⟨o0, o1, o2⟩ := (HQd.out.keepBox HQd.out.r3 HR.out.2.1).2.cells
                  have hfo := fun j => free_block (HQd.out.keepBox HQd.out.r3 HR.out.2.1).2 j none
                  go_wp2
                  exact bodyPost_ret (v := .tuple #[.agg #[.slice A4 8 c4, .slice AF (xz.length + 1) cF, .slice AFb (xp.length + 1) cFb], .int .i64 i, .int .i64 0]) (fx_results Tryd.results16 rfl rfl rfl HE.out.1) rfl ⟨_, by rw [er.out], by rw [er.out]; exact HE.out.2.1, HE.out.2.2⟩
                · skip
                  go_wp2
                  have HK3 := Lib.hid HK2.out.lit1
                  revert HK3; generalize hq1 : w2_.heap.size = q1; clear hq1; generalize w2_.alloc (.cells #[.int .i64 0] 3) = w3_; intro HK3
                  refine ForkQ.mk (HK3.out.box) ?_
                  refine wpPlan_walk ?_
                  go_wp2_with (go_at_call 20; (with_reducible refine useC HK3.out.setC ?_); rintro e w4_ ⟨g4, cp4, rfl, hcp, hk⟩; have HK4 := Lib.hid hk; clear hk)
                  refine ForkQ.mk (HK4.out.box) ?_
                  have hcpI : ((xp).length : Int) ≤ cp4 := by omega
                  (iterate 1 (first | (refine wpPlan_take (v := ?_) (by rfl) ?_ ?_; rotate_left; (focus (intro W hW; skip; go_simp; (try with_reducible rfl); done)); try simp only [Act.put, List.setIfInBounds_toArray, List.set_cons_zero, List.set_cons_succ]) | (refine wpPlan_leave (by rfl) ?_; try simp only [Act.put, List.setIfInBounds_toArray, List.set_cons_zero, List.set_cons_succ])))
                  have HK5 := Lib.hid HK4.out.cut
                  refine wpPlan_walk ?_
                  go_wp2_with (at_builtin; refine wpList_push_any Tryd.intT rfl _ _ rfl w6d.heap.size _ _ rfl HK5.out.row q1 rfl (HK5.out.l1 q1 rfl).2 (by have := HK5.out.ln; omega) HK5.out.F.size ?_; intro rF wF h1 hg hm; have HR := Lib.hid (HK5.out.app1 h1 hg); obtain ⟨AFb, cFb, rfl⟩ := h1.slice'; rw [show (xp ++ [(0 : Int)]).length = xp.length + 1 by simp] at HR ⊢; clear h1 hg hm)
                  refine ForkQ.mk (HR.out.1) ?_
                  refine wpPlan_nil ?_
                  have HQ7 := Lib.hid (HQd.out.put2 HR.out.2.1 HR.out.2.2)
                  have HE := Lib.hid HQ7.out.fin
                  obtain ⟨x0, x1, x2⟩ := HR.out.1.cells
                  have hfb := free_block HR.out.1 2 none
                  obtain ⟨o0, o1, o2⟩ := (HQd.out.keepBox HQd.out.r3 HR.out.2.1).2.cells
                  have hfo := fun j => free_block (HQd.out.keepBox HQd.out.r3 HR.out.2.1).2 j none
                  go_wp2
                  exact bodyPost_ret (v := .tuple #[.agg #[.slice A4 8 c4, .slice AF (xz.length + 1) cF, .slice AFb (xp.length + 1) cFb], .int .i64 i, .int .i64 0]) (fx_results Tryd.results16 rfl rfl rfl HE.out.1) rfl ⟨_, by rw [er.out], by rw [er.out]; exact HE.out.2.1, HE.out.2.2⟩
              · skip
                go_wp2
                have HK2 := Lib.hid HK1.out.lit1
                revert HK2; generalize hq1 : w1_.heap.size = q1; clear hq1; generalize w1_.alloc (.cells #[.int .i64 0] 3) = w2_; intro HK2
                refine ForkQ.mk (HK2.out.box) ?_
                refine wpPlan_walk ?_
                go_wp2_with (at_builtin; refine wpList_push_any Tryd.intT rfl _ _ rfl 0 _ _ rfl HK2.out.own0 q0 rfl (HK2.out.l0 q0 rfl).2 (by have := HK2.out.ln; omega) (Nat.zero_le _) ?_; intro r3 w3_ h1 hg hm; have HK3 := Lib.hid (HK2.out.app0 h1 hg); clear h1 hg hm)
                refine ForkQ.mk (HK3.out.box) ?_
                refine wpPlan_walk ?_
                go_wp2_with (go_at_call 20; (with_reducible refine useC HK3.out.setC ?_); rintro e w4_ ⟨g4, cp4, rfl, hcp, hk⟩; have HK4 := Lib.hid hk; clear hk)
                refine ForkQ.mk (HK4.out.box) ?_
                have hcpI : ((xp).length : Int) ≤ cp4 := by omega
                (iterate 1 (first | (refine wpPlan_take (v := ?_) (by rfl) ?_ ?_; rotate_left; (focus (intro W hW; skip; go_simp; (try with_reducible rfl); done)); try simp only [Act.put, List.setIfInBounds_toArray, List.set_cons_zero, List.set_cons_succ]) | (refine wpPlan_leave (by rfl) ?_; try simp only [Act.put, List.setIfInBounds_toArray, List.set_cons_zero, List.set_cons_succ])))
                have HK5 := Lib.hid HK4.out.cut
                refine wpPlan_walk ?_
                go_wp2_with (at_builtin; refine wpList_push_any Tryd.intT rfl _ _ rfl w6d.heap.size _ _ rfl HK5.out.row q1 rfl (HK5.out.l1 q1 rfl).2 (by have := HK5.out.ln; omega) HK5.out.F.size ?_; intro rF wF h1 hg hm; have HR := Lib.hid (HK5.out.app1 h1 hg); obtain ⟨AFb, cFb, rfl⟩ := h1.slice'; rw [show (xp ++ [(0 : Int)]).length = xp.length + 1 by simp] at HR ⊢; clear h1 hg hm)
                refine ForkQ.mk (HR.out.1) ?_
                refine wpPlan_nil ?_
                have HQ7 := Lib.hid (HQd.out.put2 HR.out.2.1 HR.out.2.2)
                have HE := Lib.hid HQ7.out.fin
                obtain ⟨x0, x1, x2⟩ := HR.out.1.cells
                have hfb := free_block HR.out.1 2 none
                obtain ⟨o0, o1, o2⟩ := (HQd.out.keepBox HQd.out.r3 HR.out.2.1).2.cells
                have hfo := fun j => free_block (HQd.out.keepBox HQd.out.r3 HR.out.2.1).2 j none
                go_wp2
                exact bodyPost_ret (v := .tuple #[.agg #[.slice A4 8 c4, .slice AF (xz.length + 1) cF, .slice AFb (xp.length + 1) cFb], .int .i64 i, .int .i64 0]) (fx_results Tryd.results16 rfl rfl rfl HE.out.1) rfl ⟨_, by rw [er.out], by rw [er.out]; exact HE.out.2.1, HE.out.2.2⟩
            · skip
              go_wp2
              have HK1 := Lib.hid HK.out.lit1
              revert HK1; generalize hq1 : w6d.heap.size = q1; clear hq1; generalize w6d.alloc (.cells #[.int .i64 0] 3) = w1_; intro HK1
              refine ForkQ.mk (HK1.out.box) ?_
              refine wpPlan_walk ?_
              go_wp2
              have HK2 := Lib.hid HK1.out.lit0
              revert HK2; generalize hq0 : w1_.heap.size = q0; clear hq0; generalize w1_.alloc (.cells #[.int .i64 0] 3) = w2_; intro HK2
              refine ForkQ.mk (HK2.out.box) ?_
              refine wpPlan_walk ?_
              go_wp2_with (at_builtin; refine wpList_push_any Tryd.intT rfl _ _ rfl 0 _ _ rfl HK2.out.own0 q0 rfl (HK2.out.l0 q0 rfl).2 (by have := HK2.out.ln; omega) (Nat.zero_le _) ?_; intro r3 w3_ h1 hg hm; have HK3 := Lib.hid (HK2.out.app0 h1 hg); clear h1 hg hm)
              refine ForkQ.mk (HK3.out.box) ?_
              refine wpPlan_walk ?_
              go_wp2_with (go_at_call 20; (with_reducible refine useC HK3.out.setC ?_); rintro e w4_ ⟨g4, cp4, rfl, hcp, hk⟩; have HK4 := Lib.hid hk; clear hk)
              refine ForkQ.mk (HK4.out.box) ?_
              have hcpI : ((xp).length : Int) ≤ cp4 := by omega
              (iterate 1 (first | (refine wpPlan_take (v := ?_) (by rfl) ?_ ?_; rotate_left; (focus (intro W hW; skip; go_simp; (try with_reducible rfl); done)); try simp only [Act.put, List.setIfInBounds_toArray, List.set_cons_zero, List.set_cons_succ]) | (refine wpPlan_leave (by rfl) ?_; try simp only [Act.put, List.setIfInBounds_toArray, List.set_cons_zero, List.set_cons_succ])))
              have HK5 := Lib.hid HK4.out.cut
              refine wpPlan_walk ?_
              go_wp2_with (at_builtin; refine wpList_push_any Tryd.intT rfl _ _ rfl w6d.heap.size _ _ rfl HK5.out.row q1 rfl (HK5.out.l1 q1 rfl).2 (by have := HK5.out.ln; omega) HK5.out.F.size ?_; intro rF wF h1 hg hm; have HR := Lib.hid (HK5.out.app1 h1 hg); obtain ⟨AFb, cFb, rfl⟩ := h1.slice'; rw [show (xp ++ [(0 : Int)]).length = xp.length + 1 by simp] at HR ⊢; clear h1 hg hm)
              refine ForkQ.mk (HR.out.1) ?_
              refine wpPlan_nil ?_
              have HQ7 := Lib.hid (HQd.out.put2 HR.out.2.1 HR.out.2.2)
              have HE := Lib.hid HQ7.out.fin
              obtain ⟨x0, x1, x2⟩ := HR.out.1.cells
              have hfb := free_block HR.out.1 2 none
              obtain ⟨o0, o1, o2⟩ := (HQd.out.keepBox HQd.out.r3 HR.out.2.1).2.cells
              have hfo := fun j => free_block (HQd.out.keepBox HQd.out.r3 HR.out.2.1).2 j none
              go_wp2
              exact bodyPost_ret (v := .tuple #[.agg #[.slice A4 8 c4, .slice AF (xz.length + 1) cF, .slice AFb (xp.length + 1) cFb], .int .i64 i, .int .i64 0]) (fx_results Tryd.results16 rfl rfl rfl HE.out.1) rfl ⟨_, by rw [er.out], by rw [er.out]; exact HE.out.2.1, HE.out.2.2⟩
        · skip
          go_wp2
          have HK2 := Lib.hid HK1.out.lit1
          revert HK2; generalize hq1 : w1_.heap.size = q1; clear hq1; generalize w1_.alloc (.cells #[.int .i64 size] 3) = w2_; intro HK2
          refine ForkQ.mk (HK2.out.box) ?_
          refine wpPlan_walk ?_
          go_wp2_with (at_builtin; refine wpList_push_any Tryd.intT rfl _ _ rfl 0 _ _ rfl HK2.out.own0 q0 rfl (HK2.out.l0 q0 rfl).2 (by have := HK2.out.ln; omega) (Nat.zero_le _) ?_; intro r3 w3_ h1 hg hm; have HK3 := Lib.hid (HK2.out.app0 h1 hg); clear h1 hg hm)
          refine ForkQ.mk (HK3.out.box) ?_
          refine wpPlan_walk ?_
          go_wp2_with (go_at_call 20; (with_reducible refine useC HK3.out.setC ?_); rintro e w4_ ⟨g4, cp4, rfl, hcp, hk⟩; have HK4 := Lib.hid hk; clear hk)
          refine ForkQ.mk (HK4.out.box) ?_
          have hcpI : ((xz).length : Int) ≤ cp4 := by omega
          (iterate 1 (first | (refine wpPlan_take (v := ?_) (by rfl) ?_ ?_; rotate_left; (focus (intro W hW; skip; go_simp; (try with_reducible rfl); done)); try simp only [Act.put, List.setIfInBounds_toArray, List.set_cons_zero, List.set_cons_succ]) | (refine wpPlan_leave (by rfl) ?_; try simp only [Act.put, List.setIfInBounds_toArray, List.set_cons_zero, List.set_cons_succ])))
          have HK5 := Lib.hid HK4.out.cut
          refine wpPlan_walk ?_
          go_wp2_with (at_builtin; refine wpList_push_any Tryd.intT rfl _ _ rfl w5d.heap.size _ _ rfl HK5.out.row q1 rfl (HK5.out.l1 q1 rfl).2 (by have := HK5.out.ln; omega) HK5.out.F.size ?_; intro rF wF h1 hg hm; have HR := Lib.hid (HK5.out.app1 h1 hg); obtain ⟨AF, cF, rfl⟩ := h1.slice'; rw [show (xz ++ [(size : Int)]).length = xz.length + 1 by simp] at HR ⊢; clear h1 hg hm)
          refine ForkQ.mk (HR.out.1) ?_
          refine wpPlan_nil ?_
          have HQ6 := Lib.hid (HQd.out.put1 HR.out.2.1 HR.out.2.2)
          obtain ⟨x0, x1, x2⟩ := HR.out.1.cells
          have hfb := free_block HR.out.1 1 none
          clear HK HK1 HK2 HK3 HK4 HK5 HQd
          go_wp2_with fail
          clear x0 x1 x2 hfb HR
          generalize wF.setCell ⟨B, 1, none⟩ (.slice AF (xz.length + 1) cF) = w6 at *
          have HQd := Lib.hid (HQ6.out.step (Fr.refl [] w6).drew)
          have HK : Hid (Fk w6.drew w6.drew B (.slice A4 8 c4) (.slice AF (xz.length + 1) cF) (.slice A3 xp.length c3) xp 0 0 (.slice A3 xp.length c3) (.slice A3 xp.length c3) none none) :=
            ⟨HQd.out.box, Fr.refl _ _, HQd.out.r3.2, fun e => (HQd.out.r3.1 B e).1 rfl, ⟨rfl, HQd.out.r3.2⟩, FkLit.none _ _ _, FkLit.none _ _ _, HLP.out, Nat.lt_of_succ_lt HQd.out.lt⟩
          (refine wp_region_fork (fun W => FxX W B (.slice A4 8 c4) (.slice AF (xz.length + 1) cF) (.slice A3 xp.length c3)) 14 (Plan.take 0 (.take 1 (.take 4 (.take 5 (.take 6 (.take 8 (.take 9 (.take 10 (.both 2 (.both 3 (.both 7 (.take 11 (.walk 12 (.walk 13 .stop))) 12 (.walk 7 (.take 11 (.walk 13 .stop)))) 12 (.walk 3 (.walk 7 (.take 11 (.walk 13 .stop))))) 12 (.walk 2 (.walk 3 (.walk 7 (.take 11 (.walk 13 .stop)))))))))))))) (by kernel_rfl) (by kernel_rfl) (HK.out.box) ?_; simp only [pickPlan, List.getD_cons_zero, List.getD_cons_succ, List.drop_succ_cons, List.drop_zero])
          (iterate 8 (first | (refine wpPlan_take (v := ?_) (by rfl) ?_ ?_; rotate_left; (focus (intro W hW; obtain ⟨y0, y1, y2⟩ := FxX.cells hW; go_simp; (try with_reducible rfl); done)); try simp only [Act.put, List.setIfInBounds_toArray, List.set_cons_zero, List.set_cons_succ]) | (refine wpPlan_leave (by rfl) ?_; try simp only [Act.put, List.setIfInBounds_toArray, List.set_cons_zero, List.set_cons_succ])))
          revert HK HQd; generalize w6.drew = w6d; intro HQd HK
          refine wpPlan_both ?_ ?_
          · skip
            go_wp2
            have HK1 := Lib.hid HK.out.lit0
            revert HK1; generalize hq0 : w6d.heap.size = q0; clear hq0; generalize w6d.alloc (.cells #[.int .i64 0] 3) = w1_; intro HK1
            refine ForkQ.mk (HK1.out.box) ?_
            refine wpPlan_both ?_ ?_
            · skip
              go_wp2_with (at_builtin; refine wpList_push_any Tryd.intT rfl _ _ rfl 0 _ _ rfl HK1.out.own0 q0 rfl (HK1.out.l0 q0 rfl).2 (by have := HK1.out.ln; omega) (Nat.zero_le _) ?_; intro r2 w2_ h1 hg hm; have HK2 := Lib.hid (HK1.out.app0 h1 hg); clear h1 hg hm)
              refine ForkQ.mk (HK2.out.box) ?_
              refine wpPlan_both ?_ ?_
              · skip
                go_wp2_with (go_at_call 20; (with_reducible refine useC HK2.out.setC ?_); rintro e w3_ ⟨g3, cp3, rfl, hcp, hk⟩; have HK3 := Lib.hid hk; clear hk)
                refine ForkQ.mk (HK3.out.box) ?_
                have hcpI : ((xp).length : Int) ≤ cp3 := by omega
                (iterate 1 (first | (refine wpPlan_take (v := ?_) (by rfl) ?_ ?_; rotate_left; (focus (intro W hW; skip; go_simp; (try with_reducible rfl); done)); try simp only [Act.put, List.setIfInBounds_toArray, List.set_cons_zero, List.set_cons_succ]) | (refine wpPlan_leave (by rfl) ?_; try simp only [Act.put, List.setIfInBounds_toArray, List.set_cons_zero, List.set_cons_succ])))
                have HK4 := Lib.hid HK3.out.cut
                refine wpPlan_walk ?_
                go_wp2
                have HK5 := Lib.hid HK4.out.lit1
                revert HK5; generalize hq1 : w3_.heap.size = q1; clear hq1; generalize w3_.alloc (.cells #[.int .i64 0] 3) = w5_; intro HK5
                refine ForkQ.mk (HK5.out.box) ?_
                refine wpPlan_walk ?_
                go_wp2_with (at_builtin; refine wpList_push_any Tryd.intT rfl _ _ rfl w6d.heap.size _ _ rfl HK5.out.row q1 rfl (HK5.out.l1 q1 rfl).2 (by have := HK5.out.ln; omega) HK5.out.F.size ?_; intro rF wF h1 hg hm; have HR := Lib.hid (HK5.out.app1 h1 hg); obtain ⟨AFb, cFb, rfl⟩ := h1.slice'; rw [show (xp ++ [(0 : Int)]).length = xp.length + 1 by simp] at HR ⊢; clear h1 hg hm)
                refine ForkQ.mk (HR.out.1) ?_
                refine wpPlan_nil ?_
                have HQ7 := Lib.hid (HQd.out.put2 HR.out.2.1 HR.out.2.2)
                have HE := Lib.hid HQ7.out.fin
                obtain ⟨x0, x1, x2⟩ := HR.out.1.cells
                have hfb := free_block HR.out.1 2 none
                obtain ⟨o0, o1, o2⟩ := (HQd.out.keepBox HQd.out.r3 HR.out.2.1).2.cells
                have hfo := fun j => free_block (HQd.out.keepBox HQd.out.r3 HR.out.2.1).2 j none
                go_wp2
                exact bodyPost_ret (v := .tuple #[.agg #[.slice A4 8 c4, .slice AF (xz.length + 1) cF, .slice AFb (xp.length + 1) cFb], .int .i64 i, .int .i64 0]) (fx_results Tryd.results16 rfl rfl rfl HE.out.1) rfl ⟨_, by rw [er.out], by rw [er.out]; exact HE.out.2.1, HE.out.2.2⟩
              · skip
                go_wp2
                have HK3 := Lib.hid HK2.out.lit1
                revert HK3; generalize hq1 : w2_.heap.size = q1; clear hq1; generalize w2_.alloc (.cells #[.int .i64 0] 3) = w3_; intro HK3
                refine ForkQ.mk (HK3.out.box) ?_
                refine wpPlan_walk ?_
                go_wp2_with (go_at_call 20; (with_reducible refine useC HK3.out.setC ?_); rintro e w4_ ⟨g4, cp4, rfl, hcp, hk⟩; have HK4 := Lib.hid hk; clear hk)
                refine ForkQ.mk (HK4.out.box) ?_
                have hcpI : ((xp).length : Int) ≤ cp4 := by omega
                (iterate 1 (first | (refine wpPlan_take (v := ?_) (by rfl) ?_ ?_; rotate_left; (focus (intro W hW; skip; go_simp; (try with_reducible rfl); done)); try simp only [Act.put, List.setIfInBounds_toArray, List.set_cons_zero, List.set_cons_succ]) | (refine wpPlan_leave (by rfl) ?_; try simp only [Act.put, List.setIfInBounds_toArray, List.set_cons_zero, List.set_cons_succ])))
                have HK5 := Lib.hid HK4.out.cut
                refine wpPlan_walk ?_
                go_wp2_with (at_builtin; refine wpList_push_any Tryd.intT rfl _ _ rfl w6d.heap.size _ _ rfl HK5.out.row q1 rfl (HK5.out.l1 q1 rfl).2 (by have := HK5.out.ln; omega) HK5.out.F.size ?_; intro rF wF h1 hg hm; have HR := Lib.hid (HK5.out.app1 h1 hg); obtain ⟨AFb, cFb, rfl⟩ := h1.slice'; rw [show (xp ++ [(0 : Int)]).length = xp.length + 1 by simp] at HR ⊢; clear h1 hg hm)
                refine ForkQ.mk (HR.out.1) ?_
                refine wpPlan_nil ?_
                have HQ7 := Lib.hid (HQd.out.put2 HR.out.2.1 HR.out.2.2)
                have HE := Lib.hid HQ7.out.fin
                obtain ⟨x0, x1, x2⟩ := HR.out.1.cells
                have hfb := free_block HR.out.1 2 none
                obtain ⟨o0, o1, o2⟩ := (HQd.out.keepBox HQd.out.r3 HR.out.2.1).2.cells
                have hfo := fun j => free_block (HQd.out.keepBox HQd.out.r3 HR.out.2.1).2 j none
                go_wp2
                exact bodyPost_ret (v := .tuple #[.agg #[.slice A4 8 c4, .slice AF (xz.length + 1) cF, .slice AFb (xp.length + 1) cFb], .int .i64 i, .int .i64 0]) (fx_results Tryd.results16 rfl rfl rfl HE.out.1) rfl ⟨_, by rw [er.out], by rw [er.out]; exact HE.out.2.1, HE.out.2.2⟩
            · skip
              go_wp2
              have HK2 := Lib.hid HK1.out.lit1
              revert HK2; generalize hq1 : w1_.heap.size = q1; clear hq1; generalize w1_.alloc (.cells #[.int .i64 0] 3) = w2_; intro HK2
              refine ForkQ.mk (HK2.out.box) ?_
              refine wpPlan_walk ?_
              go_wp2_with (at_builtin; refine wpList_push_any Tryd.intT rfl _ _ rfl 0 _ _ rfl HK2.out.own0 q0 rfl (HK2.out.l0 q0 rfl).2 (by have := HK2.out.ln; omega) (Nat.zero_le _) ?_; intro r3 w3_ h1 hg hm; have HK3 := Lib.hid (HK2.out.app0 h1 hg); clear h1 hg hm)
              refine ForkQ.mk (HK3.out.box) ?_
              refine wpPlan_walk ?_
              go_wp2_with (go_at_call 20; (with_reducible refine useC HK3.out.setC ?_); rintro e w4_ ⟨g4, cp4, rfl, hcp, hk⟩; have HK4 := Lib.hid hk; clear hk)
              refine ForkQ.mk (HK4.out.box) ?_
              have hcpI : ((xp).length : Int) ≤ cp4 := by omega
              (iterate 1 (first | (refine wpPlan_take (v := ?_) (by rfl) ?_ ?_; rotate_left; (focus (intro W hW; skip; go_simp; (try with_reducible rfl); done)); try simp only [Act.put, List.setIfInBounds_toArray, List.set_cons_zero, List.set_cons_succ]) | (refine wpPlan_leave (by rfl) ?_; try simp only [Act.put, List.setIfInBounds_toArray, List.set_cons_zero, List.set_cons_succ])))
              have HK5 := Lib.hid HK4.out.cut
              refine wpPlan_walk ?_
              go_wp2_with (at_builtin; refine wpList_push_any Tryd.intT rfl _ _ rfl w6d.heap.size _ _ rfl HK5.out.row q1 rfl (HK5.out.l1 q1 rfl).2 (by have := HK5.out.ln; omega) HK5.out.F.size ?_; intro rF wF h1 hg hm; have HR := Lib.hid (HK5.out.app1 h1 hg); obtain ⟨AFb, cFb, rfl⟩ := h1.slice'; rw [show (xp ++ [(0 : Int)]).length = xp.length + 1 by simp] at HR ⊢; clear h1 hg hm)
              refine ForkQ.mk (HR.out.1) ?_
              refine wpPlan_nil ?_
              have HQ7 := Lib.hid (HQd.out.put2 HR.out.2.1 HR.out.2.2)
              have HE := Lib.hid HQ7.out.fin
              obtain ⟨x0, x1, x2⟩ := HR.out.1.cells
              have hfb := free_block HR.out.1 2 none
              obtain ⟨o0, o1, o2⟩ := (HQd.out.keepBox HQd.out.r3 HR.out.2.1).2.cells
              have hfo := fun j => free_block (HQd.out.keepBox HQd.out.r3 HR.out.2.1).2 j none
              go_wp2
              exact bodyPost_ret (v := .tuple #[.agg #[.slice A4 8 c4, .slice AF (xz.length + 1) cF, .slice AFb (xp.length + 1) cFb], .int .i64 i, .int .i64 0]) (fx_results Tryd.results16 rfl rfl rfl HE.out.1) rfl ⟨_, by rw [er.out], by rw [er.out]; exact HE.out.2.1, HE.out.2.2⟩
          · skip
            go_wp2
            have HK1 := Lib.hid HK.out.lit1
            revert HK1; generalize hq1 : w6d.heap.size = q1; clear hq1; generalize w6d.alloc (.cells #[.int .i64 0] 3) = w1_; intro HK1
            refine ForkQ.mk (HK1.out.box) ?_
            refine wpPlan_walk ?_
            go_wp2
            have HK2 := Lib.hid HK1.out.lit0
            revert HK2; generalize hq0 : w1_.heap.size = q0; clear hq0; generalize w1_.alloc (.cells #[.int .i64 0] 3) = w2_; intro HK2
            refine ForkQ.mk (HK2.out.box) ?_
            refine wpPlan_walk ?_
            go_wp2_with (at_builtin; refine wpList_push_any Tryd.intT rfl _ _ rfl 0 _ _ rfl HK2.out.own0 q0 rfl (HK2.out.l0 q0 rfl).2 (by have := HK2.out.ln; omega) (Nat.zero_le _) ?_; intro r3 w3_ h1 hg hm; have HK3 := Lib.hid (HK2.out.app0 h1 hg); clear h1 hg hm)
            refine ForkQ.mk (HK3.out.box) ?_
            refine wpPlan_walk ?_
            go_wp2_with (go_at_call 20; (with_reducible refine useC HK3.out.setC ?_); rintro e w4_ ⟨g4, cp4, rfl, hcp, hk⟩; have HK4 := Lib.hid hk; clear hk)
            refine ForkQ.mk (HK4.out.box) ?_
            have hcpI : ((xp).length : Int) ≤ cp4 := by omega
            (iterate 1 (first | (refine wpPlan_take (v := ?_) (by rfl) ?_ ?_; rotate_left; (focus (intro W hW; skip; go_simp; (try with_reducible rfl); done)); try simp only [Act.put, List.setIfInBounds_toArray, List.set_cons_zero, List.set_cons_succ]) | (refine wpPlan_leave (by rfl) ?_; try simp only [Act.put, List.setIfInBounds_toArray, List.set_cons_zero, List.set_cons_succ])))
            have HK5 := Lib.hid HK4.out.cut
            refine wpPlan_walk ?_
            go_wp2_with (at_builtin; refine wpList_push_any Tryd.intT rfl _ _ rfl w6d.heap.size _ _ rfl HK5.out.row q1 rfl (HK5.out.l1 q1 rfl).2 (by have := HK5.out.ln; omega) HK5.out.F.size ?_; intro rF wF h1 hg hm; have HR := Lib.hid (HK5.out.app1 h1 hg); obtain ⟨AFb, cFb, rfl⟩ := h1.slice'; rw [show (xp ++ [(0 : Int)]).length = xp.length + 1 by simp] at HR ⊢; clear h1 hg hm)
            refine ForkQ.mk (HR.out.1) ?_
            refine wpPlan_nil ?_
            have HQ7 := Lib.hid (HQd.out.put2 HR.out.2.1 HR.out.2.2)
            have HE := Lib.hid HQ7.out.fin
            obtain ⟨x0, x1, x2⟩ := HR.out.1.cells
            have hfb := free_block HR.out.1 2 none
            obtain ⟨o0, o1, o2⟩ := (HQd.out.keepBox HQd.out.r3 HR.out.2.1).2.cells
            have hfo := fun j => free_block (HQd.out.keepBox HQd.out.r3 HR.out.2.1).2 j none
            go_wp2
            exact bodyPost_ret (v := .tuple #[.agg #[.slice A4 8 c4, .slice AF (xz.length + 1) cF, .slice AFb (xp.length + 1) cFb], .int .i64 i, .int .i64 0]) (fx_results Tryd.results16 rfl rfl rfl HE.out.1) rfl ⟨_, by rw [er.out], by rw [er.out]; exact HE.out.2.1, HE.out.2.2⟩
      · skip
        go_wp2
        have HK1 := Lib.hid HK.out.lit1
        revert HK1; generalize hq1 : w5d.heap.size = q1; clear hq1; generalize w5d.alloc (.cells #[.int .i64 size] 3) = w1_; intro HK1
        refine ForkQ.mk (HK1.out.box) ?_
        refine wpPlan_walk ?_
        go_wp2
        have HK2 := Lib.hid HK1.out.lit0
        revert HK2; generalize hq0 : w1_.heap.size = q0; clear hq0; generalize w1_.alloc (.cells #[.int .i64 0] 3) = w2_; intro HK2
        refine ForkQ.mk (HK2.out.box) ?_
        refine wpPlan_walk ?_
        go_wp2_with (at_builtin; refine wpList_push_any Tryd.intT rfl _ _ rfl 0 _ _ rfl HK2.out.own0 q0 rfl (HK2.out.l0 q0 rfl).2 (by have := HK2.out.ln; omega) (Nat.zero_le _) ?_; intro r3 w3_ h1 hg hm; have HK3 := Lib.hid (HK2.out.app0 h1 hg); clear h1 hg hm)
        refine ForkQ.mk (HK3.out.box) ?_
        refine wpPlan_walk ?_
        go_wp2_with (go_at_call 20; (with_reducible refine useC HK3.out.setC ?_); rintro e w4_ ⟨g4, cp4, rfl, hcp, hk⟩; have HK4 := Lib.hid hk; clear hk)
        refine ForkQ.mk (HK4.out.box) ?_
        have hcpI : ((xz).length : Int) ≤ cp4 := by omega
        (iterate 1 (first | (refine wpPlan_take (v := ?_) (by rfl) ?_ ?_; rotate_left; (focus (intro W hW; skip; go_simp; (try with_reducible rfl); done)); try simp only [Act.put, List.setIfInBounds_toArray, List.set_cons_zero, List.set_cons_succ]) | (refine wpPlan_leave (by rfl) ?_; try simp only [Act.put, List.setIfInBounds_toArray, List.set_cons_zero, List.set_cons_succ])))
        have HK5 := Lib.hid HK4.out.cut
        refine wpPlan_walk ?_
        go_wp2_with (at_builtin; refine wpList_push_any Tryd.intT rfl _ _ rfl w5d.heap.size _ _ rfl HK5.out.row q1 rfl (HK5.out.l1 q1 rfl).2 (by have := HK5.out.ln; omega) HK5.out.F.size ?_; intro rF wF h1 hg hm; have HR := Lib.hid (HK5.out.app1 h1 hg); obtain ⟨AF, cF, rfl⟩ := h1.slice'; rw [show (xz ++ [(size : Int)]).length = xz.length + 1 by simp] at HR ⊢; clear h1 hg hm)
        refine ForkQ.mk (HR.out.1) ?_
        refine wpPlan_nil ?_
        have HQ6 := Lib.hid (HQd.out.put1 HR.out.2.1 HR.out.2.2)
        obtain ⟨x0, x1, x2⟩ := HR.out.1.cells
        have hfb := free_block HR.out.1 1 none
        clear HK HK1 HK2 HK3 HK4 HK5 HQd
        go_wp2_with fail
        clear x0 x1 x2 hfb HR
        generalize wF.setCell ⟨B, 1, none⟩ (.slice AF (xz.length + 1) cF) = w6 at *
        have HQd := Lib.hid (HQ6.out.step (Fr.refl [] w6).drew)
        have HK : Hid (Fk w6.drew w6.drew B (.slice A4 8 c4) (.slice AF (xz.length + 1) cF) (.slice A3 xp.length c3) xp 0 0 (.slice A3 xp.length c3) (.slice A3 xp.length c3) none none) :=
          ⟨HQd.out.box, Fr.refl _ _, HQd.out.r3.2, fun e => (HQd.out.r3.1 B e).1 rfl, ⟨rfl, HQd.out.r3.2⟩, FkLit.none _ _ _, FkLit.none _ _ _, HLP.out, Nat.lt_of_succ_lt HQd.out.lt⟩
        (refine wp_region_fork (fun W => FxX W B (.slice A4 8 c4) (.slice AF (xz.length + 1) cF) (.slice A3 xp.length c3)) 14 (Plan.take 0 (.take 1 (.take 4 (.take 5 (.take 6 (.take 8 (.take 9 (.take 10 (.both 2 (.both 3 (.both 7 (.take 11 (.walk 12 (.walk 13 .stop))) 12 (.walk 7 (.take 11 (.walk 13 .stop)))) 12 (.walk 3 (.walk 7 (.take 11 (.walk 13 .stop))))) 12 (.walk 2 (.walk 3 (.walk 7 (.take 11 (.walk 13 .stop)))))))))))))) (by kernel_rfl) (by kernel_rfl) (HK.out.box) ?_; simp only [pickPlan, List.getD_cons_zero, List.getD_cons_succ, List.drop_succ_cons, List.drop_zero])
        (iterate 8 (first | (refine wpPlan_take (v := ?_) (by rfl) ?_ ?_; rotate_left; (focus (intro W hW; obtain ⟨y0, y1, y2⟩ := FxX.cells hW; go_simp; (try with_reducible rfl); done)); try simp only [Act.put, List.setIfInBounds_toArray, List.set_cons_zero, List.set_cons_succ]) | (refine wpPlan_leave (by rfl) ?_; try simp only [Act.put, List.setIfInBounds_toArray, List.set_cons_zero, List.set_cons_succ])))
        revert HK HQd; generalize w6.drew = w6d; intro HQd HK
        refine wpPlan_both ?_ ?_
        · skip
          go_wp2
          have HK1 := Lib.hid HK.out.lit0
          revert HK1; generalize hq0 : w6d.heap.size = q0; clear hq0; generalize w6d.alloc (.cells #[.int .i64 0] 3) = w1_; intro HK1
          refine ForkQ.mk (HK1.out.box) ?_
          refine wpPlan_both ?_ ?_
          · skip
            go_wp2_with (at_builtin; refine wpList_push_any Tryd.intT rfl _ _ rfl 0 _ _ rfl HK1.out.own0 q0 rfl (HK1.out.l0 q0 rfl).2 (by have := HK1.out.ln; omega) (Nat.zero_le _) ?_; intro r2 w2_ h1 hg hm; have HK2 := Lib.hid (HK1.out.app0 h1 hg); clear h1 hg hm)
            refine ForkQ.mk (HK2.out.box) ?_
            refine wpPlan_both ?_ ?_
            · skip
              go_wp2_with (go_at_call 20; (with_reducible refine useC HK2.out.setC ?_); rintro e w3_ ⟨g3, cp3, rfl, hcp, hk⟩; have HK3 := Lib.hid hk; clear hk)
              refine ForkQ.mk (HK3.out.box) ?_
              have hcpI : ((xp).length : Int) ≤ cp3 := by omega
              (iterate 1 (first | (refine wpPlan_take (v := ?_) (by rfl) ?_ ?_; rotate_left; (focus (intro W hW; skip; go_simp; (try with_reducible rfl); done)); try simp only [Act.put, List.setIfInBounds_toArray, List.set_cons_zero, List.set_cons_succ]) | (refine wpPlan_leave (by rfl) ?_; try simp only [Act.put, List.setIfInBounds_toArray, List.set_cons_zero, List.set_cons_succ])))
              have HK4 := Lib.hid HK3.out.cut
              refine wpPlan_walk ?_
              go_wp2
              have HK5 := Lib.hid HK4.out.lit1
              revert HK5; generalize hq1 : w3_.heap.size = q1; clear hq1; generalize w3_.alloc (.cells #[.int .i64 0] 3) = w5_; intro HK5
              refine ForkQ.mk (HK5.out.box) ?_
              refine wpPlan_walk ?_
              go_wp2_with (at_builtin; refine wpList_push_any Tryd.intT rfl _ _ rfl w6d.heap.size _ _ rfl HK5.out.row q1 rfl (HK5.out.l1 q1 rfl).2 (by have := HK5.out.ln; omega) HK5.out.F.size ?_; intro rF wF h1 hg hm; have HR := Lib.hid (HK5.out.app1 h1 hg); obtain ⟨AFb, cFb, rfl⟩ := h1.slice'; rw [show (xp ++ [(0 : Int)]).length = xp.length + 1 by simp] at HR ⊢; clear h1 hg hm)
              refine ForkQ.mk (HR.out.1) ?_
              refine wpPlan_nil ?_
              have HQ7 := Lib.hid (HQd.out.put2 HR.out.2.1 HR.out.2.2)
              have HE := Lib.hid HQ7.out.fin
              obtain ⟨x0, x1, x2⟩ := HR.out.1.cells
              have hfb := free_block HR.out.1 2 none
              obtain ⟨o0, o1, o2⟩ := (HQd.out.keepBox HQd.out.r3 HR.out.2.1).2.cells
              have hfo := fun j => free_block (HQd.out.keepBox HQd.out.r3 HR.out.2.1).2 j none
              go_wp2
              exact bodyPost_ret (v := .tuple #[.agg #[.slice A4 8 c4, .slice AF (xz.length + 1) cF, .slice AFb (xp.length + 1) cFb], .int .i64 i, .int .i64 0]) (fx_results Tryd.results16 rfl rfl rfl HE.out.1) rfl ⟨_, by rw [er.out], by rw [er.out]; exact HE.out.2.1, HE.out.2.2⟩
            · skip
              go_wp2
              have HK3 := Lib.hid HK2.out.lit1
              revert HK3; generalize hq1 : w2_.heap.size = q1; clear hq1; generalize w2_.alloc (.cells #[.int .i64 0] 3) = w3_; intro HK3
              refine ForkQ.mk (HK3.out.box) ?_
              refine wpPlan_walk ?_
              go_wp2_with (go_at_call 20; (with_reducible refine useC HK3.out.setC ?_); rintro e w4_ ⟨g4, cp4, rfl, hcp, hk⟩; have HK4 := Lib.hid hk; clear hk)
              refine ForkQ.mk (HK4.out.box) ?_
              have hcpI : ((xp).length : Int) ≤ cp4 := by omega
              (iterate 1 (first | (refine wpPlan_take (v := ?_) (by rfl) ?_ ?_; rotate_left; (focus (intro W hW; skip; go_simp; (try with_reducible rfl); done)); try simp only [Act.put, List.setIfInBounds_toArray, List.set_cons_zero, List.set_cons_succ]) | (refine wpPlan_leave (by rfl) ?_; try simp only [Act.put, List.setIfInBounds_toArray, List.set_cons_zero, List.set_cons_succ])))
              have HK5 := Lib.hid HK4.out.cut
              refine wpPlan_walk ?_
              go_wp2_with (at_builtin; refine wpList_push_any Tryd.intT rfl _ _ rfl w6d.heap.size _ _ rfl HK5.out.row q1 rfl (HK5.out.l1 q1 rfl).2 (by have := HK5.out.ln; omega) HK5.out.F.size ?_; intro rF wF h1 hg hm; have HR := Lib.hid (HK5.out.app1 h1 hg); obtain ⟨AFb, cFb, rfl⟩ := h1.slice'; rw [show (xp ++ [(0 : Int)]).length = xp.length + 1 by simp] at HR ⊢; clear h1 hg hm)
              refine ForkQ.mk (HR.out.1) ?_
              refine wpPlan_nil ?_
              have HQ7 := Lib.hid (HQd.out.put2 HR.out.2.1 HR.out.2.2)
              have HE := Lib.hid HQ7.out.fin
              obtain ⟨x0, x1, x2⟩ := HR.out.1.cells
              have hfb := free_block HR.out.1 2 none
              obtain ⟨o0, o1, o2⟩ := (HQd.out.keepBox HQd.out.r3 HR.out.2.1).2.cells
              have hfo := fun j => free_block (HQd.out.keepBox HQd.out.r3 HR.out.2.1).2 j none
              go_wp2
              exact bodyPost_ret (v := .tuple #[.agg #[.slice A4 8 c4, .slice AF (xz.length + 1) cF, .slice AFb (xp.length + 1) cFb], .int .i64 i, .int .i64 0]) (fx_results Tryd.results16 rfl rfl rfl HE.out.1) rfl ⟨_, by rw [er.out], by rw [er.out]; exact HE.out.2.1, HE.out.2.2⟩
          · skip
            go_wp2
            have HK2 := Lib.hid HK1.out.lit1
            revert HK2; generalize hq1 : w1_.heap.size = q1; clear hq1; generalize w1_.alloc (.cells #[.int .i64 0] 3) = w2_; intro HK2
            refine ForkQ.mk (HK2.out.box) ?_
            refine wpPlan_walk ?_
            go_wp2_with (at_builtin; refine wpList_push_any Tryd.intT rfl _ _ rfl 0 _ _ rfl HK2.out.own0 q0 rfl (HK2.out.l0 q0 rfl).2 (by have := HK2.out.ln; omega) (Nat.zero_le _) ?_; intro r3 w3_ h1 hg hm; have HK3 := Lib.hid (HK2.out.app0 h1 hg); clear h1 hg hm)
            refine ForkQ.mk (HK3.out.box) ?_
            refine wpPlan_walk ?_
            go_wp2_with (go_at_call 20; (with_reducible refine useC HK3.out.setC ?_); rintro e w4_ ⟨g4, cp4, rfl, hcp, hk⟩; have HK4 := Lib.hid hk; clear hk)
            refine ForkQ.mk (HK4.out.box) ?_
            have hcpI : ((xp).length : Int) ≤ cp4 := by omega
            (iterate 1 (first | (refine wpPlan_take (v := ?_) (by rfl) ?_ ?_; rotate_left; (focus (intro W hW; skip; go_simp; (try with_reducible rfl); done)); try simp only [Act.put, List.setIfInBounds_toArray, List.set_cons_zero, List.set_cons_succ]) | (refine wpPlan_leave (by rfl) ?_; try simp only [Act.put, List.setIfInBounds_toArray, List.set_cons_zero, List.set_cons_succ])))
            have HK5 := Lib.hid HK4.out.cut
            refine wpPlan_walk ?_
            go_wp2_with (at_builtin; refine wpList_push_any Tryd.intT rfl _ _ rfl w6d.heap.size _ _ rfl HK5.out.row q1 rfl (HK5.out.l1 q1 rfl).2 (by have := HK5.out.ln; omega) HK5.out.F.size ?_; intro rF wF h1 hg hm; have HR := Lib.hid (HK5.out.app1 h1 hg); obtain ⟨AFb, cFb, rfl⟩ := h1.slice'; rw [show (xp ++ [(0 : Int)]).length = xp.length + 1 by simp] at HR ⊢; clear h1 hg hm)
            refine ForkQ.mk (HR.out.1) ?_
            refine wpPlan_nil ?_
            have HQ7 := Lib.hid (HQd.out.put2 HR.out.2.1 HR.out.2.2)
            have HE := Lib.hid HQ7.out.fin
            obtain ⟨x0, x1, x2⟩ := HR.out.1.cells
            have hfb := free_block HR.out.1 2 none
            obtain ⟨o0, o1, o2⟩ := (HQd.out.keepBox HQd.out.r3 HR.out.2.1).2.cells
            have hfo := fun j => free_block (HQd.out.keepBox HQd.out.r3 HR.out.2.1).2 j none
            go_wp2
            exact bodyPost_ret (v := .tuple #[.agg #[.slice A4 8 c4, .slice AF (xz.length + 1) cF, .slice AFb (xp.length + 1) cFb], .int .i64 i, .int .i64 0]) (fx_results Tryd.results16 rfl rfl rfl HE.out.1) rfl ⟨_, by rw [er.out], by rw [er.out]; exact HE.out.2.1, HE.out.2.2⟩
        · skip
          go_wp2
          have HK1 := Lib.hid HK.out.lit1
          revert HK1; generalize hq1 : w6d.heap.size = q1; clear hq1; generalize w6d.alloc (.cells #[.int .i64 0] 3) = w1_; intro HK1
          refine ForkQ.mk (HK1.out.box) ?_
          refine wpPlan_walk ?_
          go_wp2
          have HK2 := Lib.hid HK1.out.lit0
          revert HK2; generalize hq0 : w1_.heap.size = q0; clear hq0; generalize w1_.alloc (.cells #[.int .i64 0] 3) = w2_; intro HK2
          refine ForkQ.mk (HK2.out.box) ?_
          refine wpPlan_walk ?_
          go_wp2_with (at_builtin; refine wpList_push_any Tryd.intT rfl _ _ rfl 0 _ _ rfl HK2.out.own0 q0 rfl (HK2.out.l0 q0 rfl).2 (by have := HK2.out.ln; omega) (Nat.zero_le _) ?_; intro r3 w3_ h1 hg hm; have HK3 := Lib.hid (HK2.out.app0 h1 hg); clear h1 hg hm)
          refine ForkQ.mk (HK3.out.box) ?_
          refine wpPlan_walk ?_
          go_wp2_with (go_at_call 20; (with_reducible refine useC HK3.out.setC ?_); rintro e w4_ ⟨g4, cp4, rfl, hcp, hk⟩; have HK4 := Lib.hid hk; clear hk)
          refine ForkQ.mk (HK4.out.box) ?_
          have hcpI : ((xp).length : Int) ≤ cp4 := by omega
          (iterate 1 (first | (refine wpPlan_take (v := ?_) (by rfl) ?_ ?_; rotate_left; (focus (intro W hW; skip; go_simp; (try with_reducible rfl); done)); try simp only [Act.put, List.setIfInBounds_toArray, List.set_cons_zero, List.set_cons_succ]) | (refine wpPlan_leave (by rfl) ?_; try simp only [Act.put, List.setIfInBounds_toArray, List.set_cons_zero, List.set_cons_succ])))
          have HK5 := Lib.hid HK4.out.cut
          refine wpPlan_walk ?_
          go_wp2_with (at_builtin; refine wpList_push_any Tryd.intT rfl _ _ rfl w6d.heap.size _ _ rfl HK5.out.row q1 rfl (HK5.out.l1 q1 rfl).2 (by have := HK5.out.ln; omega) HK5.out.F.size ?_; intro rF wF h1 hg hm; have HR := Lib.hid (HK5.out.app1 h1 hg); obtain ⟨AFb, cFb, rfl⟩ := h1.slice'; rw [show (xp ++ [(0 : Int)]).length = xp.length + 1 by simp] at HR ⊢; clear h1 hg hm)
          refine ForkQ.mk (HR.out.1) ?_
          refine wpPlan_nil ?_
          have HQ7 := Lib.hid (HQd.out.put2 HR.out.2.1 HR.out.2.2)
          have HE := Lib.hid HQ7.out.fin
          obtain ⟨x0, x1, x2⟩ := HR.out.1.cells
          have hfb := free_block HR.out.1 2 none
          obtain ⟨o0, o1, o2⟩ := (HQd.out.keepBox HQd.out.r3 HR.out.2.1).2.cells
          have hfo := fun j => free_block (HQd.out.keepBox HQd.out.r3 HR.out.2.1).2 j none
          go_wp2
          exact bodyPost_ret (v := .tuple #[.agg #[.slice A4 8 c4, .slice AF (xz.length + 1) cF, .slice AFb (xp.length + 1) cFb], .int .i64 i, .int .i64 0]) (fx_results Tryd.results16 rfl rfl rfl HE.out.1) rfl ⟨_, by rw [er.out], by rw [er.out]; exact HE.out.2.1, HE.out.2.2⟩
  · have e1 := decide_eq_false hs
    have er := Lib.hid (show Fx.opn x size = (x, 0, 1) from by unfold Fx.opn; rw [if_neg hs])
    have HE := Lib.hid hQ0.out.fin
    obtain ⟨o0, o1, o2⟩ := hQ0.out.out.cells
    have hfo := fun i => free_block hQ0.out.out i none
    refine useC (r2in_is size 0 64 false w1 e1) ?_
    rintro e w1 ⟨rfl, rfl⟩
    go_wp2
    exact bodyPost_ret (v := .tuple #[.agg #[.slice A1 x.of_.length c1, .slice A2 x.sz.length c2, .slice A3 x.pl.length c3], .int .i64 0, .int .i64 1]) (fx_results Tryd.results16 rfl rfl rfl HE.out.1) rfl ⟨_, by rw [er.out], by rw [er.out]; exact HE.out.2.1, HE.out.2.2⟩
end Go.Proofs.YtmgalnkcpolafaaDoor
