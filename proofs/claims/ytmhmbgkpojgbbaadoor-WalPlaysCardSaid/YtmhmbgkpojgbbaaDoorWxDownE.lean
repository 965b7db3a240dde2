/- The document's answer for package wal: Down at an end (turned by a program out of XWxDown). -/
import Derived.Test.YtmhmbgkpojgbbaaDoorWxDown
namespace Go.Proofs.YtmhmbgkpojgbbaaDoor
open Go.RowKit

set_option maxRecDepth 100000 in
set_option maxHeartbeats 1000000 in
theorem wx_DownE (w : World) (G : Nat → Prop) (v : Value) (d : Wl.D) (t : Int) (hv : WxV G w v d) (hO : d.log.length ≤ 60) (hnv : Wl.Nv d.log) (hG : ∀ k, w.heap.size ≤ k → G k) :
    Calls Tryd.prog 26 #[v, .agg #[.int .i64 t, .int .i64 0, .int .i64 0], .bool true] w (WxDn G (Wl.end_ d t).1 (Wl.end_ d t).2 w) := by
  obtain ⟨h, l, g1, g2, rfl, hg, hh, hl⟩ := hv
  obtain ⟨hsz, fA, y0, y1, y2⟩ := three_allocs w (.cells #[h, l, .int .i64 d.syn] 57) (.cells #[.int .i64 t, .int .i64 0, .int .i64 0] 49) (.cells #[.slice none 0 0, .slice none 0 0, .int .i64 0] 57)
  obtain ⟨A, o, c, rfl, hA, hc⟩ := hl.w3
  obtain ⟨A1, o1, c1, rfl, -, hA1, hc1⟩ := hh.form
  have HEN := Lib.hid (fun W (hW : Fr [] w W) => wx_Ended W (.slice A1 d.home.length c1) (.slice A d.log.length c) d.syn t g2 d.log (hl.fr hW (by simp)) hnv hO)
  go_enter Tryd.func26, Tryd.ntmps26
  go_wp2_with fail
  generalize hW : (((w.alloc (.cells #[.slice A1 d.home.length c1, .slice A d.log.length c, .int .i64 d.syn] 57)).alloc (.cells #[.int .i64 t, .int .i64 0, .int .i64 0] 49)).alloc (.cells #[.slice none 0 0, .slice none 0 0, .int .i64 0] 57)) = W0 at *
  clear hW
  obtain ⟨X, hX⟩ : ∃ X, X = w.heap.size := ⟨_, rfl⟩
  rw [← hX] at hsz y0 y1 y2 ⊢
  obtain ⟨X1, hX1⟩ : ∃ X1, X1 = X + 1 := ⟨_, rfl⟩
  rw [← hX1] at y1 y2 ⊢
  obtain ⟨X2, hX2⟩ : ∃ X2, X2 = X1 + 1 := ⟨_, rfl⟩
  rw [← hX2] at y2 ⊢
  obtain ⟨b0, b1, b2⟩ := WxX.cells y0
  obtain ⟨p0, p1, p2⟩ : W0.cell? ⟨X1, 0, none⟩ = some (.int .i64 t) ∧ W0.cell? ⟨X1, 1, none⟩ = some (.int .i64 0) ∧ W0.cell? ⟨X1, 2, none⟩ = some (.int .i64 0) := by
    refine ⟨?_, ?_, ?_⟩ <;> rw [cell_of_row _ _ _ _ _ _ y1] <;> rfl
  obtain ⟨o0, o1', o2⟩ := WxX.cells y2
  have hfo := fun i => free_block y2 i none
  have hge : w.heap.size ≤ X2 := by omega
  have hne : X2 ≠ X ∧ X2 ≠ X1 ∧ X ≠ X1 := by omega
  have hxl : X < W0.heap.size ∧ X1 < W0.heap.size ∧ X2 < W0.heap.size := by omega
  have HXS := Lib.hid (And.intro hX (And.intro hX1 hX2))
  clear hX hX1 hX2
  have HFA := Lib.hid fA
  have HY2 := Lib.hid y2
  have HL0 := Lib.hid (hl.fr fA (by simp))
  have HH0 := Lib.hid (hh.fr fA (by simp))
  have hzw : Wl.end_ d t = if Wl.endErr d.log t = 0 then (⟨d.home, d.log ++ [⟨t, 0, 0, true⟩], d.syn⟩, 0) else (d, Wl.endErr d.log t) := rfl
  -- an error: the struct as it came
  have HERR : Hid (∀ (W : World) (cd : Int), Fr [] W0 W → Wl.endErr d.log t = cd → cd ≠ 0 → WxX (((W.setCell ⟨X2, 0, none⟩ (.slice A1 d.home.length c1)).setCell ⟨X2, 1, none⟩ (.slice A d.log.length c)).setCell ⟨X2, 2, none⟩ (.int .i64 d.syn)) X2 (.slice A1 d.home.length c1) (.slice A d.log.length c) d.syn ∧
      WxDn G (Wl.end_ d t).1 (Wl.end_ d t).2 w (.returned (.tuple #[.agg #[.slice A1 d.home.length c1, .slice A d.log.length c, .int .i64 d.syn], .int .i64 cd])) (((W.setCell ⟨X2, 0, none⟩ (.slice A1 d.home.length c1)).setCell ⟨X2, 1, none⟩ (.slice A d.log.length c)).setCell ⟨X2, 2, none⟩ (.int .i64 d.syn))) := fun W cd hW hcd h0 => by
    obtain ⟨k1, k2, -⟩ := wx_copy (h := .slice A1 d.home.length c1) (l := .slice A d.log.length c) (s := d.syn) (HFA.out.trans hW) (B := X2) hge (hW.get HY2.out (by simp))
    refine ⟨k1, ?_⟩
    rw [hzw, if_neg (by rw [hcd]; exact h0)]
    exact ⟨_, by rw [hcd], ⟨_, _, g1, g2, rfl, hg, hh.fr k2 (by simp), hl.fr k2 (by simp)⟩, k2⟩
  by_cases hr : 0 ≤ t ∧ t ≤ 19
  · have e1 := decide_eq_true hr
    by_cases hen : Wl.ended d.log t = true
    · have HE1 := Lib.hid (fun W hW => HERR.out W 7 hW (by unfold Wl.endErr Wl.turn; rw [if_pos hr, if_pos hen, if_neg (by decide)]) (by decide))
      rw [hen] at HEN
      clear hA hc hA1 hc1 hl hh hg hG hnv hzw hr HERR fA hsz y0 y1 y2 hen
      refine useC (r2in_is t 0 19 true _ e1) ?_
      rintro e w1 ⟨rfl, rfl⟩
      go_wp2_with (go_at_call 49; (with_reducible refine useC (HEN.out _ HFA.out) ?_); rintro e w2 ⟨rfl, hf⟩; have HF2 := Lib.hid hf; have b0 := hf.cell b0 (by simp); have b1 := hf.cell b1 (by simp); have b2 := hf.cell b2 (by simp); have o0 := hf.cell o0 (by simp); have o1' := hf.cell o1' (by simp); have o2 := hf.cell o2 (by simp); have hfo := fun i => free_block (hf.get HY2.out (by simp)) i none; clear hf)
      exact bodyPost_ret (v := .tuple #[.agg #[.slice A1 d.home.length c1, .slice A d.log.length c, .int .i64 d.syn], .int .i64 7]) (wx_results Tryd.results26 rfl rfl (HE1.out _ HF2.out).1) rfl (HE1.out _ HF2.out).2
    · have hef : Wl.ended d.log t = false := by simpa using hen
      have htn : Wl.turn d.log t = 0 := by unfold Wl.turn; rw [if_pos hr, if_neg hen]
      rw [hef] at HEN
      by_cases hn : d.log.length = 60
      · have HE1 := Lib.hid (fun W hW => HERR.out W 4 hW (by unfold Wl.endErr; rw [if_pos htn, if_pos hn]) (by decide))
        have hn2 : (60 : Int) ≤ d.log.length := by omega
        clear hA hc hA1 hc1 hl hh hg hG hnv hzw hr HERR fA hsz y0 y1 y2 hen hef htn hn
        refine useC (r2in_is t 0 19 true _ e1) ?_
        rintro e w1 ⟨rfl, rfl⟩
        go_wp2_with (first
          | (go_at_call 49; (with_reducible refine useC (HEN.out _ HFA.out) ?_); rintro e w2 ⟨rfl, hf⟩; have HF2 := Lib.hid hf; have b0 := hf.cell b0 (by simp); have b1 := hf.cell b1 (by simp); have b2 := hf.cell b2 (by simp); have p0 := hf.cell p0 (by simp); have p1 := hf.cell p1 (by simp); have p2 := hf.cell p2 (by simp); have o0 := hf.cell o0 (by simp); have o1' := hf.cell o1' (by simp); have o2 := hf.cell o2 (by simp); have hfo := fun i => free_block (hf.get HY2.out (by simp)) i none; clear hf))
        exact bodyPost_ret (v := .tuple #[.agg #[.slice A1 d.home.length c1, .slice A d.log.length c, .int .i64 d.syn], .int .i64 4]) (wx_results Tryd.results26 rfl rfl (HE1.out _ HF2.out).1) rfl (HE1.out _ HF2.out).2
      · have hz : Wl.endErr d.log t = 0 := by unfold Wl.endErr; rw [if_pos htn, if_neg hn]
        have hn2 : (d.log.length : Int) < 60 := by omega
        have HZW := Lib.hid (hzw.trans (if_pos hz))
        have HY0 := Lib.hid y0
        have HY1 := Lib.hid y1
        have HLW := Lib.hid hl
        have HG := Lib.hid (And.intro hg hG)
        have HH := Lib.hid hh
        have HGE := Lib.hid (And.intro hge (And.intro hne hxl))
        have hn60 : d.log.length < 60 := by omega
        clear hA hc hA1 hc1 hl hh hg hG hnv hzw hr HERR fA hsz y0 y1 y2 hen hef htn hn hz hge hne hxl
        refine useC (r2in_is t 0 19 true _ e1) ?_
        rintro e w1 ⟨rfl, rfl⟩
        go_wp2_with (first
          | (go_at_call 49; (with_reducible refine useC (HEN.out _ HFA.out) ?_); rintro e w2 ⟨rfl, hf⟩; have HF2 := Lib.hid hf; have b0 := hf.cell b0 (by simp); have b1 := hf.cell b1 (by simp); have b2 := hf.cell b2 (by simp); have p0 := hf.cell p0 (by simp); have p1 := hf.cell p1 (by simp); have p2 := hf.cell p2 (by simp); have o0 := hf.cell o0 (by simp); have o1' := hf.cell o1' (by simp); have o2 := hf.cell o2 (by simp); have hfo := fun i => free_block (hf.get HY2.out (by simp)) i none; have hfp := fun i => free_block (hf.get HY1.out (by simp)) i none; obtain ⟨w6, hw6⟩ : ∃ w6, w6 = (((w2.setCell ⟨X1, 0, none⟩ (.int .i64 t)).setCell ⟨X1, 1, none⟩ (.int .i64 0)).setCell ⟨X1, 2, none⟩ (.int .i64 (-1))) := ⟨_, rfl⟩; have HW6 := Lib.hid hw6; have hf6 : Fr [X1] w2 w6 := (by rw [hw6]; exact (((Fr.refl [X1] w2).setCell (.inl (by simp)) _).setCell (.inl (by simp)) _).setCell (.inl (by simp)) _); have HF6 : Hid (Fr [] w w6) := (HFA.out.trans hf).step hf6 (fun y hy => .inr (by simp only [List.mem_singleton] at hy; subst hy; rw [HXS.out.2.1, HXS.out.1]; exact Nat.le_succ _)); have HX6 : Hid (WxX w6 X (.slice A1 d.home.length c1) (.slice A d.log.length c) d.syn) := hf6.get (hf.get HY0.out (by simp)) (by simpa using HGE.out.2.1.2.2); have HZ6 : Hid (WxX w6 X2 (.slice none 0 0) (.slice none 0 0) 0) := hf6.get (hf.get HY2.out (by simp)) (by simpa using HGE.out.2.1.2.1); have HP6 : Hid (w6.heap[X1]? = some (.cells #[.int .i64 t, .int .i64 0, .int .i64 (-1)] 49 (0, 0))) := (by rw [hw6]; rw [set_block (set_block (set_block (hf.get HY1.out (by simp)) _) _) _]; rfl); have HB6 : Hid (((((w2.setCell ⟨X1, 0, none⟩ (.int .i64 t)).setCell ⟨X1, 1, none⟩ (.int .i64 0)).setCell ⟨X1, 2, none⟩ (.int .i64 (-1)))).cell? ⟨X, 1, none⟩ = some (.slice A d.log.length c)) := (by rw [← hw6]; exact HX6.out.cells.2.1); clear hf6 hw6; clear hf)
          | (rw [← HW6.out]; clear HW6 b0 b1 b2 p0 p1 p2 o0 o1' o2 hfo hfp; obtain ⟨b0, b1, b2⟩ := HX6.out.cells; have p0 : w6.cell? ⟨X1, 0, none⟩ = some (.int .i64 t) := (by rw [cell_of_row _ _ _ _ _ _ HP6.out]; rfl))
          | (at_builtin; refine wpList_spread_enc (E := enW) Tryd.underlying55 Tryd.info_putW rfl (by decide) rfl _ _ rfl w6.heap.size _ _ [] d.log g2 rfl OwnR.nil rfl (HLW.out.fr HF6.out (by simp)) (by simp; omega) (Nat.le_refl _) ?_; intro v3 w3 h1 _ hb3; rw [List.nil_append] at h1; have H3 := Lib.hid h1; obtain ⟨A3, c3, rfl⟩ := h1.form0; have HB3 := Lib.hid hb3; have hp3 := (Fr.of_below hb3).get HP6.out (by simp); clear p0; have p0 : w3.cell? ⟨X1, 0, none⟩ = some (.int .i64 t) := (by rw [cell_of_row _ _ _ _ _ _ hp3]; rfl); have p1 : w3.cell? ⟨X1, 1, none⟩ = some (.int .i64 0) := (by rw [cell_of_row _ _ _ _ _ _ hp3]; rfl); have p2 : w3.cell? ⟨X1, 2, none⟩ = some (.int .i64 (-1)) := (by rw [cell_of_row _ _ _ _ _ _ hp3]; rfl); clear h1 hb3 hp3)
          | (at_builtin; refine wpList_push_enc (E := enW) (y := ⟨t, 0, 0, true⟩) (wr := w3) Tryd.underlying55 Tryd.info_putW rfl (by decide) rfl _ _ rfl w6.heap.size _ d.log rfl rfl H3.out rfl (by omega) HB3.out.size ?_; intro v4 w4 h1 _ hb4; obtain ⟨A4, c4, hv4⟩ := h1.form0; rw [List.length_append, List.length_singleton] at hv4; subst hv4; have H4 := Lib.hid h1; have HF4 := Lib.hid ((Fr.of_below HB3.out).below_step hb4 (Nat.le_refl _)); have HX4 : Hid (WxX w4 X (.slice A1 d.home.length c1) (.slice A d.log.length c) d.syn) := HF4.out.get HX6.out (by simp); have hx1 := HX4.out.cells.2.1; have hxf := free_block HX4.out 1 none; clear h1 hb4)
          | (have hx1' := hx1; clear hx1'; refine wpList_store_one rfl 55 _ _ rfl X 1 (.slice A4 (d.log.length + 1) c4) (.slice A d.log.length c) rfl rfl (by kernel_rfl) rfl rfl hx1 hxf ?_; intro w5 hw5; have HX5 : Hid (WxX w5 X (.slice A1 d.home.length c1) (.slice A4 (d.log.length + 1) c4) d.syn) := (by rw [hw5]; unfold WxX; rw [set_block HX4.out]; rfl); have hy5 : WxX w5 X2 (.slice none 0 0) (.slice none 0 0) 0 := (by rw [hw5]; exact ((Fr.refl [X] w4).setCell (.inl (by simp)) _).get (HF4.out.get HZ6.out (by simp)) (by simpa using HGE.out.2.1.1)); have HF5 : Hid (Fr [] w w5) := (by rw [hw5]; exact (HF6.out.trans HF4.out).setCell (.inr (by rw [HXS.out.1]; exact Nat.le_refl _)) _); have HR5 : Hid (OwnR enW w5 w6.heap.size 49 (.slice A4 (d.log.length + 1) c4) (d.log ++ [⟨t, 0, 0, true⟩])) := (by rw [hw5]; exact H4.out.kept ((Fr.refl [X] w4).setCell (.inl (by simp)) _) (fun k hk e => by simp only [List.mem_singleton] at hk; subst hk; have := (H4.out.ge _ e).1; have := HXS.out.1; have := lt_of_heap HX6.out; omega)); have HE5 := Lib.hid (wx_copy (h := .slice A1 d.home.length c1) (l := .slice A4 (d.log.length + 1) c4) (s := d.syn) HF5.out HGE.out.1 hy5); obtain ⟨n0, n1, n2⟩ := HX5.out.cells; obtain ⟨z0, z1, z2⟩ := WxX.cells hy5; have hzf := fun i => free_block hy5 i none; clear hw5 hy5 hx1 hxf))
        have hfin := HE5.out
        obtain ⟨g5, hg5, hs5⟩ := HR5.out.sl
        refine bodyPost_ret (v := .tuple #[.agg #[.slice A1 d.home.length c1, .slice A4 (d.log.length + 1) c4, .int .i64 d.syn], .int .i64 0]) (wx_results Tryd.results26 rfl rfl hfin.1) rfl ?_
        rw [HZW.out]
        have hsz := HF6.out.size
        have h5 : G g5 := HG.out.2 g5 (hg5.elim (fun h => Nat.le_trans hsz h) (fun h => by cases (List.append_eq_nil_iff.1 h).2))
        exact ⟨_, rfl, ⟨_, _, g1, g5, rfl, ⟨HG.out.1.1, h5⟩, HH.out.fr hfin.2.1 (by simp), hs5.fr hfin.2.2 (fun e => by simp only [List.mem_singleton] at e; have h1 := lt_of_heap HZ6.out; rcases hg5 with h | h; omega; cases (List.append_eq_nil_iff.1 h).2)⟩, hfin.2.1⟩
  · have e1 := decide_eq_false hr
    have HE1 := Lib.hid (HERR.out W0 1 (Fr.refl _ _) (by unfold Wl.endErr Wl.turn; rw [if_neg hr, if_neg (by decide)]) (by decide))
    clear hA hc hA1 hc1 hl hh hg hG hnv hzw hr HERR HEN fA hsz y0 y1 y2
    refine useC (r2in_is t 0 19 false _ e1) ?_
    rintro e w1 ⟨rfl, rfl⟩
    go_wp2
    exact bodyPost_ret (v := .tuple #[.agg #[.slice A1 d.home.length c1, .slice A d.log.length c, .int .i64 d.syn], .int .i64 1]) (wx_results Tryd.results26 rfl rfl HE1.out.1) rfl HE1.out.2
end Go.Proofs.YtmhmbgkpojgbbaaDoor
