/- The document's answer for package wal: Crash. -/
import Derived.Test.YtmhmbgkpojgbbaaDoorWxDown
import Derived.Test.YtmhmbgkpojgbbaaDoorPart
namespace Go.Proofs.YtmhmbgkpojgbbaaDoor
open Go.RowKit

theorem SlR.cap {α : Type} {E : Enc α} {w : World} {A : Option Addr} {n c g : Nat} {l : List α} (h : SlR E w (.slice A n c) g l) : n = l.length ∧ l.length ≤ c := by
  rcases h with ⟨rfl, A', c', e⟩ | ⟨o, c', e, h1, -⟩
  · injection e with _ e2 _
    exact ⟨e2, Nat.zero_le _⟩
  · injection e with _ e2 e3
    subst e3
    exact ⟨e2, h1⟩
theorem SlR.take {α : Type} {E : Enc α} {w : World} {A : Option Addr} {n c g : Nat} {l : List α} (h : SlR E w (.slice A n c) g l) (m : Nat) (hm : m ≤ l.length) : SlR E w (.slice A m c) g (l.take m) := by
  rcases h with ⟨rfl, A', c', e⟩ | ⟨o, c', e, h1, h2, h3⟩
  · obtain rfl : m = 0 := by simpa using hm
    exact .inl ⟨rfl, A, c, rfl⟩
  · injection e with e1 e2 e3
    subst e1 e3
    refine .inr ⟨o, c, by rw [List.length_take, Nat.min_eq_left hm], by rw [List.length_take]; omega, h2, fun i hi r hr => ?_⟩
    have hil : i < l.length := by rw [List.length_take] at hi; omega
    rw [List.getElem_take]
    exact h3 i hil r hr
/-- What lasts of the first k records. -/
def Wl.lastTo (xs : List Wl.R) (k : Nat) : List Wl.R := (xs.take k).filter fun r => Wl.ended xs r.t
theorem Wl.lastTo_up (xs : List Wl.R) (k : Nat) (hk : k < xs.length) : Wl.lastTo xs (k + 1) = if Wl.ended xs xs[k].t = true then Wl.lastTo xs k ++ [xs[k]] else Wl.lastTo xs k := by
  unfold Wl.lastTo
  rw [List.take_succ_eq_append_getElem hk, List.filter_append]
  by_cases h : Wl.ended xs xs[k].t = true
  · rw [if_pos h]; simp [h]
  · rw [if_neg h]; simp [h]
theorem Wl.lastTo_all (xs : List Wl.R) : Wl.lastTo xs xs.length = Wl.last xs := by
  unfold Wl.lastTo
  rw [List.take_length]; rfl
theorem Wl.lastTo_len (xs : List Wl.R) (k : Nat) : (Wl.lastTo xs k).length ≤ xs.length := Nat.le_trans (List.length_filter_le _ _) (by rw [List.length_take]; exact Nat.min_le_right _ _)
theorem two_allocs (w : World) (o0 o1 : Obj) : ((w.alloc o0).alloc o1).heap.size = w.heap.size + 2 ∧ Fr [] w ((w.alloc o0).alloc o1) ∧
    ((w.alloc o0).alloc o1).heap[w.heap.size]? = some o0 ∧ ((w.alloc o0).alloc o1).heap[w.heap.size + 1]? = some o1 := by
  have h (a : World) (o p : Obj) {k : Nat} (hk : a.heap[k]? = some p) : (a.alloc o).heap[k]? = some p := ((Fr.refl [] a).alloc o).get hk (by simp)
  have n1 := heap_alloc_new (w.alloc o0) o1
  simp only [World.size_alloc] at n1
  exact ⟨by simp, ((Fr.refl [] w).alloc _).alloc _, h _ _ _ (heap_alloc_new w o0), n1⟩
/-- What the rounds know: the row that grows. -/
structure WxCr (wA wr : World) (u : Value) (l : List Wl.R) : Prop where
  own : OwnR enW wr wA.heap.size 49 u l
  fr : Fr [] wA wr
theorem WxCr.step {wA wr w' : World} {u : Value} {l : List Wl.R} (h : WxCr wA wr u l) (hf : Fr [] wr w') : WxCr wA w' u l := ⟨h.own.kept hf (by simp), h.fr.trans hf⟩
set_option maxRecDepth 100000 in
set_option maxHeartbeats 1000000 in
theorem wx_Crash (w : World) (G : Nat → Prop) (v : Value) (d : Wl.D) (n : Int) (hv : WxV G w v d) (hO : d.log.length ≤ 60) (hnv : Wl.Nv d.log) (hG : ∀ k, w.heap.size ≤ k → G k) :
    Calls Tryd.prog 28 #[v, .int .i64 n] w (WxDn G (Wl.crash d n).1 (Wl.crash d n).2 w) := by
  obtain ⟨h, l, g1, g2, rfl, hg, hh, hl⟩ := hv
  obtain ⟨hsz, fA, y0, y1⟩ := two_allocs w (.cells #[h, l, .int .i64 d.syn] 57) (.cells #[.slice none 0 0, .slice none 0 0, .int .i64 0] 57)
  obtain ⟨A, o, c, rfl, hA, hc⟩ := hl.w3
  obtain ⟨A1, o1, c1, rfl, -, hA1, hc1⟩ := hh.form
  have hcap := hl.cap.2
  go_enter Tryd.func28, Tryd.ntmps28
  go_wp2_with fail
  generalize hW : ((w.alloc (.cells #[.slice A1 d.home.length c1, .slice A d.log.length c, .int .i64 d.syn] 57)).alloc (.cells #[.slice none 0 0, .slice none 0 0, .int .i64 0] 57)) = W0 at *
  clear hW
  obtain ⟨X, hX⟩ : ∃ X, X = w.heap.size := ⟨_, rfl⟩
  rw [← hX] at hsz y0 y1 ⊢
  obtain ⟨X2, hX2⟩ : ∃ X2, X2 = X + 1 := ⟨_, rfl⟩
  rw [← hX2] at y1 ⊢
  obtain ⟨b0, b1, b2⟩ := WxX.cells y0
  obtain ⟨o0, o1', o2⟩ := WxX.cells y1
  have hfo := fun i => free_block y1 i none
  have hfx := fun i => free_block y0 i none
  have hge : w.heap.size ≤ X2 := by omega
  have hne : X2 ≠ X := by omega
  have hxl : X < W0.heap.size ∧ X2 < W0.heap.size := by omega
  have HXS := Lib.hid (And.intro hX hX2)
  clear hX hX2
  have HFA := Lib.hid fA
  have HY0 := Lib.hid y0
  have HY1 := Lib.hid y1
  by_cases hn : (d.syn : Int) ≤ n ∧ n ≤ d.log.length
  · have e1 := decide_eq_true hn
    obtain ⟨m, rfl⟩ : ∃ m : Nat, n = m := ⟨n.toNat, by omega⟩
    have hm : m ≤ d.log.length := by omega
    have er : Hid (Wl.crash d m = (⟨d.home, Wl.last (d.log.take m), (Wl.last (d.log.take m)).length⟩, 0)) := by
      show _ = _
      unfold Wl.crash
      rw [if_pos hn, Int.toNat_natCast]
    obtain ⟨xs, hxs⟩ : ∃ xs, xs = d.log.take m := ⟨_, rfl⟩
    have hxl' : xs.length = m := by rw [hxs, List.length_take]; omega
    have hnx : Wl.Nv xs := fun r hr => hnv r (List.mem_of_mem_take (by rw [hxs] at hr; exact hr))
    have hlx := hl.take m hm
    rw [← hxs] at hlx er
    clear hxs
    subst hxl'
    have hmc : xs.length ≤ c := by omega
    have hmcI : (xs.length : Int) ≤ c := by omega
    have hm0 : (0 : Int) ≤ xs.length := by omega
    have hm60 : xs.length ≤ 60 := by omega
    have HAX : Hid (0 < xs.length → A = some ⟨g2, o, none⟩) := fun hp => hA (by omega)
    have HLX := Lib.hid hlx
    have HNX := Lib.hid hnx
    have HG := Lib.hid (And.intro hg hG)
    have HH := Lib.hid hh
    have HGE := Lib.hid (And.intro hge (And.intro hne hxl))
    clear hA hc hA1 hc1 hl hh hg hG hnv hn fA hsz y0 y1 hge hne hxl hm hlx hnx hcap
    refine useC (r2in_is xs.length d.syn d.log.length true _ e1) ?_
    rintro e W0 ⟨rfl, rfl⟩
    go_wp2_with fail
    obtain ⟨wA, hwA⟩ : ∃ x, x = W0.setCell ⟨X, 1, none⟩ (.slice A xs.length c) := ⟨_, rfl⟩
    rw [← hwA]
    have HXA : Hid (WxX wA X (.slice A1 d.home.length c1) (.slice A xs.length c) d.syn) := by rw [hwA]; unfold WxX; rw [set_block HY0.out]; rfl
    have HFW : Hid (Fr [X] W0 wA) := by rw [hwA]; exact (Fr.refl [X] W0).setCell (.inl (by simp)) _
    clear hwA b0 b1 b2 o0 o1' o2 hfo hfx
    have HYA : Hid (WxX wA X2 (.slice none 0 0) (.slice none 0 0) 0) := HFW.out.get HY1.out (by simpa using HGE.out.2.1)
    have HFX : Hid (Fr [] w wA) := HFA.out.step HFW.out (fun y hy => .inr (by simp only [List.mem_singleton] at hy; rw [hy, HXS.out.1]; exact Nat.le_refl _))
    have HL := Lib.hid (HLX.out.fr HFX.out (by simp))
    have HEN := Lib.hid (fun W (hW : Fr [] wA W) t => wx_Ended W (.slice A1 d.home.length c1) (.slice A xs.length c) d.syn t g2 xs (HL.out.fr hW (by simp)) HNX.out hm60)
    have HC0 : Hid (WxCr wA wA (.slice none 0 0) (Wl.lastTo xs 0)) := ⟨OwnR.nil, Fr.refl _ _⟩
    clear HFA HFW HY0 HY1 HLX HNX e1
    go_loopw [6, 7] (fun u i wr => ∃ k : Nat, k ≤ xs.length ∧ i = .int .i64 k ∧ Hid (WxCr wA wr u (Wl.lastTo xs k))) (fun _ i _ => xs.length - (intOf i).toNat)
    case atStart => exact ⟨0, Nat.zero_le _, rfl, HC0⟩
    case round =>
      clear HC0
      obtain ⟨k, hk, rfl, hC⟩ := hrel
      obtain ⟨b0, b1, b2⟩ := WxX.cells (hC.out.fr.get HXA.out (by simp))
      by_cases hlt : k < xs.length
      · obtain rfl := HAX.out (by omega)
        obtain ⟨cur, tt, ff, hgd, hsz, hvs⟩ := SlR.part (HL.out.fr hC.out.fr (by simp)) hlt
        have hsz' : o + k * 3 + 3 ≤ cur.size := hsz
        have HSZ := Lib.hid hsz'
        have HVS : Hid (((cur.toList.drop (o + k * 3)).take 3).toArray = #[.int .i64 xs[k].t, .int .i64 (if xs[k].e then 0 else xs[k].b), .int .i64 (if xs[k].e then -1 else xs[k].v)]) := hvs
        have HGD := Lib.hid hgd
        have c0 : wr.cell? ⟨g2, o + k * 3, none⟩ = some (.int .i64 xs[k].t) := ((HL.out.fr hC.out.fr (by simp)).w3.elim fun A' h => h.elim fun o' h => h.elim fun c' h => by
          obtain ⟨e, hA, hc⟩ := h
          injection e with e _ _
          rw [hA (by omega)] at e
          injection e with e
          injection e with _ e _
          subst e
          exact (hc k hlt).1)
        have kI : (k : Int) < xs.length := by omega
        have k0 : (0 : Int) ≤ k := by omega
        have HUP := Lib.hid (Wl.lastTo_up xs k hlt)
        have hll : (Wl.lastTo xs k).length < 1000000 := by have := Wl.lastTo_len xs k; omega
        have HCD := Lib.hid (hC.out.step (Fr.refl [] wr).drew)
        have HE := Lib.hid (HEN.out wr.drew HCD.out.fr xs[k].t)
        clear hgd hsz hsz' hvs
        generalize xs[k] = r at *
        cases hen : Wl.ended xs r.t with
        | true =>
          have HU2 := Lib.hid (HUP.out.trans (if_pos hen))
          rw [hen] at HE
          clear hen HUP
          go_wp2_with fail
          (refine wp_region_mixq 7 [(true, 0), (true, 1), (true, 2), (true, 3), (true, 4), (true, 5), (true, 6)] (by kernel_rfl) (by kernel_rfl) ?_; simp only [pickOps, List.map_cons, List.map_nil, List.getD_cons_zero, List.getD_cons_succ, List.drop_succ_cons, List.drop_zero]; (iterate 7 (first | (refine wpMix_take (v := ?_) (by rfl) ?_ ?_; rotate_left; (focus (intro W hW; subst hW; go_simp; (try with_reducible rfl); done)); try simp only [Act.put, List.setIfInBounds_toArray, List.set_cons_zero, List.set_cons_succ]) | (refine wpMix_leave (by rfl) ?_; try simp only [Act.put, List.setIfInBounds_toArray, List.set_cons_zero, List.set_cons_succ]))); refine wpMix_nil ?_)
          go_wp2_with (first
            | (go_at_call 49; (with_reducible refine useC HE.out ?_); rintro e w5 ⟨rfl, hf⟩; have HC5 := Lib.hid (HCD.out.step hf); obtain ⟨b0, b1, b2⟩ := WxX.cells (HC5.out.fr.get HXA.out (by simp)); have HG5 : Hid (w5.heap[g2]? = _) := ((Fr.refl [] wr).drew.trans hf).get HGD.out (by simp); clear hf)
            | (have hg5' := HG5; clear hg5'; refine wpList_load_part rfl 49 _ rfl g2 (o + k * 3) 3 rfl tt cur ff _ HG5.out Tryd.underlying49 rfl (by kernel_rfl) HSZ.out _ HVS.out ?_)
            | (at_builtin; refine wpList_push_enc (E := enW) (y := r) (wr := w5) Tryd.underlying55 Tryd.info_putW rfl (by decide) rfl _ _ rfl wA.heap.size _ _ rfl rfl HC5.out.own rfl hll HC5.out.fr.size ?_; intro v6 w6 h1 _ hb6; have HC6 : Hid (WxCr wA w6 v6 _) := ⟨h1, HC5.out.fr.below_step hb6 (Nat.le_refl _)⟩; clear h1 hb6))
          go_roundw
          case rel => exact ⟨k + 1, by omega, by go_num, by show WxCr _ _ _ _; rw [HU2.out]; exact HC6.out⟩
          case measure => simp [intOf]; omega
        | false =>
          have HU2 := Lib.hid (HUP.out.trans (if_neg (by rw [hen]; decide)))
          rw [hen] at HE
          clear hen HUP
          go_wp2_with fail
          (refine wp_region_mixq 7 [(true, 0), (true, 1), (true, 2), (true, 3), (true, 4), (true, 5), (true, 6)] (by kernel_rfl) (by kernel_rfl) ?_; simp only [pickOps, List.map_cons, List.map_nil, List.getD_cons_zero, List.getD_cons_succ, List.drop_succ_cons, List.drop_zero]; (iterate 7 (first | (refine wpMix_take (v := ?_) (by rfl) ?_ ?_; rotate_left; (focus (intro W hW; subst hW; go_simp; (try with_reducible rfl); done)); try simp only [Act.put, List.setIfInBounds_toArray, List.set_cons_zero, List.set_cons_succ]) | (refine wpMix_leave (by rfl) ?_; try simp only [Act.put, List.setIfInBounds_toArray, List.set_cons_zero, List.set_cons_succ]))); refine wpMix_nil ?_)
          go_wp2_with (go_at_call 49; (with_reducible refine useC HE.out ?_); rintro e w5 ⟨rfl, hf⟩; have HC5 := Lib.hid (HCD.out.step hf); clear hf)
          go_roundw
          case rel => exact ⟨k + 1, by omega, by go_num, by show WxCr _ _ _ _; rw [HU2.out]; exact HC5.out⟩
          case measure => simp [intOf]; omega
      · have kI : ¬ (k : Int) < xs.length := by omega
        obtain rfl : k = xs.length := by omega
        have HC5 := Lib.hid hC.out
        rw [Wl.lastTo_all] at HC5
        obtain ⟨A5, c5, hu⟩ := HC5.out.own.form0
        subst hu
        have hfx := free_block (HC5.out.fr.get HXA.out (by simp)) 1 none
        have HLN : Hid ((Wl.last xs).length ≤ xs.length) := Wl.last_len xs
        have HXW := Lib.hid (HC5.out.fr.get HXA.out (by simp))
        have HYW := Lib.hid (HC5.out.fr.get HYA.out (by simp))
        have hcb := HC5.out.own.ge
        have HCB := Lib.hid hcb
        have HLT := Lib.hid (lt_of_heap HXA.out)
        clear hcb hC hlt
        generalize Wl.last xs = ys at *
        go_wp2_with (first
          | (have hb1' := hfx; clear hb1'; refine wpList_store_one rfl 55 _ _ rfl X 1 (.slice A5 ys.length c5) (.slice A xs.length c) rfl rfl (by kernel_rfl) rfl rfl b1 hfx ?_; intro w6 hw6; have HX6 : Hid (WxX w6 X (.slice A1 d.home.length c1) (.slice A5 ys.length c5) d.syn) := (by rw [hw6]; unfold WxX; rw [set_block HXW.out]; rfl); have HF6 : Hid (Fr [X] wr w6) := (by rw [hw6]; exact (Fr.refl [X] wr).setCell (.inl (by simp)) _); clear hw6 b0 b1 b2 hfx; obtain ⟨b0, b1, b2⟩ := HX6.out.cells; have hf2 := free_block HX6.out 2 none)
          | (have hb1' := hf2; clear hb1'; refine wpList_store_one rfl 3 _ _ rfl X 2 (.int .i64 ys.length) (.int .i64 d.syn) rfl rfl (by kernel_rfl) rfl rfl b2 hf2 ?_; intro w7 hw7; have HX7 : Hid (WxX w7 X (.slice A1 d.home.length c1) (.slice A5 ys.length c5) ys.length) := (by rw [hw7]; unfold WxX; rw [set_block HX6.out]; rfl); have HF7 : Hid (Fr [X] wr w7) := (by rw [hw7]; exact HF6.out.setCell (.inl (by simp)) _); clear hw7 b0 b1 b2 hf2; obtain ⟨b0, b1, b2⟩ := HX7.out.cells; have HY7 : Hid (WxX w7 X2 (.slice none 0 0) (.slice none 0 0) 0) := HF7.out.get HYW.out (by simpa using HGE.out.2.1); obtain ⟨z0, z1, z2⟩ := HY7.out.cells; have hzf := fun i => free_block HY7.out i none))
        have f7 : Fr [] w w7 := (HFX.out.trans HC5.out.fr).step HF7.out (fun y hy => .inr (by simp only [List.mem_singleton] at hy; rw [hy, HXS.out.1]; exact Nat.le_refl _))
        have hr7 : OwnR enW w7 wA.heap.size 49 (.slice A5 ys.length c5) ys := HC5.out.own.kept HF7.out (fun y hy e => by
          simp only [List.mem_singleton] at hy
          subst hy
          have := (HCB.out _ e).1
          have := HLT.out
          omega)
        have hfin := wx_copy (h := .slice A1 d.home.length c1) (l := .slice A5 ys.length c5) (s := ys.length) f7 HGE.out.1 HY7.out
        obtain ⟨g5, hg5, hs5⟩ := hr7.sl
        refine bodyPost_ret (v := .tuple #[.agg #[.slice A1 d.home.length c1, .slice A5 ys.length c5, .int .i64 ys.length], .int .i64 0]) (wx_results Tryd.results28 rfl rfl hfin.1) rfl ?_
        rw [er.out]
        rcases hg5 with h5 | h5
        · have hG5 : G g5 := HG.out.2 g5 (Nat.le_trans HFX.out.size h5)
          exact ⟨_, rfl, ⟨_, _, g1, g5, rfl, ⟨HG.out.1.1, hG5⟩, HH.out.fr hfin.2.1 (by simp), hs5.fr hfin.2.2 (fun e => by simp only [List.mem_singleton] at e; have h1 := lt_of_heap HYA.out; omega)⟩, hfin.2.1⟩
        · subst h5
          rcases hs5 with hs5 | ⟨o5, c6, h6, -⟩
          · exact ⟨_, rfl, ⟨_, _, g1, g1, rfl, ⟨HG.out.1.1, HG.out.1.1⟩, HH.out.fr hfin.2.1 (by simp), .inl hs5⟩, hfin.2.1⟩
          · exact ⟨_, rfl, ⟨_, _, g1, g1, rfl, ⟨HG.out.1.1, HG.out.1.1⟩, HH.out.fr hfin.2.1 (by simp), .inl ⟨rfl, _, _, rfl⟩⟩, hfin.2.1⟩
  · have e1 := decide_eq_false hn
    have er : Wl.crash d n = (d, 1) := by unfold Wl.crash; rw [if_neg hn]
    obtain ⟨k1, k2, -⟩ := wx_copy (h := .slice A1 d.home.length c1) (l := .slice A d.log.length c) (s := d.syn) HFA.out (B := X2) hge HY1.out
    have HE1 : Hid (WxDn G (Wl.crash d n).1 (Wl.crash d n).2 w (.returned (.tuple #[.agg #[.slice A1 d.home.length c1, .slice A d.log.length c, .int .i64 d.syn], .int .i64 1])) (((W0.setCell ⟨X2, 0, none⟩ (.slice A1 d.home.length c1)).setCell ⟨X2, 1, none⟩ (.slice A d.log.length c)).setCell ⟨X2, 2, none⟩ (.int .i64 d.syn))) := by
      show WxDn _ _ _ _ _ _
      rw [er]
      exact ⟨_, rfl, ⟨_, _, g1, g2, rfl, hg, hh.fr k2 (by simp), hl.fr k2 (by simp)⟩, k2⟩
    have HK1 := Lib.hid k1
    clear hA hc hA1 hc1 hl hh hg hG hnv hn fA hsz y0 y1 hge hcap k1 k2 er
    refine useC (r2in_is n d.syn d.log.length false _ e1) ?_
    rintro e w1 ⟨rfl, rfl⟩
    go_wp2
    exact bodyPost_ret (v := .tuple #[.agg #[.slice A1 d.home.length c1, .slice A d.log.length c, .int .i64 d.syn], .int .i64 1]) (wx_results Tryd.results28 rfl rfl HK1.out) rfl HE1.out
end Go.Proofs.YtmhmbgkpojgbbaaDoor
