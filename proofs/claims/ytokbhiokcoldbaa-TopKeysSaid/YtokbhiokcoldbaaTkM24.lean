/- The law TopKeys: its walk. -/
import Derived.Test.YtokbhiokcoldbaaRows
import Derived.ProofKit
import Derived.OpenShut
import Derived.JoinedCond
import Derived.WideKeyArgs
import Derived.Test.YtokbhiokcoldbaaTkM01
import Derived.Test.YtokbhiokcoldbaaTkM03
import Derived.Test.YtokbhiokcoldbaaTkM05
import Derived.Test.YtokbhiokcoldbaaTkM15
import Derived.Test.YtokbhiokcoldbaaTkM17
import Derived.Test.YtokbhiokcoldbaaTkM23
namespace Go.Proofs.Ytokbhiokcoldbaa
open Go.RowKit

namespace Tk
theorem one_a : Ls.putErr Ls.new 1 1 = 0 := by decide
theorem one_b : Bt.addErr Bt.new 1 = 0 := by decide
theorem one_c : Bt.has (Bt.put Bt.new 1).d (Bt.put Bt.new 1).t 1 = true := by decide
/-- In the loop: so many are in. -/
def Lp (w wr : World) (a sb c n : Nat) : Prop := ∃ PA PC m st s, TkS w wr PA PC a sb c m st s ∧ R m (Co.tree st n) s n ∧ st.length = n + 1
theorem has_last {st : List Ct} {n : Nat} (hl : st.length = n + 1) : Co.has st n := ⟨by omega, by omega⟩
theorem Lp.next {w wr : World} {PA PC : Nat → Prop} {a sb c n N : Nat} {m : Ls.M} {st : List Ct} {s : Bt.Tree} {k x : Int} (h : TkS w wr PA PC a sb c (Ls.put m k x) (st ++ [Co.put (Co.tree st n) N k x]) (Bt.put s k)) (hR : R m (Co.tree st n) s n) (hl : st.length = n + 1) (hf : Fit k x) (hn : n < 60) : Lp w wr a sb c (n + 1) := by
  rw [putYes hf] at h
  refine ⟨PA, PC, _, _, _, h, ?_, by simp [hl]⟩
  have e := Co.tree_new st (Co.put (Co.tree st n) N k x)
  rw [hl] at e
  rw [e]
  exact hR.step hf.1 hf.2 hn N
theorem get_some {m : Ls.M} {st : List Ct} {s : Bt.Tree} {n : Nat} {ask v : Int} (hR : R m (Co.tree st n) s n) (hl : st.length = n + 1) (hg : Co.get (Co.tree st n) ask = some v) : Ls.getV m ask = v ∧ Ls.getE m ask = 0 ∧ Bt.has s.d s.t ask = true ∧ coGet st n ask = .tuple #[.int .i64 v, .nilIface] := by
  refine ⟨?_, ?_, ?_, ?_⟩
  · unfold Ls.getV; rw [hR.get, hg]; rfl
  · unfold Ls.getE; rw [hR.get, hg]; rfl
  · rw [hR.has, hg]; rfl
  · unfold coGet; rw [if_pos (has_last hl), hg]
theorem get_none {m : Ls.M} {st : List Ct} {s : Bt.Tree} {n : Nat} {ask : Int} (hR : R m (Co.tree st n) s n) (hl : st.length = n + 1) (hg : Co.get (Co.tree st n) ask = none) : Ls.getV m ask = 0 ∧ Ls.getE m ask = 5 ∧ Bt.has s.d s.t ask = false ∧ coGet st n ask = .tuple #[.int .i64 0, .iface 67 (.int .i64 5)] := by
  refine ⟨?_, ?_, ?_, ?_⟩
  · unfold Ls.getV; rw [hR.get, hg]; rfl
  · unfold Ls.getE; rw [hR.get, hg]; rfl
  · rw [hR.has, hg]; rfl
  · unfold coGet; rw [if_pos (has_last hl), hg]
end Tk
set_option maxRecDepth 100000 in
set_option maxHeartbeats 8000000 in
theorem tk_keysL (w : World) (v : Value) (ls : List (List Int)) (ask : Int) (hR : Rw w.heap.size w v ls) : Calls Try.prog 7 #[v, .int .i64 ask] w (OkT w) := by
  obtain ⟨A, g, o, cc, rfl, hm, hF⟩ := hR
  have HF := Lib.hid hF
  have HN := Lib.hid (fun W => ls_New W)
  have HNC := Lib.hid (fun W => bt_New W)
  clear hF
  go_enter Try.func7, Try.ntmps7
  go_wp2_with (first
    | (go_at_call 24; (with_reducible refine useC (HN.out w) ?_); rintro e w1 ⟨rfl, hs, hf⟩; obtain ⟨a1, ha1, H1⟩ : ∃ a1, w.heap.size = a1 ∧ Hid (LsF (w.heap.size ≤ ·) w1 a1 Ls.new ∧ Fr [] w w1) := ⟨_, rfl, hs, hf⟩; rw [ha1]; clear hs hf ha1)
    | (have h' := H1; go_at_call 25; (with_reducible refine useC (co_new w1) ?_); rintro e w2 ⟨sb, rfl, hs, hf⟩; have H2 := Lib.hid (And.intro hs hf); clear hs hf h')
    | (have h' := H2; go_at_call 26; (with_reducible refine useC (HNC.out w2) ?_); rintro e w3 ⟨c1, rfl, hs, hf⟩; obtain ⟨PA, PC, HT3⟩ : ∃ PA PC, Hid (TkS w w3 PA PC a1 sb c1 Ls.new [.nil] Bt.new) := ⟨_, _, TkS.start H1.out.1 H1.out.2 H2.out.1 H2.out.2 hs hf⟩; have HC3 := Lib.hid (ls_Put w3 PA a1 Ls.new 1 1 HT3.out.lsm.file Ls.new_ok); rw [Tk.one_a, show errV 0 = .nilIface from rfl] at HC3; clear hs hf h' H2)
    | (have h' := HT3; go_at_call 27; (with_reducible refine useC HC3.out ?_); rintro e w4 ha; obtain ⟨rfl, hs⟩ := HT3.out.turnA (Ls.new_ok.put 1 1) ha; obtain ⟨PA4, HT4⟩ : ∃ P, Hid (TkS w w4 P PC a1 sb c1 (Ls.put Ls.new 1 1) [.nil] Bt.new) := ⟨_, hs⟩; have HC4 := Lib.hid (bt_Add w4 PC c1 Bt.new 1 HT4.out.bt.file Bt.new_ok); rw [Tk.one_b, show errV 0 = .nilIface from rfl] at HC4; clear ha hs h' HC3)
    | (have h' := HT4; go_at_call 18; (with_reducible refine useC HC4.out ?_); rintro e w5 ha; obtain ⟨rfl, hs⟩ := HT4.out.turnC (Bt.new_ok.put 1) ha; obtain ⟨PC5, HT5⟩ : ∃ P, Hid (TkS w w5 PA4 P a1 sb c1 (Ls.put Ls.new 1 1) [.nil] (Bt.put Bt.new 1)) := ⟨_, hs⟩; have HC5 := Lib.hid (bt_Has w5 PC5 c1 (Bt.put Bt.new 1) 1 HT5.out.bt.file HT5.out.bt.ok); rw [Tk.one_c] at HC5; clear ha hs h' HC4)
    | (have h' := HT5; go_at_call 15; (with_reducible refine useC HC5.out ?_); rintro e w6 ⟨rfl, hf⟩; have HT6 := Lib.hid (HT5.out.step hf); clear hf h' HC5)
    | (have h' := HT6; go_at_call 24; (with_reducible refine useC (HN.out w6) ?_); rintro e w7 ⟨rfl, hs, hf⟩; obtain ⟨a, ha, PA7, HT7⟩ : ∃ a, w6.heap.size = a ∧ ∃ P, Hid (TkS w w7 P PC5 a sb c1 Ls.new [.nil] (Bt.put Bt.new 1)) := ⟨_, rfl, _, HT6.out.newA hs hf⟩; rw [ha]; clear hs hf ha h')
    | (have h' := HT7; go_at_call 26; (with_reducible refine useC (HNC.out w7) ?_); rintro e w8 ⟨c, rfl, hs, hf⟩; obtain ⟨PC8, HT8⟩ : ∃ P, Hid (TkS w w8 PA7 P a sb c Ls.new [.nil] Bt.new) := ⟨_, HT7.out.newC hs hf⟩; clear hs hf h'))
  have HL := Lib.hid (show Tk.Lp w w8 a sb c 0 from ⟨_, _, _, _, _, HT8.out, Tk.R.start, rfl⟩)
  clear H1 HT3 HT4 HT5 HT6 HT7 HT8 HN HNC
  go_loopw [8, 9] (fun ver i wr => ∃ k : Nat, k ≤ ls.length ∧ k ≤ 20 ∧ i = .int .i64 k ∧ ∃ n : Nat, n ≤ k ∧ ver = .int .i64 n ∧ Hid (Tk.Lp w wr a sb c n)) (fun _ i _ => 20 - (intOf i).toNat)
  case atStart => exact ⟨0, Nat.zero_le _, Nat.zero_le _, rfl, 0, Nat.le_refl _, rfl, HL⟩
  case round =>
    clear HL
    obtain ⟨k, hk, hk20, rfl, n, hnk, rfl, hL⟩ := hrel
    obtain ⟨PA, PC, m, st, s, hT, hR, hl⟩ := hL.out
    by_cases hin : k < ls.length ∧ k < 20
    · obtain ⟨hlt, h20⟩ := hin
      obtain ⟨rfl, hg⟩ := HF.out.1 (by omega)
      obtain ⟨u, kb, hcell0, hkb, hsl, _⟩ := HF.out.2 k hlt
      have hcell := hT.fr.cell hcell0 (by simp)
      obtain ⟨A', o', c', rfl, hm', hA', hc'⟩ := hsl.form
      have i0 : (0 : Int) ≤ k := by omega
      have i1 : (k : Int) < ls.length := by omega
      have i4 : (k : Int) < 20 := by omega
      clear hsl
      by_cases hl2 : (nthR ls k).length = 2
      · obtain rfl := hA' (by omega)
        have c0 := hc' 0 (by omega)
        have c1 := hc' 1 (by omega)
        rw [Nat.add_zero] at c0
        have HC0 := Lib.hid (fun W (hW : Fr [] w W) => And.intro (hW.cell c0 (by simp)) (hW.cell c1 (by simp)))
        rw [hl2] at hcell
        clear hc' hA' hkb hcell0 c0 c1 hl2
        generalize nth (nthR ls k) 0 = x0 at *
        generalize nth (nthR ls k) 1 = x1 at *
        obtain ⟨q0, q1⟩ := HC0.out wr hT.fr
        have HTd := Lib.hid (hT.step (Fr.refl [] wr).drew)
        have HC := Lib.hid (ls_Put wr.drew PA a m x0 x1 HTd.out.lsm.file hT.lsm.ok)
        have HOK := Lib.hid (hT.lsm.ok.put x0 x1)
        have HR := Lib.hid hR
        have Hl := Lib.hid hl
        have HV := Lib.hid (Tk.has_last hl)
        by_cases hfit : Tk.Fit x0 x1
        · have e1 := (hR.lsErr (by omega) x0 x1).2 hfit
          have e2 := (Tk.coErr (st := st) (v := n) (k := x0) (x := x1) (Tk.has_last hl) (by omega)).2 hfit
          rw [e1, show errV 0 = .nilIface from rfl] at HC
          have HE2 := Lib.hid e2
          have ea := hR.addErr hfit.1 (by omega)
          have HFit := Lib.hid hfit
          clear hL hT hR hl e1 e2 hfit
          cases hhb : Bt.has s.d s.t x0
          · rw [hhb, if_neg (by decide)] at ea
            have HHB := Lib.hid hhb
            have HEA := Lib.hid ea
            clear hhb ea
            go_wp2_with fail
            (refine wp_region_mixq 7 [(true, 0), (true, 1), (true, 2), (true, 3), (true, 4), (true, 5), (true, 6)] (by kernel_rfl) (by kernel_rfl) ?_; simp only [pickOps, List.map_cons, List.map_nil, List.getD_cons_zero, List.getD_cons_succ, List.drop_succ_cons, List.drop_zero]; (iterate 7 (first | (refine wpMix_take (v := ?_) (by rfl) ?_ ?_; rotate_left; (focus (intro W hW; subst hW; go_simp; (try with_reducible rfl); done)); try simp only [Act.put, List.setIfInBounds_toArray, List.set_cons_zero, List.set_cons_succ]) | (refine wpMix_leave (by rfl) ?_; try simp only [Act.put, List.setIfInBounds_toArray, List.set_cons_zero, List.set_cons_succ]))); refine wpMix_nil ?_)
            go_wp2_with (go_at_call 27; (with_reducible refine useC HC.out ?_); intro e w3 ha; obtain ⟨rfl, hs⟩ := HTd.out.turnA HOK.out ha; obtain ⟨PA3, HT3⟩ : ∃ P, Hid (TkS w w3 P PC a sb c (Ls.put m x0 x1) st s) := ⟨_, hs⟩; have HT3d := Lib.hid (HT3.out.step (Fr.refl [] w3).drew); have HCB := Lib.hid (co_Put_ok w3.drew _ sb st n x0 x1 HT3d.out.cow HT3d.out.fr.size HE2.out); clear ha hs HC)
            (refine wp_region_mix (Fr [] w ·) 13 [(true, 0), (true, 1), (true, 2), (true, 3), (true, 4), (true, 5), (true, 6), (true, 7), (false, 8), (true, 9), (true, 10), (true, 11), (false, 12)] (by kernel_rfl) (by kernel_rfl) (HT3d.out.fr) ?_; simp only [pickOps, List.map_cons, List.map_nil, List.getD_cons_zero, List.getD_cons_succ, List.drop_succ_cons, List.drop_zero])
            (iterate 8 (first | (refine wpMix_take (v := ?_) (by rfl) ?_ ?_; rotate_left; (focus (intro W hW; obtain ⟨q0, q1⟩ := HC0.out W hW; go_simp; (try with_reducible rfl); done)); try simp only [Act.put, List.setIfInBounds_toArray, List.set_cons_zero, List.set_cons_succ]) | (refine wpMix_leave (by rfl) ?_; try simp only [Act.put, List.setIfInBounds_toArray, List.set_cons_zero, List.set_cons_succ])))
            refine wpMix_walk ?_
            go_wp2_with (go_at_call 28; (with_reducible refine useC HCB.out ?_); intro e w4 ha; obtain ⟨N, rfl, hs⟩ := HT3d.out.turnB HV.out ha; rw [Hl.out]; have HT4 := Lib.hid hs; clear ha hs HCB)
            refine MixQ.mk (HT4.out.fr) ?_
            (iterate 3 (first | (refine wpMix_take (v := ?_) (by rfl) ?_ ?_; rotate_left; (focus (intro W hW; skip; go_simp; (try with_reducible rfl); done)); try simp only [Act.put, List.setIfInBounds_toArray, List.set_cons_zero, List.set_cons_succ]) | (refine wpMix_leave (by rfl) ?_; try simp only [Act.put, List.setIfInBounds_toArray, List.set_cons_zero, List.set_cons_succ])))
            refine wpMix_walk ?_
            go_wp2
            refine MixQ.mk (HT4.out.fr) ?_
            refine wpMix_nil ?_
            go_wp2_with fail
            (refine wp_region_mixq 4 [(true, 0), (true, 1), (true, 2), (true, 3)] (by kernel_rfl) (by kernel_rfl) ?_; simp only [pickOps, List.map_cons, List.map_nil, List.getD_cons_zero, List.getD_cons_succ, List.drop_succ_cons, List.drop_zero]; (iterate 4 (first | (refine wpMix_take (v := ?_) (by rfl) ?_ ?_; rotate_left; (focus (intro W hW; subst hW; go_simp; (try with_reducible rfl); done)); try simp only [Act.put, List.setIfInBounds_toArray, List.set_cons_zero, List.set_cons_succ]) | (refine wpMix_leave (by rfl) ?_; try simp only [Act.put, List.setIfInBounds_toArray, List.set_cons_zero, List.set_cons_succ]))); refine wpMix_nil ?_)
            have HT4d := Lib.hid (HT4.out.step (Fr.refl [] w4).drew)
            obtain ⟨p0, p1⟩ := HC0.out _ HT4d.out.fr
            have HCH := Lib.hid (bt_Has w4.drew PC c s x0 HT4d.out.bt.file HT4d.out.bt.ok)
            rw [HHB.out] at HCH
            go_wp2_with (first
              | (go_at_call 15; (with_reducible refine useC HCH.out ?_); rintro e w5 ⟨rfl, hf⟩; have HT5 := Lib.hid (HT4d.out.step hf); have HC5 := Lib.hid (bt_Add w5 PC c s x0 HT5.out.bt.file HT5.out.bt.ok); rw [HEA.out, show errV 0 = .nilIface from rfl] at HC5; obtain ⟨r0, r1⟩ := HC0.out _ HT5.out.fr; clear hf HCH)
              | (have h' := HT5; go_at_call 18; (with_reducible refine useC HC5.out ?_); rintro e w6 ha; obtain ⟨rfl, hs⟩ := HT5.out.turnC (HT5.out.bt.ok.put x0) ha; have HL6 := Lib.hid (Tk.Lp.next hs HR.out Hl.out HFit.out (by omega)); clear ha hs h' HC5))
            go_roundw
            case rel => exact ⟨k + 1, by omega, by omega, by go_num, n + 1, by omega, by go_num, HL6.out⟩
            case measure => simp [intOf]; omega
          · rw [hhb, if_pos rfl] at ea
            have HHB := Lib.hid hhb
            have HEA := Lib.hid ea
            clear hhb ea
            go_wp2_with fail
            (refine wp_region_mixq 7 [(true, 0), (true, 1), (true, 2), (true, 3), (true, 4), (true, 5), (true, 6)] (by kernel_rfl) (by kernel_rfl) ?_; simp only [pickOps, List.map_cons, List.map_nil, List.getD_cons_zero, List.getD_cons_succ, List.drop_succ_cons, List.drop_zero]; (iterate 7 (first | (refine wpMix_take (v := ?_) (by rfl) ?_ ?_; rotate_left; (focus (intro W hW; subst hW; go_simp; (try with_reducible rfl); done)); try simp only [Act.put, List.setIfInBounds_toArray, List.set_cons_zero, List.set_cons_succ]) | (refine wpMix_leave (by rfl) ?_; try simp only [Act.put, List.setIfInBounds_toArray, List.set_cons_zero, List.set_cons_succ]))); refine wpMix_nil ?_)
            go_wp2_with (go_at_call 27; (with_reducible refine useC HC.out ?_); intro e w3 ha; obtain ⟨rfl, hs⟩ := HTd.out.turnA HOK.out ha; obtain ⟨PA3, HT3⟩ : ∃ P, Hid (TkS w w3 P PC a sb c (Ls.put m x0 x1) st s) := ⟨_, hs⟩; have HT3d := Lib.hid (HT3.out.step (Fr.refl [] w3).drew); have HCB := Lib.hid (co_Put_ok w3.drew _ sb st n x0 x1 HT3d.out.cow HT3d.out.fr.size HE2.out); clear ha hs HC)
            (refine wp_region_mix (Fr [] w ·) 13 [(true, 0), (true, 1), (true, 2), (true, 3), (true, 4), (true, 5), (true, 6), (true, 7), (false, 8), (true, 9), (true, 10), (true, 11), (false, 12)] (by kernel_rfl) (by kernel_rfl) (HT3d.out.fr) ?_; simp only [pickOps, List.map_cons, List.map_nil, List.getD_cons_zero, List.getD_cons_succ, List.drop_succ_cons, List.drop_zero])
            (iterate 8 (first | (refine wpMix_take (v := ?_) (by rfl) ?_ ?_; rotate_left; (focus (intro W hW; obtain ⟨q0, q1⟩ := HC0.out W hW; go_simp; (try with_reducible rfl); done)); try simp only [Act.put, List.setIfInBounds_toArray, List.set_cons_zero, List.set_cons_succ]) | (refine wpMix_leave (by rfl) ?_; try simp only [Act.put, List.setIfInBounds_toArray, List.set_cons_zero, List.set_cons_succ])))
            refine wpMix_walk ?_
            go_wp2_with (go_at_call 28; (with_reducible refine useC HCB.out ?_); intro e w4 ha; obtain ⟨N, rfl, hs⟩ := HT3d.out.turnB HV.out ha; rw [Hl.out]; have HT4 := Lib.hid hs; clear ha hs HCB)
            refine MixQ.mk (HT4.out.fr) ?_
            (iterate 3 (first | (refine wpMix_take (v := ?_) (by rfl) ?_ ?_; rotate_left; (focus (intro W hW; skip; go_simp; (try with_reducible rfl); done)); try simp only [Act.put, List.setIfInBounds_toArray, List.set_cons_zero, List.set_cons_succ]) | (refine wpMix_leave (by rfl) ?_; try simp only [Act.put, List.setIfInBounds_toArray, List.set_cons_zero, List.set_cons_succ])))
            refine wpMix_walk ?_
            go_wp2
            refine MixQ.mk (HT4.out.fr) ?_
            refine wpMix_nil ?_
            go_wp2_with fail
            (refine wp_region_mixq 4 [(true, 0), (true, 1), (true, 2), (true, 3)] (by kernel_rfl) (by kernel_rfl) ?_; simp only [pickOps, List.map_cons, List.map_nil, List.getD_cons_zero, List.getD_cons_succ, List.drop_succ_cons, List.drop_zero]; (iterate 4 (first | (refine wpMix_take (v := ?_) (by rfl) ?_ ?_; rotate_left; (focus (intro W hW; subst hW; go_simp; (try with_reducible rfl); done)); try simp only [Act.put, List.setIfInBounds_toArray, List.set_cons_zero, List.set_cons_succ]) | (refine wpMix_leave (by rfl) ?_; try simp only [Act.put, List.setIfInBounds_toArray, List.set_cons_zero, List.set_cons_succ]))); refine wpMix_nil ?_)
            have HT4d := Lib.hid (HT4.out.step (Fr.refl [] w4).drew)
            obtain ⟨p0, p1⟩ := HC0.out _ HT4d.out.fr
            have HCH := Lib.hid (bt_Has w4.drew PC c s x0 HT4d.out.bt.file HT4d.out.bt.ok)
            rw [HHB.out] at HCH
            go_wp2_with (first
              | (go_at_call 15; (with_reducible refine useC HCH.out ?_); rintro e w5 ⟨rfl, hf⟩; have HT5 := Lib.hid (HT4d.out.step hf); have HC5 := Lib.hid (bt_Add w5 PC c s x0 HT5.out.bt.file HT5.out.bt.ok); rw [HEA.out, errV_no (by decide)] at HC5; obtain ⟨r0, r1⟩ := HC0.out _ HT5.out.fr; clear hf HCH)
              | (have h' := HT5; go_at_call 18; (with_reducible refine useC HC5.out ?_); rintro e w6 ha; obtain ⟨rfl, hs⟩ := HT5.out.turnC (HT5.out.bt.ok.put x0) ha; have HL6 := Lib.hid (Tk.Lp.next hs HR.out Hl.out HFit.out (by omega)); clear ha hs h' HC5))
            go_roundw
            case rel => exact ⟨k + 1, by omega, by omega, by go_num, n + 1, by omega, by go_num, HL6.out⟩
            case measure => simp [intOf]; omega
        · have e1 : Ls.putErr m x0 x1 ≠ 0 := fun e => hfit ((hR.lsErr (by omega) x0 x1).1 e)
          have e2 : Co.putErr st n x0 x1 ≠ 0 := fun e => hfit ((Tk.coErr (st := st) (v := n) (k := x0) (x := x1) (Tk.has_last hl) (by omega)).1 e)
          rw [errV_no e1, Tk.putNo e1] at HC
          rw [Tk.putNo e1] at HOK
          have HE2 := Lib.hid e2
          clear hL hT hR hl e1 e2 hfit
          go_wp2_with fail
          (refine wp_region_mixq 7 [(true, 0), (true, 1), (true, 2), (true, 3), (true, 4), (true, 5), (true, 6)] (by kernel_rfl) (by kernel_rfl) ?_; simp only [pickOps, List.map_cons, List.map_nil, List.getD_cons_zero, List.getD_cons_succ, List.drop_succ_cons, List.drop_zero]; (iterate 7 (first | (refine wpMix_take (v := ?_) (by rfl) ?_ ?_; rotate_left; (focus (intro W hW; subst hW; go_simp; (try with_reducible rfl); done)); try simp only [Act.put, List.setIfInBounds_toArray, List.set_cons_zero, List.set_cons_succ]) | (refine wpMix_leave (by rfl) ?_; try simp only [Act.put, List.setIfInBounds_toArray, List.set_cons_zero, List.set_cons_succ]))); refine wpMix_nil ?_)
          go_wp2_with (go_at_call 27; (with_reducible refine useC HC.out ?_); intro e w3 ha; obtain ⟨rfl, hs⟩ := HTd.out.turnA HOK.out ha; obtain ⟨PA3, HT3⟩ : ∃ P, Hid (TkS w w3 P PC a sb c m st s) := ⟨_, hs⟩; have HT3d := Lib.hid (HT3.out.step (Fr.refl [] w3).drew); have HCB := Lib.hid (co_Put_err w3.drew _ sb st n x0 x1 _ HT3d.out.cow rfl HE2.out); clear ha hs HC)
          (refine wp_region_mix (Fr [] w ·) 13 [(true, 0), (true, 1), (true, 2), (true, 3), (true, 4), (true, 5), (true, 6), (true, 7), (false, 8), (true, 9), (true, 10), (true, 11), (false, 12)] (by kernel_rfl) (by kernel_rfl) (HT3d.out.fr) ?_; simp only [pickOps, List.map_cons, List.map_nil, List.getD_cons_zero, List.getD_cons_succ, List.drop_succ_cons, List.drop_zero])
          (iterate 8 (first | (refine wpMix_take (v := ?_) (by rfl) ?_ ?_; rotate_left; (focus (intro W hW; obtain ⟨q0, q1⟩ := HC0.out W hW; go_simp; (try with_reducible rfl); done)); try simp only [Act.put, List.setIfInBounds_toArray, List.set_cons_zero, List.set_cons_succ]) | (refine wpMix_leave (by rfl) ?_; try simp only [Act.put, List.setIfInBounds_toArray, List.set_cons_zero, List.set_cons_succ])))
          refine wpMix_walk ?_
          go_wp2_with (go_at_call 28; (with_reducible refine useC HCB.out ?_); rintro e w4 ⟨rfl, hf⟩; have HT4 := Lib.hid (HT3d.out.step hf); clear hf HCB)
          refine MixQ.mk (HT4.out.fr) ?_
          (iterate 3 (first | (refine wpMix_take (v := ?_) (by rfl) ?_ ?_; rotate_left; (focus (intro W hW; skip; go_simp; (try with_reducible rfl); done)); try simp only [Act.put, List.setIfInBounds_toArray, List.set_cons_zero, List.set_cons_succ]) | (refine wpMix_leave (by rfl) ?_; try simp only [Act.put, List.setIfInBounds_toArray, List.set_cons_zero, List.set_cons_succ])))
          refine wpMix_walk ?_
          go_wp2
          refine MixQ.mk (HT4.out.fr) ?_
          refine wpMix_nil ?_
          go_wp2_with fail
          (refine wp_region_mixq 4 [(true, 0), (true, 1), (true, 2), (true, 3)] (by kernel_rfl) (by kernel_rfl) ?_; simp only [pickOps, List.map_cons, List.map_nil, List.getD_cons_zero, List.getD_cons_succ, List.drop_succ_cons, List.drop_zero]; (iterate 4 (first | (refine wpMix_take (v := ?_) (by rfl) ?_ ?_; rotate_left; (focus (intro W hW; subst hW; go_simp; (try with_reducible rfl); done)); try simp only [Act.put, List.setIfInBounds_toArray, List.set_cons_zero, List.set_cons_succ]) | (refine wpMix_leave (by rfl) ?_; try simp only [Act.put, List.setIfInBounds_toArray, List.set_cons_zero, List.set_cons_succ]))); refine wpMix_nil ?_)
          have HL6 := Lib.hid (show Tk.Lp w w4.drew a sb c n from ⟨_, _, _, _, _, HT4.out.step (Fr.refl [] w4).drew, HR.out, Hl.out⟩)
          go_wp2
          go_roundw
          case rel => exact ⟨k + 1, by omega, by omega, by go_num, n, by omega, rfl, HL6.out⟩
          case measure => simp [intOf]; omega
      · have b2 : ¬ (((nthR ls k).length : Int) = 2) := by omega
        have b3 : (((nthR ls k).length : Int) == 2) = false := beq_eq_false_iff_ne.2 (by omega)
        clear hc' hA' hkb hl2 hT hR hl
        go_wp2
        go_roundw
        case rel => exact ⟨k + 1, by omega, by omega, by go_num, n, by omega, rfl, hL.out⟩
        case measure => simp [intOf]; omega
    · have hend : Hid (¬ ((k : Int) < ls.length) ∨ ((k : Int) < ls.length ∧ ¬ (k : Int) < 20)) := by
        by_cases h : k < ls.length
        · exact .inr ⟨by omega, by omega⟩
        · exact .inl (by omega)
      have HT := Lib.hid hT
      have HCG := Lib.hid (ls_Get wr PA a m ask hT.lsm.file hT.lsm.ok)
      have HCO := Lib.hid (fun W (hW : Fr [] wr W) => co_get W _ sb st n ask (hT.step hW).cow)
      have HCK := Lib.hid (fun W (hW : Fr [] wr W) => co_keys W _ sb st n (hT.step hW).cow (Tk.has_last hl))
      unfold CoKeysA at HCK
      have HBH := Lib.hid (fun W (hW : Fr [] wr W) => bt_Has W PC c s ask (hT.step hW).bt.file hT.bt.ok)
      have HBK := Lib.hid (fun W (hW : Fr [] wr W) => bt_Keys W PC c s (hT.step hW).bt.file hT.bt.ok)
      have HLK := Lib.hid (fun W (hW : Fr [] wr W) => ls_Keys W PA a m (hT.step hW).lsm.file hT.lsm.ok)
      rw [hR.cow] at HCK
      rw [hR.lsm] at HLK
      rw [show Bt.all s.d s.t = s.keys from rfl] at HBK
      obtain ⟨K, hK⟩ : ∃ K, s.keys = K := ⟨_, rfl⟩
      rw [hK] at HCK HLK HBK
      have HG : Hid (∃ x y ev b, Ls.getV m ask = x ∧ errV (Ls.getE m ask) = ev ∧ Bt.has s.d s.t ask = b ∧ coGet st n ask = .tuple #[.int .i64 x, ev] ∧ ((ev = .nilIface ∧ b = true) ∨ (ev = .iface 67 (.int .i64 5) ∧ b = false)) ∧ y = x) := by
        cases hg : Co.get (Co.tree st n) ask with
        | some v =>
          obtain ⟨h1, h2, h3, h4⟩ := Tk.get_some hR hl hg
          exact ⟨v, v, .nilIface, true, h1, by rw [h2]; rfl, h3, h4, .inl ⟨rfl, rfl⟩, rfl⟩
        | none =>
          obtain ⟨h1, h2, h3, h4⟩ := Tk.get_none hR hl hg
          exact ⟨0, 0, .iface 67 (.int .i64 5), false, h1, by rw [h2]; rfl, h3, h4, .inr ⟨rfl, rfl⟩, rfl⟩
      obtain ⟨x, y, ev, b, g1, g2, g3, g4, g5, -⟩ := HG.out
      rw [g1, g2] at HCG
      rw [g3] at HBH
      rw [g4] at HCO
      clear g1 g2 g3 g4 HG hK hT hR hl hL HF hin
      rcases g5 with ⟨rfl, rfl⟩ | ⟨rfl, rfl⟩
      all_goals
        rcases hend.out with j1 | ⟨j1, j2⟩
        all_goals
          clear hend
          go_wp2_with (first
            | (go_at_call 29; (with_reducible refine useC HCG.out ?_); rintro e w4 ⟨rfl, hf⟩; have HF4 := Lib.hid hf; clear hf)
            | (have h' := HF4; go_at_call 30; (with_reducible refine useC (HCO.out w4 HF4.out) ?_); rintro e w4 ⟨rfl, rfl⟩)
            | (have h' := HF4; go_at_call 31; (with_reducible refine useC (HCK.out w4 HF4.out) ?_); rintro e w5 ⟨A5, c5, rfl, ho, hf⟩; obtain ⟨g5, -, hs⟩ := ho.sl; have HS5 := Lib.hid hs; have HF5 := Lib.hid (HF4.out.trans hf); clear ho hs hf h'))
          (refine wp_region_mix (Fr [] w5 ·) 32 [(true, 0), (true, 1), (true, 2), (true, 3), (true, 4), (true, 5), (true, 6), (true, 7), (true, 8), (true, 9), (true, 10), (true, 11), (true, 12), (true, 13), (true, 14), (true, 15), (true, 16), (true, 17), (true, 18), (false, 19), (true, 20), (true, 21), (true, 22), (true, 23), (true, 24), (false, 25), (false, 26), (true, 27), (true, 28), (true, 29), (true, 30), (false, 31)] (by kernel_rfl) (by kernel_rfl) ((Fr.refl [] w5).drew) ?_; simp only [pickOps, List.map_cons, List.map_nil, List.getD_cons_zero, List.getD_cons_succ, List.drop_succ_cons, List.drop_zero])
          have HW : Hid (∀ W, Fr [] w5 W → Fr [] wr W) := fun W h => HF5.out.trans h
          have HF5d := Lib.hid (Fr.refl [] w5).drew
          (iterate 19 (first | (refine wpMix_take (v := ?_) (by rfl) ?_ ?_; rotate_left; (focus (intro W hW; skip; go_simp; (try with_reducible rfl); done)); try simp only [Act.put, List.setIfInBounds_toArray, List.set_cons_zero, List.set_cons_succ]) | (refine wpMix_leave (by rfl) ?_; try simp only [Act.put, List.setIfInBounds_toArray, List.set_cons_zero, List.set_cons_succ])))
          refine wpMix_walk ?_
          go_wp2_with (go_at_call 15; (with_reducible refine useC (HBH.out _ (HW.out _ HF5d.out)) ?_); rintro e w6 ⟨rfl, hf⟩; have HF6 := Lib.hid (HF5d.out.trans hf); clear hf)
          refine MixQ.mk (HF6.out) ?_
          (iterate 5 (first | (refine wpMix_take (v := ?_) (by rfl) ?_ ?_; rotate_left; (focus (intro W hW; skip; go_simp; (try with_reducible rfl); done)); try simp only [Act.put, List.setIfInBounds_toArray, List.set_cons_zero, List.set_cons_succ]) | (refine wpMix_leave (by rfl) ?_; try simp only [Act.put, List.setIfInBounds_toArray, List.set_cons_zero, List.set_cons_succ])))
          refine wpMix_walk ?_
          go_wp2_with (go_at_call 13; (with_reducible refine useC (HBK.out _ (HW.out _ HF6.out)) ?_); rintro e w7 ⟨v7, rfl, ho, hf⟩; obtain ⟨g7, -, hs⟩ := ho.sl; have HF7 := Lib.hid (HF6.out.trans hf); have HI7 := Lib.hid (ints_same w7 _ _ _ _ K (HS5.out.fr HF7.out (by simp)) hs); clear ho hs hf)
          refine MixQ.mk (HF7.out) ?_
          refine wpMix_walk ?_
          go_wp2_with (go_at_call 17; (with_reducible refine useC HI7.out ?_); rintro e w8 ⟨rfl, hd⟩; have HF8 := Lib.hid (HF7.out.trans (hd.fr [])); clear hd HI7)
          refine MixQ.mk (HF8.out) ?_
          (iterate 4 (first | (refine wpMix_take (v := ?_) (by rfl) ?_ ?_; rotate_left; (focus (intro W hW; skip; go_simp; (try with_reducible rfl); done)); try simp only [Act.put, List.setIfInBounds_toArray, List.set_cons_zero, List.set_cons_succ]) | (refine wpMix_leave (by rfl) ?_; try simp only [Act.put, List.setIfInBounds_toArray, List.set_cons_zero, List.set_cons_succ])))
          refine wpMix_walk ?_
          go_wp2_with (go_at_call 22; (with_reducible refine useC (HLK.out _ (HW.out _ HF8.out)) ?_); rintro e w9 ⟨v9, g9, rfl, -, hs, hf⟩; have HF9 := Lib.hid (HF8.out.trans hf); have HI9 := Lib.hid (ints_same w9 _ _ _ _ K (HS5.out.fr HF9.out (by simp)) hs); clear hs hf)
          refine MixQ.mk (HF9.out) ?_
          refine wpMix_nil ?_
          go_wp2_with (go_at_call 17; (with_reducible refine useC HI9.out ?_); rintro e w10 ⟨rfl, hd⟩; have HF10 := Lib.hid (HF9.out.trans (hd.fr [])); clear hd HI9)
          go_ret
          exact ⟨rfl, HT.out.fr.trans (HW.out _ HF10.out)⟩
end Go.Proofs.Ytokbhiokcoldbaa
/- How a law's row is closed: its arguments read again in a world in which nothing old has turned; rows of integers opened. -/
namespace Go.Proofs.Ytokbhiokcoldbaa
open Go.ChangeShapes Go.WideShapes Go.ChangeAt Go.RowKit Go.WideElems Go.Deep

section
variable {H : Type} {enc : TypeId × Value → H} {P : Program}
theorem post_of_below {f : Func} {s : ChangeSpec} {apart fresh handsOn again : Bool} {W W' : World} {args : Array Value} {v : Value} {ds gs : List (DataW H)} {before pa pv : List MemPlace}
    (hW : DataW.Whole enc P f.params.toList s.vars apart W args.toList ds gs before)
    (hres : ∀ (b : Nat) (sp : Nat → Bool) (hd : Bool), DataW.TrodAll enc P W' b sp hd f.resultTypes.toList (v.resultList f.resultTypes.size) (s.fn H (ds ++ gs)).results [])
    (hargs : ∀ sp : Nat → Bool, (∀ p ∈ before, sp p.block = true) → DataW.TrodAll enc P W' 0 sp true f.params.toList args.toList (s.fn H (ds ++ gs)).args pa)
    (hvars : ∀ sp : Nat → Bool, (∀ p ∈ before, sp p.block = true) → DataW.TrodVars enc P W' sp s.vars (s.fn H (ds ++ gs)).vars pv)
    (hps : before = pa ++ pv) (hb : Below W.heap.size W W')
    (hok : ∀ (j : Nat) (t : TypeId) (r : Value), f.resultTypes[j]? = some t → (v.resultList f.resultTypes.size)[j]? = some r → Value.okWide P W' .any 0 t r) :
    s.post enc P f apart fresh handsOn again W args v W' := by
  have hlt : ∀ p ∈ before, p.block < W.heap.size := fun p hp => hW.lt p hp
  have hold : ∀ p ∈ before, (fun b => decide (b < W.heap.size)) p.block = true := fun p hp => by simpa using hlt p hp
  refine ⟨ds, gs, before, [], pa, pv, hW, hres _ _ _, hargs _ hold, hvars _ hold, World.keptBut_mono (fun p hp => ⟨hp, ?_⟩) (hb.frame (· ∈ before)), fun _ => ?_⟩
  · rw [hps, List.mem_append] at hp
    exact Or.inr hp
  · obtain ⟨_, _, _, _, _, hz, hn⟩ := hW
    refine ⟨hok, _, _, ([] ++ pa) ++ pv, ⟨[] ++ pa, pv, trodAll_append (hargs _ (fun _ _ => rfl)) (hres _ _ _), hvars _ (fun _ _ => rfl), rfl, ?_, ?_⟩, ?_⟩
    · intro b off hp
      have hin : MemPlace.cell b off ∈ before := by rw [hps]; simpa using hp
      rw [hb.frozen (hlt _ hin)]
      exact hz b off hin
    · intro ha
      have := hn ha
      rw [hps] at this
      simpa using this
    · intro p hp _
      rw [hps]
      simpa using hp

theorem trodAll_stays (hl : laidOutB P = true) {W W' : World} {sp' : Nat → Bool} (hs : ∀ p : MemPlace, p.block < W.heap.size → W.sameAt W' p) :
    ∀ (ts : List TypeId) (vs : List Value) (ds : List (DataW H)) (ps : List MemPlace), (∀ t ∈ ts, P.readableRec t = true ∧ t < P.types.size) →
      DataW.TrodAll enc P W 0 (fun _ => true) true ts vs ds ps → (∀ p ∈ ps, p.block < W.heap.size ∧ sp' p.block = true) → DataW.TrodAll enc P W' 0 sp' true ts vs ds ps
  | [], [], [], _, _, h, _ => h
  | t :: ts, v :: vs, d :: ds, _, ht, ⟨p, q, h1, h2, e⟩, hp => by
    subst e
    exact ⟨p, q, Trod_stays hl (ht t (by simp)).1 (ht t (by simp)).2 h1 (fun x hx => hs x (hp x (by simp [hx])).1) (fun x hx => (hp x (by simp [hx])).2),
      trodAll_stays hl hs ts vs ds q (fun x hx => ht x (by simp [hx])) h2 (fun x hx => hp x (by simp [hx])), rfl⟩
  | [], _ :: _, _, _, _, h, _ => h.elim
  | [], [], _ :: _, _, _, h, _ => h.elim
  | _ :: _, [], _, _, _, h, _ => h.elim
  | _ :: _, _ :: _, [], _, _, h, _ => h.elim

/-- A law's end: true, and nothing that was there has turned. -/
theorem law_post {f : Func} {s : ChangeSpec} {W W' : World} {args : Array Value} {ds : List (DataW H)} {before : List MemPlace} {tb : TypeId}
    (hl : laidOutB P = true) (hv : s.vars = []) (hW : DataW.Whole enc P f.params.toList s.vars false W args.toList ds [] before)
    (hs : s.fn H (ds ++ []) = { results := [.lit (.bool true)], args := ds })
    (ht : ∀ t ∈ f.params.toList, P.readableRec t = true ∧ t < P.types.size) (hr : f.resultTypes = #[tb]) (hu : P.underlying tb = some .bool) (hb : Below W.heap.size W W') :
    s.post enc P f false true false false W args (.bool true) W' := by
  have hlt : ∀ p ∈ before, p.block < W.heap.size := fun p hp => hW.lt p hp
  have hW' := hW
  obtain ⟨p, q, hA, hV, rfl, _, _⟩ := hW
  rw [hv] at hV
  have hq : q = [] := by simpa [DataW.TrodVars] using hV
  subst hq
  have e1 : (s.fn H (ds ++ [])).results = [.lit (.bool true)] := by rw [hs]
  have e2 : (s.fn H (ds ++ [])).args = ds := by rw [hs]
  have e3 : (s.fn H (ds ++ [])).vars = [] := by rw [hs]
  refine post_of_below (pa := p) (pv := []) hW' ?_ ?_ ?_ rfl hb ?_
  · intro b sp hd
    rw [e1, hr]
    exact trodAll_mk1 (shut_bool hu true)
  · intro sp hsp
    rw [e2]
    exact trodAll_stays hl (fun x hx => hb.same hx) _ _ _ _ ht hA (fun x hx => ⟨hlt x (by simp [hx]), hsp x (by simp [hx])⟩)
  · intro sp _
    rw [e3, hv]
    rfl
  · exact ok_one hr rfl (okWide_bool_mk hu true)
end

/-! ### Arguments opened -/
theorem i64_of_wf {x : Int} (h : (Lit.int .i64 x).wf = true) : I64 x := by
  simp [Lit.wf, IntKind.min, IntKind.max, IntKind.signed, IntKind.bits] at h
  exact ⟨by omega, by omega⟩
section
variable {H : Type} {enc : TypeId × Value → H} {P : Program}
/-- A list of lists of integers that came in. -/
theorem open_rows {t e q : TypeId} {W : World} {a0 : Option Addr} {len cap fuel : Nat} {x : DataW H × List MemPlace} (ht : P.underlying t = some (.slice e)) (he : P.underlying e = some (.slice q)) (hq : P.underlying q = some (.int .i64))
    (ce : P.cellsOf e = 1) (cq : P.cellsOf q = 1) (h : DataW.trod enc P W 0 (fun _ => true) true fuel t [.slice a0 len cap] = some x) : ∃ ls, Rw W.heap.size W (.slice a0 len cap) ls := by
  rcases open_int_rows ht he hq ce cq h with ⟨hcs, _⟩ | ⟨a, len', cap', A, L, C, Z, hcs, _, hl, hm, _, hrows⟩
  · simp only [List.cons.injEq, Value.slice.injEq, and_true] at hcs
    obtain ⟨rfl, rfl, rfl⟩ := hcs
    exact ⟨[], none, 0, 0, 0, rfl, by simp, by simp, by simp⟩
  · simp only [List.cons.injEq, Value.slice.injEq, and_true] at hcs
    obtain ⟨rfl, rfl, rfl⟩ := hcs
    refine ⟨(List.range len).map fun r => (Z r).take (L r), some a, a.block, a.off, cap, by simp, by simp; unfold maxLen at hm; omega, ⟨fun h0 => ?_, fun i hi => ?_⟩⟩
    · have h0' : 0 < len := by simpa using h0
      have hc := (hrows 0 (by omega)).1
      rw [Addr.add_zero'] at hc
      have hsp : a.spot = none := World.cell?_spot hc
      obtain ⟨bl, of, sp⟩ := a
      simp only at hsp
      subst hsp
      exact ⟨rfl, block_lt_of_cell hc⟩
    · have hi' : i < len := by simpa using hi
      obtain ⟨hc, h1, h2, h3, h4, h5, h6⟩ := hrows i (by omega)
      have hc0 := (hrows 0 (by omega)).1
      rw [Addr.add_zero'] at hc0
      have hsp : a.spot = none := World.cell?_spot hc0
      obtain ⟨bl, of, sp⟩ := a
      simp only at hsp
      subst hsp
      rw [Addr.add_lit] at hc
      have er : nthR ((List.range len).map fun r => (Z r).take (L r)) i = (Z i).take (L i) := by simp [nthR, List.getD, hi']
      have elen : ((Z i).take (L i)).length = L i := by rw [List.length_take, h3]; omega
      rw [er]
      cases hA : A i with
      | none =>
        have hC := h5 hA
        have hL : L i = 0 := by omega
        refine ⟨_, 0, hc, .inr (by rw [hL]; rfl), .inl ⟨by rw [hL]; rfl, _, _, by rw [hL]⟩, fun x hx => i64_of_wf (h4 x (List.mem_of_mem_take hx))⟩
      | some a' =>
        obtain ⟨_, h7⟩ := h6 a' hA
        by_cases hL : L i = 0
        · exact ⟨_, 0, hc, .inr (by rw [hL]; rfl), .inl ⟨by rw [hL]; rfl, _, _, by rw [hL]⟩, fun x hx => i64_of_wf (h4 x (List.mem_of_mem_take hx))⟩
        · have hc' := h7 0 (by omega)
          rw [Addr.add_zero'] at hc'
          have hsp' : a'.spot = none := World.cell?_spot hc'
          obtain ⟨bl', of', sp'⟩ := a'
          simp only at hsp'
          subst hsp'
          refine ⟨_, bl', hc, .inl (block_lt_of_cell hc'), .inr ⟨of', C i, by rw [hA, elen], by rw [elen]; exact h1, h2, fun j hj => ?_⟩, fun x hx => i64_of_wf (h4 x (List.mem_of_mem_take hx))⟩
          rw [elen] at hj
          have := h7 j (by omega)
          rw [Addr.add_lit] at this
          rw [this]
          simp [nth, List.getD, hj]
end
end Go.Proofs.Ytokbhiokcoldbaa
