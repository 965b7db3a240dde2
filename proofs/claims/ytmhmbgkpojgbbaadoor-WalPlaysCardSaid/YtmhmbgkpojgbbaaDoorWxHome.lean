/- The document's answer for package wal: AtHome, NewWal. -/
import Derived.Test.YtmhmbgkpojgbbaaDoorWxVals
import Derived.Test.YtmhmbgkpojgbbaaDoorWxCrash
namespace Go.Proofs.YtmhmbgkpojgbbaaDoor
open Go.RowKit

theorem Wl.home_no {d : Wl.D} (k : Nat) (hk : k < d.log.length) (h : Wl.ended d.log d.log[k].t = false) : Wl.goHome d = (d, 7) := by
  unfold Wl.goHome
  rw [if_neg]
  intro ha
  unfold Wl.allEnded at ha
  rw [List.all_eq_true] at ha
  have := ha d.log[k] (List.getElem_mem hk)
  rw [h] at this
  cases this
theorem Wl.home_yes {d : Wl.D} (h : ∀ j (hj : j < d.log.length), Wl.ended d.log d.log[j].t = true) : Wl.goHome d = (⟨Wl.values d, [], 0⟩, 0) := by
  unfold Wl.goHome
  rw [if_pos]
  unfold Wl.allEnded
  rw [List.all_eq_true]
  intro r hr
  obtain ⟨j, hj, rfl⟩ := List.getElem_of_mem hr
  exact h j hj
set_option maxRecDepth 100000 in
set_option maxHeartbeats 1000000 in
theorem wx_AtHome (w : World) (G : Nat → Prop) (v : Value) (d : Wl.D) (hv : WxV G w v d) (hO : Wl.OK d) (hnv : Wl.Nv d.log) (hG : ∀ k, w.heap.size ≤ k → G k) :
    Calls Tryd.prog 32 #[v] w (WxDn G (Wl.goHome d).1 (Wl.goHome d).2 w) := by
  have HV := Lib.hid hv
  obtain ⟨h, l, g1, g2, rfl, hg, hh, hl⟩ := hv
  obtain ⟨hsz, fA, y0, y1⟩ := two_allocs w (.cells #[h, l, .int .i64 d.syn] 57) (.cells #[.slice none 0 0, .slice none 0 0, .int .i64 0] 57)
  obtain ⟨A, o, c, rfl, hA, hc⟩ := hl.w3
  obtain ⟨A1, o1, c1, rfl, -, hA1, hc1⟩ := hh.form
  go_enter Tryd.func32, Tryd.ntmps32
  go_wp2_with fail
  generalize hW : ((w.alloc (.cells #[.slice A1 d.home.length c1, .slice A d.log.length c, .int .i64 d.syn] 57)).alloc (.cells #[.slice none 0 0, .slice none 0 0, .int .i64 0] 57)) = W0 at *
  clear hW
  obtain ⟨X, hX⟩ : ∃ X, X = w.heap.size := ⟨_, rfl⟩
  rw [← hX] at hsz y0 y1 ⊢
  obtain ⟨X2, hX2⟩ : ∃ X2, X2 = X + 1 := ⟨_, rfl⟩
  rw [← hX2] at y1 ⊢
  have hge : w.heap.size ≤ X2 := by omega
  have HGE := Lib.hid hge
  have hxl : X < W0.heap.size ∧ X2 < W0.heap.size := by omega
  clear hX hX2 hge
  have HFA := Lib.hid fA
  have HY0 := Lib.hid y0
  have HY1 := Lib.hid y1
  have hn60 := hO.len
  have HO := Lib.hid hO
  have HNV := Lib.hid hnv
  have HG := Lib.hid (And.intro hg hG)
  have HH := Lib.hid hh
  have HL := Lib.hid hl
  have HAX := Lib.hid hA
  have HC := Lib.hid (fun W (hW : Fr [] W0 W) i (hi : i < d.log.length) => (fA.trans hW).cell (hc i hi).1 (by simp))
  have HEN := Lib.hid (fun W (hW : Fr [] W0 W) t => wx_Ended W (.slice A1 d.home.length c1) (.slice A d.log.length c) d.syn t g2 d.log (hl.fr (fA.trans hW) (by simp)) hnv hn60)
  have hxg : w.heap.size ≤ X2 := HGE.out
  have hg1 : g1 < w.heap.size := by
    obtain ⟨A', o', c', -, -, -, hc'⟩ := hh.form
    exact block_lt_of_cell (hc' 0 (by rw [hO.home]; decide))
  obtain ⟨g3, ⟨hg3, hx3⟩, hl3⟩ : ∃ g3, (G g3 ∧ g3 ≠ X2) ∧ SlR enW w (.slice A d.log.length c) g3 d.log := by
    by_cases he : d.log = []
    · exact ⟨g1, ⟨hg.1, by omega⟩, hl.any he g1⟩
    · exact ⟨g2, ⟨hg.2, by have := hl.lt he; omega⟩, hl⟩
  have HVL := Lib.hid (fun W (hW : Fr [] W0 W) => wx_Values W (fun k => G k ∧ k ≠ X2) _ d ⟨_, _, g1, g3, rfl, ⟨⟨hg.1, by omega⟩, ⟨hg3, hx3⟩⟩, hh.fr (fA.trans hW) (by simp), hl3.fr (fA.trans hW) (by simp)⟩ hO hnv (fun k hk => ⟨hG k (Nat.le_trans (fA.trans hW).size hk), by have := hW.size; omega⟩))
  clear hg1 hg3 hx3 hl3 hxg
  have HE0 : Hid (∀ j (hj : j < d.log.length), j < 0 → Wl.ended d.log d.log[j].t = true) := fun j _ hj => absurd hj (Nat.not_lt_zero _)
  have HF0 : Hid (Fr [] W0 W0) := Fr.refl _ _
  clear hA hc hA1 hc1 hl hh hg hG hnv fA hsz y0 y1 hO
  go_loopw [4] (fun i wr => ∃ k : Nat, k ≤ d.log.length ∧ i = .int .i64 k ∧ Hid (∀ j (hj : j < d.log.length), j < k → Wl.ended d.log d.log[j].t = true) ∧ Hid (Fr [] W0 wr)) (fun i _ => d.log.length - (intOf i).toNat)
  case atStart => exact ⟨0, Nat.zero_le _, rfl, HE0, HF0⟩
  case round =>
    clear HE0 HF0
    obtain ⟨k, hk, rfl, hs, hF⟩ := hrel
    obtain ⟨b0, b1, b2⟩ := WxX.cells (hF.out.get HY0.out (by simp))
    by_cases hlt : k < d.log.length
    · obtain rfl := HAX.out (by omega)
      have c0 := HC.out wr hF.out k hlt
      have kI : (k : Int) < d.log.length := by omega
      have k0 : (0 : Int) ≤ k := by omega
      have HFD := Lib.hid (hF.out.drew)
      have HE := Lib.hid (HEN.out wr.drew HFD.out d.log[k].t)
      cases hen : Wl.ended d.log d.log[k].t with
      | true =>
        have HS : Hid (∀ j (hj : j < d.log.length), j < k + 1 → Wl.ended d.log d.log[j].t = true) := fun j hj hjk => by
          by_cases e : j = k
          · subst e; exact hen
          · exact hs.out j hj (by omega)
        rw [hen] at HE
        clear hen hs
        generalize d.log[k].t = tk at *
        go_wp2_with fail
        (refine wp_region_mixq 7 [(true, 0), (true, 1), (true, 2), (true, 3), (true, 4), (true, 5), (true, 6)] (by kernel_rfl) (by kernel_rfl) ?_; simp only [pickOps, List.map_cons, List.map_nil, List.getD_cons_zero, List.getD_cons_succ, List.drop_succ_cons, List.drop_zero]; (iterate 7 (first | (refine wpMix_take (v := ?_) (by rfl) ?_ ?_; rotate_left; (focus (intro W hW; subst hW; go_simp; (try with_reducible rfl); done)); try simp only [Act.put, List.setIfInBounds_toArray, List.set_cons_zero, List.set_cons_succ]) | (refine wpMix_leave (by rfl) ?_; try simp only [Act.put, List.setIfInBounds_toArray, List.set_cons_zero, List.set_cons_succ]))); refine wpMix_nil ?_)
        go_wp2_with (go_at_call 49; (with_reducible refine useC HE.out ?_); rintro e w5 ⟨rfl, hf⟩; have HF5 := Lib.hid (HFD.out.trans hf); clear hf)
        go_roundw
        case rel => exact ⟨k + 1, by omega, by go_num, HS, HF5.out⟩
        case measure => simp [intOf]; omega
      | false =>
        have er := Lib.hid (Wl.home_no k hlt hen)
        rw [hen] at HE
        clear hen hs
        generalize d.log[k].t = tk at *
        go_wp2_with fail
        (refine wp_region_mixq 7 [(true, 0), (true, 1), (true, 2), (true, 3), (true, 4), (true, 5), (true, 6)] (by kernel_rfl) (by kernel_rfl) ?_; simp only [pickOps, List.map_cons, List.map_nil, List.getD_cons_zero, List.getD_cons_succ, List.drop_succ_cons, List.drop_zero]; (iterate 7 (first | (refine wpMix_take (v := ?_) (by rfl) ?_ ?_; rotate_left; (focus (intro W hW; subst hW; go_simp; (try with_reducible rfl); done)); try simp only [Act.put, List.setIfInBounds_toArray, List.set_cons_zero, List.set_cons_succ]) | (refine wpMix_leave (by rfl) ?_; try simp only [Act.put, List.setIfInBounds_toArray, List.set_cons_zero, List.set_cons_succ]))); refine wpMix_nil ?_)
        go_wp2_with (go_at_call 49; (with_reducible refine useC HE.out ?_); rintro e w5 ⟨rfl, hf⟩; have HF5 := Lib.hid (HFD.out.trans hf); clear hf b0 b1 b2; obtain ⟨b0, b1, b2⟩ := WxX.cells (HF5.out.get HY0.out (by simp)); have HY5 := Lib.hid (HF5.out.get HY1.out (by simp)); obtain ⟨o0, o1', o2⟩ := WxX.cells HY5.out; have hfo := fun i => free_block HY5.out i none)
        obtain ⟨k1, k2, -⟩ := wx_copy (h := .slice A1 d.home.length c1) (l := .slice (some ⟨g2, o, none⟩) d.log.length c) (s := d.syn) (HFA.out.trans HF5.out) (B := X2) HGE.out HY5.out
        refine bodyPost_ret (v := .tuple #[.agg #[.slice A1 d.home.length c1, .slice (some ⟨g2, o, none⟩) d.log.length c, .int .i64 d.syn], .int .i64 7]) (wx_results Tryd.results32 rfl rfl k1) rfl ?_
        rw [er.out]
        exact ⟨_, rfl, ⟨_, _, g1, g2, rfl, HG.out.1, HH.out.fr k2 (by simp), HL.out.fr k2 (by simp)⟩, k2⟩
    · have kI : ¬ (k : Int) < d.log.length := by omega
      have er := Lib.hid (Wl.home_yes (d := d) (fun j hj => hs.out j hj (by omega)))
      have HVC := Lib.hid (HVL.out wr hF.out)
      have HV8 := Lib.hid (Wl.values_len HO.out)
      clear hs hlt
      generalize Wl.values d = vs at *
      go_wp2_with (go_at_call 36; (with_reducible refine useC HVC.out ?_); rintro e w5 ⟨v5, g5, rfl, hg5, hs5, hf⟩; obtain ⟨A5, o5, c5, rfl, -, -, -⟩ := hs5.form; have HS5 := Lib.hid hs5; have HG5 := Lib.hid hg5; have HF5 := Lib.hid (hF.out.trans hf); clear hf b0 b1 b2 hs5 hg5; have HY5 := Lib.hid (HF5.out.get HY1.out (by simp)); obtain ⟨o0, o1', o2⟩ := WxX.cells HY5.out; have hfo := fun i => free_block HY5.out i none)
      obtain ⟨k1, k2, k3⟩ := wx_copy (h := .slice A5 vs.length c5) (l := .slice none 0 0) (s := 0) (HFA.out.trans HF5.out) (B := X2) HGE.out HY5.out
      refine bodyPost_ret (v := .tuple #[.agg #[.slice A5 vs.length c5, .slice none 0 0, .int .i64 0], .int .i64 0]) (wx_results Tryd.results32 rfl rfl k1) rfl ?_
      rw [er.out]
      have hlt2 := lt_of_heap HY1.out
      have hne : g5 ∉ [X2] := by simpa using HG5.out.2
      exact ⟨_, rfl, ⟨_, _, g5, g5, rfl, ⟨HG5.out.1, HG5.out.1⟩, HS5.out.fr k3 hne, .inl ⟨rfl, _, _, rfl⟩⟩, k2⟩
set_option maxRecDepth 100000 in
theorem wx_New (w : World) : Calls Tryd.prog 25 #[] w fun e w' => ∃ v, e = .returned v ∧ WxV (w.heap.size ≤ ·) w' v Wl.new ∧ Fr [] w w' := by
  have h8 := mk_z 8 (by decide) 8 rfl
  go_enter Tryd.func25, Tryd.ntmps25
  go_wp2
  have s1 : (w.alloc (.cells #[.slice (some ⟨w.heap.size + 1, 0, none⟩) 8 8, .slice none 0 0, .int .i64 0] 57)).heap.size = w.heap.size + 1 := by simp
  have h1 := mkz_sl (w.alloc (.cells #[.slice (some ⟨w.heap.size + 1, 0, none⟩) 8 8, .slice none 0 0, .int .i64 0] 57)) 8 (by decide) (Fr.refl [] _)
  rw [s1] at h1
  have hx : WxX ((w.alloc (.cells #[.slice (some ⟨w.heap.size + 1, 0, none⟩) 8 8, .slice none 0 0, .int .i64 0] 57)).alloc (.cells (mkz 8) 3)) w.heap.size (.slice (some ⟨w.heap.size + 1, 0, none⟩) 8 8) (.slice none 0 0) 0 := ((Fr.refl [] _).alloc _).get (heap_alloc_new w _) (by simp)
  exact bodyPost_ret (v := .agg #[.slice (some ⟨w.heap.size + 1, 0, none⟩) 8 8, .slice none 0 0, .int .i64 0]) (by simp [results, Tryd.results25, asAddr, Sem.run_bind, hx.load]) rfl ⟨_, rfl, ⟨_, _, w.heap.size + 1, w.heap.size + 1, rfl, ⟨by omega, by omega⟩, h1, .inl ⟨rfl, _, _, rfl⟩⟩, ((Fr.refl _ _).alloc _).alloc _⟩
end Go.Proofs.YtmhmbgkpojgbbaaDoor
