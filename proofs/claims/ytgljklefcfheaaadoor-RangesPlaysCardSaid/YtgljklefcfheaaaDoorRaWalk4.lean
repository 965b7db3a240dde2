/- The contract of package ranges's Free. -/
import Derived.Test.YtgljklefcfheaaaDoorRaWalk3
namespace Go.Proofs.YtgljklefcfheaaaDoor
open Go.RowKit

set_option maxRecDepth 100000 in
set_option maxHeartbeats 8000000 in
theorem ra_Free (w : World) (b : Nat) (T : List Int) (o f n : Int) (a : Bool) (hD : RaD w b T) (hT : Ra.Tab T) :
    Calls Tryd.prog 19 #[.pointer (some ⟨b, 0, none⟩), .agg #[.int .i64 o, .int .i64 f, .int .i64 n, .bool a]] w (RaAns b (errV (Ra.free T o f n).2) (Ra.free T o f n).1 w) := by
  have HB := Lib.hid (lkb_new w o f n a)
  have HF : Hid (Fr [] w (w.alloc (.cells #[.int .i64 o, .int .i64 f, .int .i64 n, .bool a] 29))) := (Fr.refl _ _).alloc _
  have HD := Lib.hid hD
  have HT := Lib.hid hT
  have hbl := lt_of_heap hD
  obtain ⟨d0, d1, d2, d3⟩ := HB.out.cells
  clear hD hT
  by_cases hok : Ra.okL o f n
  · have hk := hok
    obtain ⟨h1, h2, h3⟩ := hk
    have HTE := Lib.hid (ra_check_ok (w.alloc (.cells #[.int .i64 o, .int .i64 f, .int .i64 n, .bool a] 29)) o f n a hok)
    obtain ⟨on, rfl⟩ : ∃ k : Nat, o = k := ⟨o.toNat, by omega⟩
    obtain ⟨fn, rfl⟩ : ∃ k : Nat, f = k := ⟨f.toNat, by omega⟩
    obtain ⟨nn, rfl⟩ : ∃ k : Nat, n = k := ⟨n.toNat, by omega⟩
    have ho : on < 4 := by omega
    have hfn : fn + nn ≤ 64 := by omega
    have er0 := Lib.hid (show Ra.free T on fn nn = Ra.put T on fn nn 0 from by unfold Ra.free; rw [if_pos hok]; simp only [Int.toNat_natCast])
    have HLD := Lib.hid (part_ints T (on * 64) 64)
    have HZ : Hid ((ints ((T.drop (on * 64)).take 64)).size = 64) := by show _ = _; have := HT.out.1; simp; omega
    have HLC : Hid ((((ints ((T.drop (on * 64)).take 64)).toList.drop 0).take 64).toArray = ints ((T.drop (on * 64)).take 64)) := by
      show _ = _
      rw [part_ints, List.drop_zero, List.take_take]
      rfl
    have ho4 : (on : Int) < 4 := by omega
    clear h1 h2 h3 hok
    go_enter Tryd.func19, Tryd.ntmps19
    go_wp2_with fail
    have hbB := hbl
    revert HB HF HTE hbB
    generalize (w.alloc (.cells #[.int .i64 on, .int .i64 fn, .int .i64 nn, .bool a] 29)) = w0
    generalize w.heap.size = B
    intro HB HF HTE hbB
    refine useC HTE.out ?_
    rintro e w1 ⟨rfl, hf⟩
    have HF1 := Lib.hid (HF.out.trans hf)
    have HBX : Hid (LkB w1 B on fn nn a) := hf.get HB.out (by simp)
    obtain ⟨j0, j1, j2, j3⟩ := HBX.out.cells
    clear hf d0 d1 d2 d3
    go_wp2
    by_cases h24 : 24 < (Ra.locks (Ra.fillTo T on fn 0 nn)).length
    · have er := Lib.hid (show Ra.free T on fn nn = (T, 4) from by rw [er0.out]; unfold Ra.put; rw [if_pos h24])
      have h24' : (24 : Int) < (Ra.locks (Ra.fillTo T on fn 0 nn)).length := by omega
      have H24 := Lib.hid h24
      clear h24
      have HDW : Hid (∀ W, Fr [] w1 W → W.heap[b]? = some (.cells (ints T) 64 (0, 0))) := fun W hW => HD.out.fr (HF1.out.trans hW) (by simp)
      have HC0 : Hid (∀ W, Fr [] w1 W → W.cell? ⟨B, 0, none⟩ = some (.int .i64 on)) := fun W hW => hW.cell (HBX.out.cells).1 (by simp)
      have HRS := Lib.hid (Ra.restore HT.out.1 ho hfn (0))
      have HTF := Lib.hid (Ra.fill_tab HT.out ho hfn (x := 0) (by simp))
      have hneB : B ∉ [b] := by simp; omega
      have hneC : w1.heap.size ∉ [b] := by have := HF1.out.size; simp; omega

      (refine wp_region_mix (Fr [] w1 ·) 8 [(true, 0), (true, 1), (true, 2), (true, 3), (true, 4), (true, 5), (true, 6), (false, 7)] (by kernel_rfl) (by kernel_rfl) ((Fr.refl _ _).drew) ?_; simp only [pickOps, List.map_cons, List.map_nil, List.getD_cons_zero, List.getD_cons_succ, List.drop_succ_cons, List.drop_zero])
      (iterate 6 (first | (refine wpMix_take (v := ?_) (by rfl) ?_ ?_; rotate_left; (focus (intro W hW; have hc := HC0.out W hW; go_simp; (try with_reducible rfl); done)); try simp only [Act.put, List.setIfInBounds_toArray, List.set_cons_zero, List.set_cons_succ]) | (refine wpMix_leave (by rfl) ?_; try simp only [Act.put, List.setIfInBounds_toArray, List.set_cons_zero, List.set_cons_succ])))
      refine wpMix_take_load (by rfl) 61 _ rfl b (on * 64) 64 rfl _ Tryd.underlying61 rfl (by kernel_rfl) (ints ((T.drop (on * 64)).take 64)) (fun W hW => ⟨_, _, _, HDW.out W hW, by rw [size_ints, HT.out.1]; omega, HLD.out⟩) ?_
      try simp only [Act.put, List.setIfInBounds_toArray, List.set_cons_zero, List.set_cons_succ]
      refine wpMix_walk ?_
      go_wp2
      refine MixQ.mk (((Fr.refl _ _).drew).alloc _) ?_
      refine wpMix_nil ?_
      go_wp2_with (first
        | (refine wpList_store_fresh (w := w1.drew) rfl 61 _ _ rfl rfl (ints ((T.drop (on * 64)).take 64)) rfl rfl (by rw [HZ.out]; kernel_rfl) (by rw [HZ.out]; rfl) ints_one ?_; intro w2 hw2 hf2 hs2; have HW2 := Lib.hid hw2; have hf12 := (Fr.refl [] w1).drew.trans hf2; have HF2 := Lib.hid hf12; obtain ⟨k0, k1, k2, k3⟩ := LkB.cells (hf12.get HBX.out (by simp)); have HFI := Lib.hid (ra_fill w2 b T on fn nn a 0 (HDW.out w2 hf12) HT.out.1 ho hfn); clear hw2 hf2 hs2 hf12)
        | (go_at_call 36; (with_reducible refine useC HFI.out ?_); rintro e w3 ⟨rfl, hd3, hf3⟩; have HD3 := Lib.hid hd3; have HF3 := Lib.hid hf3; have HLI := Lib.hid (ra_List w3 b _ hd3 HTF.out); clear hd3 hf3)
        | (go_at_call 11; (with_reducible refine useC HLI.out ?_); rintro e w4 ⟨v4, rfl, hown4, hf4⟩; obtain ⟨g4, _, hsl4⟩ := hown4.sl; obtain ⟨A4, o4, c4, rfl, _, _, _⟩ := hsl4.form; have HF4 := Lib.hid hf4; clear hown4 hsl4 hf4; skip))
      have HD4 : Hid (RaD w4.drew b (Ra.fillTo T on fn 0 nn)) := HD3.out.fr HF4.out.drew (by simp)
      have HB4 : Hid (LkB w4.drew B on fn nn a) := HF4.out.drew.get (HF3.out.get (HF2.out.get HBX.out (by simp)) hneB) (by simp)
      have HW4 : Hid (w4.drew.heap[w1.heap.size]? = some (.cells (ints ((T.drop (on * 64)).take 64)) 61 (0, 0))) := HF4.out.drew.get (HF3.out.get HW2.out hneC) (by simp)
      obtain ⟨m0, m1, m2, m3⟩ := HB4.out.cells
      (refine wp_region_mix (· = w4.drew) 6 [(true, 0), (true, 1), (true, 2), (true, 3), (true, 4), (true, 5)] (by kernel_rfl) (by kernel_rfl) (rfl) ?_; simp only [pickOps, List.map_cons, List.map_nil, List.getD_cons_zero, List.getD_cons_succ, List.drop_succ_cons, List.drop_zero])
      (iterate 3 (first | (refine wpMix_take (v := ?_) (by rfl) ?_ ?_; rotate_left; (focus (intro W hW; subst hW; go_simp; (try with_reducible rfl); done)); try simp only [Act.put, List.setIfInBounds_toArray, List.set_cons_zero, List.set_cons_succ]) | (refine wpMix_leave (by rfl) ?_; try simp only [Act.put, List.setIfInBounds_toArray, List.set_cons_zero, List.set_cons_succ])))
      refine wpMix_take_load (by rfl) 61 _ rfl w1.heap.size 0 64 rfl _ Tryd.underlying61 rfl (by kernel_rfl) (ints ((T.drop (on * 64)).take 64)) (fun W hW => by subst hW; exact ⟨_, _, _, HW4.out, by rw [HZ.out]; decide, HLC.out⟩) ?_
      try simp only [Act.put, List.setIfInBounds_toArray, List.set_cons_zero, List.set_cons_succ]
      (iterate 2 (first | (refine wpMix_take (v := ?_) (by rfl) ?_ ?_; rotate_left; (focus (intro W hW; subst hW; go_simp; (try with_reducible rfl); done)); try simp only [Act.put, List.setIfInBounds_toArray, List.set_cons_zero, List.set_cons_succ]) | (refine wpMix_leave (by rfl) ?_; try simp only [Act.put, List.setIfInBounds_toArray, List.set_cons_zero, List.set_cons_succ])))
      refine wpMix_nil ?_
      go_wp2_with (refine wpList_store_part rfl 61 _ _ rfl b (on * 64) (ints ((T.drop (on * 64)).take 64)) rfl rfl 64 (ints (Ra.fillTo T on fn 0 nn)) HD4.out (by rw [HZ.out]; kernel_rfl) (by rw [HZ.out, size_ints, HTF.out.1]; omega) ints_one _ HRS.out ?_)
      go_ret
      rw [er.out]
      exact ⟨rfl, setRow_heap _ b _ _ _ _ HD4.out, ((HF1.out.trans HF2.out).nil.trans HF3.out).trans (HF4.out.nil.drew) |>.setRow (.inl (by simp)) _⟩
    · have er := Lib.hid (show Ra.free T on fn nn = (Ra.fillTo T on fn 0 nn, 0) from by rw [er0.out]; unfold Ra.put; rw [if_neg h24])
      have h24' : ¬ (24 : Int) < (Ra.locks (Ra.fillTo T on fn 0 nn)).length := by omega
      have H24 := Lib.hid h24
      clear h24
      have HDW : Hid (∀ W, Fr [] w1 W → W.heap[b]? = some (.cells (ints T) 64 (0, 0))) := fun W hW => HD.out.fr (HF1.out.trans hW) (by simp)
      have HC0 : Hid (∀ W, Fr [] w1 W → W.cell? ⟨B, 0, none⟩ = some (.int .i64 on)) := fun W hW => hW.cell (HBX.out.cells).1 (by simp)
      have HRS := Lib.hid (Ra.restore HT.out.1 ho hfn (0))
      have HTF := Lib.hid (Ra.fill_tab HT.out ho hfn (x := 0) (by simp))
      have hneB : B ∉ [b] := by simp; omega
      have hneC : w1.heap.size ∉ [b] := by have := HF1.out.size; simp; omega

      (refine wp_region_mix (Fr [] w1 ·) 8 [(true, 0), (true, 1), (true, 2), (true, 3), (true, 4), (true, 5), (true, 6), (false, 7)] (by kernel_rfl) (by kernel_rfl) ((Fr.refl _ _).drew) ?_; simp only [pickOps, List.map_cons, List.map_nil, List.getD_cons_zero, List.getD_cons_succ, List.drop_succ_cons, List.drop_zero])
      (iterate 6 (first | (refine wpMix_take (v := ?_) (by rfl) ?_ ?_; rotate_left; (focus (intro W hW; have hc := HC0.out W hW; go_simp; (try with_reducible rfl); done)); try simp only [Act.put, List.setIfInBounds_toArray, List.set_cons_zero, List.set_cons_succ]) | (refine wpMix_leave (by rfl) ?_; try simp only [Act.put, List.setIfInBounds_toArray, List.set_cons_zero, List.set_cons_succ])))
      refine wpMix_take_load (by rfl) 61 _ rfl b (on * 64) 64 rfl _ Tryd.underlying61 rfl (by kernel_rfl) (ints ((T.drop (on * 64)).take 64)) (fun W hW => ⟨_, _, _, HDW.out W hW, by rw [size_ints, HT.out.1]; omega, HLD.out⟩) ?_
      try simp only [Act.put, List.setIfInBounds_toArray, List.set_cons_zero, List.set_cons_succ]
      refine wpMix_walk ?_
      go_wp2
      refine MixQ.mk (((Fr.refl _ _).drew).alloc _) ?_
      refine wpMix_nil ?_
      go_wp2_with (first
        | (refine wpList_store_fresh (w := w1.drew) rfl 61 _ _ rfl rfl (ints ((T.drop (on * 64)).take 64)) rfl rfl (by rw [HZ.out]; kernel_rfl) (by rw [HZ.out]; rfl) ints_one ?_; intro w2 hw2 hf2 hs2; have HW2 := Lib.hid hw2; have hf12 := (Fr.refl [] w1).drew.trans hf2; have HF2 := Lib.hid hf12; obtain ⟨k0, k1, k2, k3⟩ := LkB.cells (hf12.get HBX.out (by simp)); have HFI := Lib.hid (ra_fill w2 b T on fn nn a 0 (HDW.out w2 hf12) HT.out.1 ho hfn); clear hw2 hf2 hs2 hf12)
        | (go_at_call 36; (with_reducible refine useC HFI.out ?_); rintro e w3 ⟨rfl, hd3, hf3⟩; have HD3 := Lib.hid hd3; have HF3 := Lib.hid hf3; have HLI := Lib.hid (ra_List w3 b _ hd3 HTF.out); clear hd3 hf3)
        | (go_at_call 11; (with_reducible refine useC HLI.out ?_); rintro e w4 ⟨v4, rfl, hown4, hf4⟩; obtain ⟨g4, _, hsl4⟩ := hown4.sl; obtain ⟨A4, o4, c4, rfl, _, _, _⟩ := hsl4.form; have HF4 := Lib.hid hf4; clear hown4 hsl4 hf4; skip))
      go_ret
      rw [er.out]
      exact ⟨rfl, HD3.out.fr HF4.out (by simp), ((HF1.out.trans HF2.out).nil.trans HF3.out).trans HF4.out.nil⟩
  · have er := Lib.hid (show Ra.free T o f n = (T, 1) from by unfold Ra.free; rw [if_neg hok])
    have HTE := Lib.hid (ra_check_bad (w.alloc (.cells #[.int .i64 o, .int .i64 f, .int .i64 n, .bool a] 29)) o f n a hok)
    clear hok
    go_enter Tryd.func19, Tryd.ntmps19
    go_wp2_with (go_at_call 39; (with_reducible refine useC HTE.out ?_); rintro e w1 ⟨rfl, hf⟩; have HF1 := Lib.hid (HF.out.trans hf); clear hf)
    go_ret
    rw [er.out]
    exact ⟨rfl, HD.out.fr HF1.out (by simp), HF1.out.nil⟩
end Go.Proofs.YtgljklefcfheaaaDoor
