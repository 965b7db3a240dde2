/- The walk of TopLogs: a log ahead, what was there and a shadow yield the same values. Printed by gen_toplogs.py. -/
import Derived.Test.YtmhmbgkpojgbbaaTlHeap
namespace Go.Proofs.Ytmhmbgkpojgbbaa
open Go.RowKit

theorem tl_w : shAns Sh.new 0 4 = .tuple #[.int .i64 0, .nilIface] := by
  unfold shAns
  rw [if_pos (by decide)]
  rfl
theorem tl_d : Sh.diff (Sh.write Sh.new 0 4).now (Sh.write Sh.new 0 4).old = 1 := by decide
set_option maxRecDepth 100000 in
set_option maxHeartbeats 16000000 in
theorem top_logs (w : World) (v : Value) (ls : List (List Int)) (hR : Rw w.heap.size w v ls) :
    Calls Try.prog 11 #[v] w (OkT w) := by
  obtain ⟨A, g, o, cc, rfl, hm, hF⟩ := hR
  have HF := Lib.hid hF
  have HWN := Lib.hid (wl_New w)
  have HUN := Lib.hid (fun W => un_New W)
  have HSN := Lib.hid (fun W => sh_new' W)
  have TW := Lib.hid tl_w
  have TD := Lib.hid tl_d
  have hd1 := Sh.write_ok Sh.new_ok 0 4
  have HSW := Lib.hid (fun W b (h : ShD W b Sh.new) => sh_write W b Sh.new 0 4 h Sh.new_ok)
  rw [TW.out] at HSW
  have HSE := Lib.hid (fun W b (h : ShD W b (Sh.write Sh.new 0 4)) => sh_end W b _ h hd1.slots hd1.told.len hd1.tnow.len)
  rw [TD.out] at HSE
  clear hF hd1 TW TD
  generalize Sh.write Sh.new 0 4 = d1 at *
  generalize Sh.fin d1 = d2 at *
  go_enter Try.func11, Try.ntmps11
  go_wp2_with (first
    | (go_at_call 36; (with_reducible refine useC HWN.out ?_); rintro e w1 ⟨ba, rfl, hs, hf⟩; obtain ⟨P, HA1⟩ : ∃ P, Hid (WlS w w1 P ba Wl.new) := ⟨_, WlS.start hs hf⟩; clear hs hf)
    | (go_at_call 22; (with_reducible refine useC (HUN.out w1) ?_); rintro e w2 ⟨bb, rfl, hs, hf⟩; have HQ2 := Lib.hid (UnS.made HA1.out.fr hs hf); have HA2 := Lib.hid (HA1.out.step hf); have HPS := Lib.hid (HA1.out.hP); clear hs hf)
    | (go_at_call 40; (with_reducible refine useC (HSN.out w2) ?_); rintro e w3 ⟨k0, rfl, hk0, hs, hf⟩; have HK0 := Lib.hid hk0; have HF3 := Lib.hid hf; have HSW3 := Lib.hid (HSW.out w3 k0 hs); clear hs hf hk0)
    | (go_at_call 15; (with_reducible refine useC HSW3.out ?_); rintro e w4 ⟨rfl, hs, hf⟩; have HF4 := Lib.hid (HF3.out.step hf (fun x hx => .inr (by simp only [List.mem_singleton] at hx; subst hx; exact HK0.out))); have HSE4 := Lib.hid (HSE.out w4 k0 hs); clear hs hf)
    | (go_at_call 18; (with_reducible refine useC HSE4.out ?_); rintro e w5 ⟨rfl, -, hf⟩; have HF5 := Lib.hid (HF4.out.step hf (fun x hx => .inr (by simp only [List.mem_singleton] at hx; subst hx; exact HK0.out))); clear hf)
    | (go_at_call 40; (with_reducible refine useC (HSN.out w5) ?_); rintro e w6 ⟨bc, rfl, hbc, hs, hf⟩; have HF6 := Lib.hid (HF5.out.trans hf); have HD6 := Lib.hid hs; have HBC := Lib.hid hbc; clear hs hf hbc))
  have HT6 : Hid (TlT w w6 ba bb bc 0) := by
    have z1 := HA1.out.fr.size
    have z2 := HA2.out.fr.size
    have z3 := HF5.out.size
    have z4 := HBC.out
    refine ⟨_, _, _, _, _, _, ⟨HA2.out.step HF6.out, HQ2.out.step HF6.out, HD6.out, by omega, fun hp => ?_, fun hp => ?_, fun k hp hq => ?_⟩, Tl.S.new⟩
    · have := (HA2.out.hP _ hp).2; omega
    · have := (HQ2.out.hP _ hp).2; omega
    · have := (HPS.out _ hp).2; have := hq.1; omega
  clear HA1 HA2 HQ2 HPS HK0 HF3 HF4 HF5 HF6 HD6 HBC HSW HSE HSW3 HSE4 HWN HUN HSN
  go_loopw [8] (fun i wr => ∃ t : Nat, t ≤ ls.length ∧ t ≤ 10 ∧ i = .int .i64 t ∧ Hid (TlT w wr ba bb bc t)) (fun i _ => 10 - (intOf i).toNat)
  case atStart => exact ⟨0, Nat.zero_le _, Nat.zero_le _, rfl, HT6⟩
  case round =>
    clear HT6
    obtain ⟨t, ht, ht10, rfl, hS⟩ := hrel
    by_cases hin : t < ls.length ∧ t < 10
    · obtain ⟨hlt, h10⟩ := hin
      obtain ⟨rfl, hg⟩ := HF.out.1 (by omega)
      obtain ⟨u, kb, hcell, hkb, hsl, _⟩ := HF.out.2 t hlt
      obtain ⟨A', o', c', rfl, hm', hA', hc'⟩ := hsl.form
      have i0 : (0 : Int) ≤ t := by omega
      have i1 : (t : Int) < ls.length := by omega
      have i4 : (t : Int) < 10 := by omega
      obtain ⟨xs, hxs⟩ : ∃ xs, xs = nthR ls t := ⟨_, rfl⟩
      rw [← hxs] at hcell hm' hA' hc'
      have HST : Hid (TlW w wr ba bb bc t 0) := by
        obtain ⟨P, Q, a, b, c, V, h1, h2⟩ := hS.out
        exact ⟨P, Q, a, b, c, V, V, h1, h2.start⟩
      have HCL := Lib.hid (fun W (hW : Fr [] w W) i (hi : i < xs.length) => hW.cell (hc' i hi) (by simp))
      have HAA := Lib.hid hA'
      have hcr : wr.cell? ⟨g, o + t, none⟩ = some (.slice A' xs.length c') := HST.out.fr.cell hcell (by simp)
      clear hsl hS hcell hc' hA' hkb hxs
      go_wp2
      obtain ⟨wA, hwA⟩ : ∃ wA, wA = wr := ⟨_, rfl⟩
      subst hwA
      go_loopw [10] (fun i wr => ∃ j q : Nat, j ≤ 3 ∧ Hid (q = 2 * j) ∧ i = .int .i64 q ∧ Hid (TlW w wr ba bb bc t j)) (fun i _ => 6 - (intOf i).toNat)
      case atStart => exact ⟨0, 0, Nat.zero_le _, rfl, rfl, HST⟩
      case round =>
        clear HST hcr
        obtain ⟨j, q, hj, hq, rfl, hW⟩ := hrel
        by_cases hgo : q + 1 < xs.length ∧ q < 6
        · obtain ⟨hq1, hq6⟩ := hgo
          have j1 : (q : Int) + 1 < xs.length := by omega
          have j2 : (q : Int) < 6 := by omega
          have j3 : (0 : Int) ≤ q := by omega
          have j4 : (q : Int) < xs.length := by omega
          have j5 : (0 : Int) ≤ (q : Int) + 1 := by omega
          have hwr : IntKind.i64.wrap ((q : Int) + 1) = (q : Int) + 1 := by rw [IntKind.wrap_i64]; omega
          have hj3 : j < 3 := by have := hq.out; omega
          obtain rfl := HAA.out (by omega)
          have HC2 := Lib.hid (fun W hW => And.intro (HCL.out W hW q (by omega)) (HCL.out W hW (q + 1) hq1))
          generalize nth xs q = x0 at *
          generalize nth xs (q + 1) = x1 at *
          obtain ⟨P, Q, a, b, c, V, U, hT, hI⟩ := hW.out
          have HFW := Lib.hid hT.fr
          obtain ⟨wa, hwa⟩ : ∃ wa, wa = (wr.alloc (.cells #[.int .i64 t, .int .i64 x0, .int .i64 x1] 44)).drew := ⟨_, rfl⟩
          have HF1 : Hid (Fr [] wr wa) := by rw [hwa]; exact ((Fr.refl [] wr).alloc _).drew
          have HX1 : Hid (wa.heap[wr.heap.size]? = some (.cells #[.int .i64 t, .int .i64 x0, .int .i64 x1] 44 (0, 0))) := by rw [hwa]; exact heap_alloc_new wr _
          have HPX : Hid (¬ P wr.heap.size) := fun hp => by have := (hT.a.hP _ hp).2; omega
          have HTA := Lib.hid (hT.step HF1.out)
          have HWA := Lib.hid hwa
          have HCA := Lib.hid (wl_Write wa P ba a t x0 x1 HTA.out.a.file)
          have HCB := Lib.hid (fun W Q (h : UnF Q W bb b) => un_Write W Q bb b t x0 x1 h)
          have HCC := Lib.hid (fun W (h : ShD W bc c) => sh_write W bc c x0 x1 h hI.so)
          unfold UnWr at HCB
          clear hwa hW hT
          by_cases hk : Sh.okP x0 x1
          · obtain ⟨e1, e2, hI2⟩ := hI.write h10 hj3 hk
            rw [show (Wl.write a t x0 x1).2 = 0 from by unfold Wl.write; rw [if_pos e1], show errV 0 = .nilIface from rfl] at HCA
            rw [e2, show errV 0 = .nilIface from rfl] at HCB
            rw [show shAns c x0 x1 = .tuple #[.int .i64 (nth (Sh.now1 c x0.toNat) x0.toNat), .nilIface] from if_pos hk] at HCC
            generalize nth (Sh.now1 c x0.toNat) x0.toNat = y at *
            have HI2 := Lib.hid hI2
            clear e1 e2 hk hI hI2
            generalize (Wl.write a t x0 x1).1 = a2 at *
            generalize Un.write b t x0 x1 = b2 at *
            generalize Sh.write c x0 x1 = c2 at *
            go_wp2
            (refine wp_region_mix (Fr [] w ·) 12 [(true, 0), (true, 1), (true, 2), (true, 3), (true, 4), (true, 5), (true, 6), (true, 7), (true, 8), (true, 9), (true, 10), (false, 11)] (by kernel_rfl) (by kernel_rfl) (HFW.out.drew) ?_; simp only [pickOps, List.map_cons, List.map_nil, List.getD_cons_zero, List.getD_cons_succ, List.drop_succ_cons, List.drop_zero])
            (iterate 7 (first | (refine wpMix_take (v := ?_) (by rfl) ?_ ?_; rotate_left; (focus (intro W hW; (obtain ⟨c0, c1⟩ := HC2.out W hW); go_simp; (try with_reducible rfl); done)); try simp only [Act.put, List.setIfInBounds_toArray, List.set_cons_zero, List.set_cons_succ]) | (refine wpMix_leave (by rfl) ?_; try simp only [Act.put, List.setIfInBounds_toArray, List.set_cons_zero, List.set_cons_succ])))
            refine wpMix_take (v := .int .i64 ((q : Int) + 1)) (by rfl) (by intro W hW; (try simp only [Act.put, List.setIfInBounds_toArray, List.set_cons_zero, List.set_cons_succ]); go_simp; (try exact hwr)) ?_
            try simp only [Act.put, List.setIfInBounds_toArray, List.set_cons_zero, List.set_cons_succ]
            (iterate 3 (first | (refine wpMix_take (v := ?_) (by rfl) ?_ ?_; rotate_left; (focus (intro W hW; (obtain ⟨c0, c1⟩ := HC2.out W hW); go_simp; (try with_reducible rfl); done)); try simp only [Act.put, List.setIfInBounds_toArray, List.set_cons_zero, List.set_cons_succ]) | (refine wpMix_leave (by rfl) ?_; try simp only [Act.put, List.setIfInBounds_toArray, List.set_cons_zero, List.set_cons_succ])))
            refine wpMix_walk ?_
            go_wp2
            refine MixQ.mk ((HFW.out.drew).alloc _) ?_
            refine wpMix_nil ?_
            go_wp2_with (first
              | (rw [← HWA.out]; go_at_call 31; (with_reducible refine useC HCA.out ?_); rintro e w3 ha; obtain ⟨rfl, hfp, P3, ht3⟩ := HTA.out.turnA ha; have H3 := Lib.hid ht3; have hx3 := (hfp.block _ (lt_of_heap HX1.out) HPX.out).trans HX1.out; obtain ⟨m0, m1, m2⟩ := put_cells hx3; have HCB3 := Lib.hid (HCB.out w3 Q H3.out.b.file); clear ha ht3 hfp hx3)
              | (go_at_call 24; (with_reducible refine useC HCB3.out ?_); rintro e w4 ha; obtain ⟨rfl, -, Q4, ht4⟩ := H3.out.turnB ha; have H4 := Lib.hid ht4; have H4D := Lib.hid (H4.out.step ((Fr.refl [] w4).drew)); have HCC4 := Lib.hid (HCC.out w4.drew H4D.out.c); clear ha ht4 m0 m1 m2))
            (refine wp_region_mix (Fr [] w ·) 15 [(true, 0), (true, 1), (true, 2), (true, 3), (true, 4), (true, 5), (true, 6), (true, 7), (true, 8), (true, 9), (false, 10), (true, 11), (true, 12), (true, 13), (false, 14)] (by kernel_rfl) (by kernel_rfl) (H4.out.fr.drew) ?_; simp only [pickOps, List.map_cons, List.map_nil, List.getD_cons_zero, List.getD_cons_succ, List.drop_succ_cons, List.drop_zero])
            (iterate 7 (first | (refine wpMix_take (v := ?_) (by rfl) ?_ ?_; rotate_left; (focus (intro W hW; (obtain ⟨c0, c1⟩ := HC2.out W hW); go_simp; (try with_reducible rfl); done)); try simp only [Act.put, List.setIfInBounds_toArray, List.set_cons_zero, List.set_cons_succ]) | (refine wpMix_leave (by rfl) ?_; try simp only [Act.put, List.setIfInBounds_toArray, List.set_cons_zero, List.set_cons_succ])))
            refine wpMix_take (v := .int .i64 ((q : Int) + 1)) (by rfl) (by intro W hW; (try simp only [Act.put, List.setIfInBounds_toArray, List.set_cons_zero, List.set_cons_succ]); go_simp; (try exact hwr)) ?_
            try simp only [Act.put, List.setIfInBounds_toArray, List.set_cons_zero, List.set_cons_succ]
            (iterate 2 (first | (refine wpMix_take (v := ?_) (by rfl) ?_ ?_; rotate_left; (focus (intro W hW; (obtain ⟨c0, c1⟩ := HC2.out W hW); go_simp; (try with_reducible rfl); done)); try simp only [Act.put, List.setIfInBounds_toArray, List.set_cons_zero, List.set_cons_succ]) | (refine wpMix_leave (by rfl) ?_; try simp only [Act.put, List.setIfInBounds_toArray, List.set_cons_zero, List.set_cons_succ])))
            refine wpMix_walk ?_
            go_wp2_with (go_at_call 15; (with_reducible refine useC HCC4.out ?_); rintro e w5 ha; obtain ⟨rfl, -, ht5⟩ := H4D.out.turnC ha; have H5 := Lib.hid ht5; clear ha ht5)
            refine MixQ.mk (H5.out.fr) ?_
            (iterate 3 (first | (refine wpMix_take (v := ?_) (by rfl) ?_ ?_; rotate_left; (focus (intro W hW; skip; go_simp; (try with_reducible rfl); done)); try simp only [Act.put, List.setIfInBounds_toArray, List.set_cons_zero, List.set_cons_succ]) | (refine wpMix_leave (by rfl) ?_; try simp only [Act.put, List.setIfInBounds_toArray, List.set_cons_zero, List.set_cons_succ])))
            refine wpMix_walk ?_
            go_wp2
            refine MixQ.mk (H5.out.fr) ?_
            refine wpMix_nil ?_
            go_wp2
            (refine wp_region_mixq 10 [(true, 0), (true, 1), (true, 2), (true, 3), (true, 4), (true, 5), (true, 6), (true, 7), (true, 8), (true, 9)] (by kernel_rfl) (by kernel_rfl) ?_; simp only [pickOps, List.map_cons, List.map_nil, List.getD_cons_zero, List.getD_cons_succ, List.drop_succ_cons, List.drop_zero]; (iterate 10 (first | (refine wpMix_take (v := ?_) (by rfl) ?_ ?_; rotate_left; (focus (intro W hW; subst hW; go_simp; (try with_reducible rfl); done)); try simp only [Act.put, List.setIfInBounds_toArray, List.set_cons_zero, List.set_cons_succ]) | (refine wpMix_leave (by rfl) ?_; try simp only [Act.put, List.setIfInBounds_toArray, List.set_cons_zero, List.set_cons_succ]))); refine wpMix_nil ?_)
            go_wp2
            go_roundw
            case rel => exact ⟨j + 1, q + 2, by omega, (show q + 2 = 2 * (j + 1) by have := hq.out; omega), by go_num, _, _, _, _, _, _, _, H5.out.step ((Fr.refl [] _).drew), HI2.out⟩
            case measure => simp [intOf]; omega
          · obtain ⟨e1, e2, e3, e4, e5, e6⟩ := hI.no h10 hk
            rw [e3, e4, show errV 1 = .iface 62 (.int .i64 1) from rfl] at HCA
            rw [e2, e5, show errV 1 = .iface 62 (.int .i64 1) from rfl] at HCB
            rw [e6, show shAns c x0 x1 = shErr 1 from if_neg hk, show shErr 1 = .tuple #[.int .i64 0, .iface 62 (.int .i64 1)] from rfl] at HCC
            have hI2 := hI
            have HI2 := Lib.hid hI2
            clear e1 e2 e3 e4 e5 e6 hk hI hI2
            go_wp2
            (refine wp_region_mix (Fr [] w ·) 12 [(true, 0), (true, 1), (true, 2), (true, 3), (true, 4), (true, 5), (true, 6), (true, 7), (true, 8), (true, 9), (true, 10), (false, 11)] (by kernel_rfl) (by kernel_rfl) (HFW.out.drew) ?_; simp only [pickOps, List.map_cons, List.map_nil, List.getD_cons_zero, List.getD_cons_succ, List.drop_succ_cons, List.drop_zero])
            (iterate 7 (first | (refine wpMix_take (v := ?_) (by rfl) ?_ ?_; rotate_left; (focus (intro W hW; (obtain ⟨c0, c1⟩ := HC2.out W hW); go_simp; (try with_reducible rfl); done)); try simp only [Act.put, List.setIfInBounds_toArray, List.set_cons_zero, List.set_cons_succ]) | (refine wpMix_leave (by rfl) ?_; try simp only [Act.put, List.setIfInBounds_toArray, List.set_cons_zero, List.set_cons_succ])))
            refine wpMix_take (v := .int .i64 ((q : Int) + 1)) (by rfl) (by intro W hW; (try simp only [Act.put, List.setIfInBounds_toArray, List.set_cons_zero, List.set_cons_succ]); go_simp; (try exact hwr)) ?_
            try simp only [Act.put, List.setIfInBounds_toArray, List.set_cons_zero, List.set_cons_succ]
            (iterate 3 (first | (refine wpMix_take (v := ?_) (by rfl) ?_ ?_; rotate_left; (focus (intro W hW; (obtain ⟨c0, c1⟩ := HC2.out W hW); go_simp; (try with_reducible rfl); done)); try simp only [Act.put, List.setIfInBounds_toArray, List.set_cons_zero, List.set_cons_succ]) | (refine wpMix_leave (by rfl) ?_; try simp only [Act.put, List.setIfInBounds_toArray, List.set_cons_zero, List.set_cons_succ])))
            refine wpMix_walk ?_
            go_wp2
            refine MixQ.mk ((HFW.out.drew).alloc _) ?_
            refine wpMix_nil ?_
            go_wp2_with (first
              | (rw [← HWA.out]; go_at_call 31; (with_reducible refine useC HCA.out ?_); rintro e w3 ha; obtain ⟨rfl, hfp, P3, ht3⟩ := HTA.out.turnA ha; have H3 := Lib.hid ht3; have hx3 := (hfp.block _ (lt_of_heap HX1.out) HPX.out).trans HX1.out; obtain ⟨m0, m1, m2⟩ := put_cells hx3; have HCB3 := Lib.hid (HCB.out w3 Q H3.out.b.file); clear ha ht3 hfp hx3)
              | (go_at_call 24; (with_reducible refine useC HCB3.out ?_); rintro e w4 ha; obtain ⟨rfl, -, Q4, ht4⟩ := H3.out.turnB ha; have H4 := Lib.hid ht4; have H4D := Lib.hid (H4.out.step ((Fr.refl [] w4).drew)); have HCC4 := Lib.hid (HCC.out w4.drew H4D.out.c); clear ha ht4 m0 m1 m2))
            (refine wp_region_mix (Fr [] w ·) 15 [(true, 0), (true, 1), (true, 2), (true, 3), (true, 4), (true, 5), (true, 6), (true, 7), (true, 8), (true, 9), (false, 10), (true, 11), (true, 12), (true, 13), (false, 14)] (by kernel_rfl) (by kernel_rfl) (H4.out.fr.drew) ?_; simp only [pickOps, List.map_cons, List.map_nil, List.getD_cons_zero, List.getD_cons_succ, List.drop_succ_cons, List.drop_zero])
            (iterate 7 (first | (refine wpMix_take (v := ?_) (by rfl) ?_ ?_; rotate_left; (focus (intro W hW; (obtain ⟨c0, c1⟩ := HC2.out W hW); go_simp; (try with_reducible rfl); done)); try simp only [Act.put, List.setIfInBounds_toArray, List.set_cons_zero, List.set_cons_succ]) | (refine wpMix_leave (by rfl) ?_; try simp only [Act.put, List.setIfInBounds_toArray, List.set_cons_zero, List.set_cons_succ])))
            refine wpMix_take (v := .int .i64 ((q : Int) + 1)) (by rfl) (by intro W hW; (try simp only [Act.put, List.setIfInBounds_toArray, List.set_cons_zero, List.set_cons_succ]); go_simp; (try exact hwr)) ?_
            try simp only [Act.put, List.setIfInBounds_toArray, List.set_cons_zero, List.set_cons_succ]
            (iterate 2 (first | (refine wpMix_take (v := ?_) (by rfl) ?_ ?_; rotate_left; (focus (intro W hW; (obtain ⟨c0, c1⟩ := HC2.out W hW); go_simp; (try with_reducible rfl); done)); try simp only [Act.put, List.setIfInBounds_toArray, List.set_cons_zero, List.set_cons_succ]) | (refine wpMix_leave (by rfl) ?_; try simp only [Act.put, List.setIfInBounds_toArray, List.set_cons_zero, List.set_cons_succ])))
            refine wpMix_walk ?_
            go_wp2_with (go_at_call 15; (with_reducible refine useC HCC4.out ?_); rintro e w5 ha; obtain ⟨rfl, -, ht5⟩ := H4D.out.turnC ha; have H5 := Lib.hid ht5; clear ha ht5)
            refine MixQ.mk (H5.out.fr) ?_
            (iterate 3 (first | (refine wpMix_take (v := ?_) (by rfl) ?_ ?_; rotate_left; (focus (intro W hW; skip; go_simp; (try with_reducible rfl); done)); try simp only [Act.put, List.setIfInBounds_toArray, List.set_cons_zero, List.set_cons_succ]) | (refine wpMix_leave (by rfl) ?_; try simp only [Act.put, List.setIfInBounds_toArray, List.set_cons_zero, List.set_cons_succ])))
            refine wpMix_walk ?_
            go_wp2
            refine MixQ.mk (H5.out.fr) ?_
            refine wpMix_nil ?_
            go_wp2
            (refine wp_region_mixq 10 [(true, 0), (true, 1), (true, 2), (true, 3), (true, 4), (true, 5), (true, 6), (true, 7), (true, 8), (true, 9)] (by kernel_rfl) (by kernel_rfl) ?_; simp only [pickOps, List.map_cons, List.map_nil, List.getD_cons_zero, List.getD_cons_succ, List.drop_succ_cons, List.drop_zero]; (iterate 10 (first | (refine wpMix_take (v := ?_) (by rfl) ?_ ?_; rotate_left; (focus (intro W hW; subst hW; go_simp; (try with_reducible rfl); done)); try simp only [Act.put, List.setIfInBounds_toArray, List.set_cons_zero, List.set_cons_succ]) | (refine wpMix_leave (by rfl) ?_; try simp only [Act.put, List.setIfInBounds_toArray, List.set_cons_zero, List.set_cons_succ]))); refine wpMix_nil ?_)
            go_wp2
            go_roundw
            case rel => exact ⟨j + 1, q + 2, by omega, (show q + 2 = 2 * (j + 1) by have := hq.out; omega), by go_num, _, _, _, _, _, _, _, H5.out.step ((Fr.refl [] _).drew), HI2.out.more⟩
            case measure => simp [intOf]; omega
        · have hq6 : (q : Int) ≤ 6 := by have := hq.out; omega
          have j3 : (0 : Int) ≤ q := by omega
          have hwr : IntKind.i64.wrap ((q : Int) + 1) = (q : Int) + 1 := by rw [IntKind.wrap_i64]; omega
          have hout : ¬ (q : Int) + 1 < xs.length ∨ ((q : Int) + 1 < xs.length ∧ ¬ (q : Int) < 6) := by omega
          obtain ⟨P, Q, a, b, c, V, U, hT, hI⟩ := hW.out
          have HT := Lib.hid hT
          clear hW hgo
          by_cases hodd : xs.length % 2 = 1
          · have ho : (xs.length : Int) % 2 = 1 := by omega
            obtain ⟨e1, e2, hS2⟩ := hI.fin h10 hj
            have HCA := Lib.hid (wl_End wr P ba a t hT.a.file)
            rw [show (Wl.end_ a t).2 = 0 from by unfold Wl.end_; rw [if_pos e1], show errV 0 = .nilIface from rfl] at HCA
            have HCB := Lib.hid (fun W Q (h : UnF Q W bb b) => un_End W Q bb b t h)
            rw [e2, show errV 0 = .nilIface from rfl] at HCB
            have HCC := Lib.hid (fun W (h : ShD W bc c) => sh_end W bc c h hI.so.slots hI.so.told.len hI.so.tnow.len)
            generalize Sh.diff c.now c.old = y at *
            have HS7 := Lib.hid hS2
            clear e1 e2 hI hS2 hT hodd
            generalize (Wl.end_ a t).1 = a2 at *
            generalize Un.end_ b t = b2 at *
            generalize Sh.fin c = c2 at *
            rcases hout with hout | ⟨hout, hout'⟩
            all_goals
              go_wp2_with (first
                | (go_at_call 32; (with_reducible refine useC HCA.out ?_); rintro e w3 ha; obtain ⟨rfl, -, P3, ht3⟩ := HT.out.turnA ha; have H3 := Lib.hid ht3; have HCB3 := Lib.hid (HCB.out w3 Q H3.out.b.file); clear ha ht3)
                | (go_at_call 23; (with_reducible refine useC HCB3.out ?_); rintro e w4 ha; obtain ⟨rfl, -, Q4, ht4⟩ := H3.out.turnB ha; have H4 := Lib.hid ht4; have HCC4 := Lib.hid (HCC.out w4 H4.out.c); clear ha ht4)
                | (go_at_call 18; (with_reducible refine useC HCC4.out ?_); rintro e w7 ha; obtain ⟨rfl, -, ht7⟩ := H4.out.turnC ha; have H7 := Lib.hid ht7; have HVC := Lib.hid (sh_Values w7 bc _ H7.out.c HS7.out.so.slots HS7.out.so.shT_old HS7.out.so.shT_now); rw [HS7.out.sn, HS7.out.sv] at HVC; clear ha ht7)
                | (go_at_call 14; (with_reducible refine useC HVC.out ?_); rintro e w8 ⟨v1, v2, g1, g2, rfl, -, -, s1, s2, hf⟩; have H8 := Lib.hid (H7.out.step hf); have S1 := Lib.hid s1; have S2 := Lib.hid s2; have HVA := Lib.hid (wl_Values w8 _ ba _ H8.out.a.file); rw [HS7.out.wv] at HVA; clear s1 s2 hf)
                | (go_at_call 30; (with_reducible refine useC HVA.out ?_); rintro e w9 ⟨v3, g3, rfl, -, s3, hf⟩; have H9 := Lib.hid (H8.out.step hf); have S3 := Lib.hid s3; have S1b := Lib.hid (S1.out.fr hf (by simp)); have S2b := Lib.hid (S2.out.fr hf (by simp)); have HVB := Lib.hid (un_Values w9 _ bb _ H9.out.b.file); rw [HS7.out.ub] at HVB; clear s3 hf)
                | (go_at_call 27; (with_reducible refine useC HVB.out ?_); rintro e w10 ⟨v4, g4, rfl, -, s4, hf⟩; have H10 := Lib.hid (H9.out.step hf); have S1c := Lib.hid (S1b.out.fr hf (by simp)); have S2c := Lib.hid (S2b.out.fr hf (by simp)); have HI1 := Lib.hid (ints_same w10 v3 v4 g3 g4 _ (S3.out.fr hf (by simp)) s4); clear s4 hf)
                | (go_at_call 16; (with_reducible refine useC HI1.out ?_); rintro e w11 ⟨rfl, hf⟩; have H11 := Lib.hid (H10.out.step (hf.fr [])); have S1d := Lib.hid (S1c.out.fr (hf.fr []) (by simp)); have S2d := Lib.hid (S2c.out.fr (hf.fr []) (by simp)); have HVD := Lib.hid (un_Values w11 _ bb _ H11.out.b.file); rw [HS7.out.ub] at HVD; clear hf)
                | (go_at_call 27; (with_reducible refine useC HVD.out ?_); rintro e w12 ⟨v5, g5, rfl, -, s5, hf⟩; have H12 := Lib.hid (H11.out.step hf); have S1e := Lib.hid (S1d.out.fr hf (by simp)); have S2e := Lib.hid (S2d.out.fr hf (by simp)); have HI2 := Lib.hid (ints_same w12 v5 v1 g5 g1 _ s5 S1e.out); clear s5 hf)
                | (go_at_call 16; (with_reducible refine useC HI2.out ?_); rintro e w13 ⟨rfl, hf⟩; have H13 := Lib.hid (H12.out.step (hf.fr [])); have HI3 := Lib.hid (ints_same w13 v1 v2 g1 g2 _ (S1e.out.fr (hf.fr []) (by simp)) (S2e.out.fr (hf.fr []) (by simp))); clear hf)
                | (go_at_call 16; (with_reducible refine useC HI3.out ?_); rintro e w14 ⟨rfl, hf⟩; have H14 := Lib.hid (H13.out.step (hf.fr [])); clear hf))
              go_roundw
              case rel => exact ⟨t + 1, by omega, by omega, by go_num, _, _, _, _, _, _, H14.out, HS7.out⟩
              case measure => simp [intOf]; omega
          · have ho : (xs.length : Int) % 2 = 0 := by omega
            obtain ⟨e2, hS2⟩ := hI.back h10 hj
            have HCB := Lib.hid (un_Undo wr Q bb b t hT.b.file)
            rw [e2, show errV 0 = .nilIface from rfl] at HCB
            have HCC := Lib.hid (fun W (h : ShD W bc c) => sh_crash W bc c h hI.so.slots hI.so.told.len hI.so.tnow.len)
            have HS7 := Lib.hid hS2
            clear e2 hI hS2 hT hodd
            generalize Un.undo b t = b2 at *
            generalize Sh.crash c = c2 at *
            rcases hout with hout | ⟨hout, hout'⟩
            all_goals
              go_wp2_with (first
                | (go_at_call 25; (with_reducible refine useC HCB.out ?_); rintro e w4 ha; obtain ⟨rfl, -, Q4, ht4⟩ := HT.out.turnB ha; have H4 := Lib.hid ht4; have HCC4 := Lib.hid (HCC.out w4 H4.out.c); clear ha ht4)
                | (go_at_call 17; (with_reducible refine useC HCC4.out ?_); rintro e w7 ha; obtain ⟨rfl, -, ht7⟩ := H4.out.turnC ha; have H7 := Lib.hid ht7; have HVC := Lib.hid (sh_Values w7 bc _ H7.out.c HS7.out.so.slots HS7.out.so.shT_old HS7.out.so.shT_now); rw [HS7.out.sn, HS7.out.sv] at HVC; clear ha ht7)
                | (go_at_call 14; (with_reducible refine useC HVC.out ?_); rintro e w8 ⟨v1, v2, g1, g2, rfl, -, -, s1, s2, hf⟩; have H8 := Lib.hid (H7.out.step hf); have S1 := Lib.hid s1; have S2 := Lib.hid s2; have HVA := Lib.hid (wl_Values w8 _ ba _ H8.out.a.file); rw [HS7.out.wv] at HVA; clear s1 s2 hf)
                | (go_at_call 30; (with_reducible refine useC HVA.out ?_); rintro e w9 ⟨v3, g3, rfl, -, s3, hf⟩; have H9 := Lib.hid (H8.out.step hf); have S3 := Lib.hid s3; have S1b := Lib.hid (S1.out.fr hf (by simp)); have S2b := Lib.hid (S2.out.fr hf (by simp)); have HVB := Lib.hid (un_Values w9 _ bb _ H9.out.b.file); rw [HS7.out.ub] at HVB; clear s3 hf)
                | (go_at_call 27; (with_reducible refine useC HVB.out ?_); rintro e w10 ⟨v4, g4, rfl, -, s4, hf⟩; have H10 := Lib.hid (H9.out.step hf); have S1c := Lib.hid (S1b.out.fr hf (by simp)); have S2c := Lib.hid (S2b.out.fr hf (by simp)); have HI1 := Lib.hid (ints_same w10 v3 v4 g3 g4 _ (S3.out.fr hf (by simp)) s4); clear s4 hf)
                | (go_at_call 16; (with_reducible refine useC HI1.out ?_); rintro e w11 ⟨rfl, hf⟩; have H11 := Lib.hid (H10.out.step (hf.fr [])); have S1d := Lib.hid (S1c.out.fr (hf.fr []) (by simp)); have S2d := Lib.hid (S2c.out.fr (hf.fr []) (by simp)); have HVD := Lib.hid (un_Values w11 _ bb _ H11.out.b.file); rw [HS7.out.ub] at HVD; clear hf)
                | (go_at_call 27; (with_reducible refine useC HVD.out ?_); rintro e w12 ⟨v5, g5, rfl, -, s5, hf⟩; have H12 := Lib.hid (H11.out.step hf); have S1e := Lib.hid (S1d.out.fr hf (by simp)); have S2e := Lib.hid (S2d.out.fr hf (by simp)); have HI2 := Lib.hid (ints_same w12 v5 v1 g5 g1 _ s5 S1e.out); clear s5 hf)
                | (go_at_call 16; (with_reducible refine useC HI2.out ?_); rintro e w13 ⟨rfl, hf⟩; have H13 := Lib.hid (H12.out.step (hf.fr [])); have HI3 := Lib.hid (ints_same w13 v1 v2 g1 g2 _ (S1e.out.fr (hf.fr []) (by simp)) (S2e.out.fr (hf.fr []) (by simp))); clear hf)
                | (go_at_call 16; (with_reducible refine useC HI3.out ?_); rintro e w14 ⟨rfl, hf⟩; have H14 := Lib.hid (H13.out.step (hf.fr [])); clear hf))
              go_roundw
              case rel => exact ⟨t + 1, by omega, by omega, by go_num, _, _, _, _, _, _, H14.out, HS7.out⟩
              case measure => simp [intOf]; omega
    · have hout : ¬ (t : Int) < ls.length ∨ ((t : Int) < ls.length ∧ ¬ (t : Int) < 10) := by omega
      have HE : Hid (Fr [] w wr) := by
        obtain ⟨P, Q, a, b, c, V, h1, h2⟩ := hS.out
        exact h1.fr
      clear hS
      rcases hout with hout | ⟨hout, hout'⟩
      all_goals
        go_wp2
        go_ret
        exact ⟨rfl, HE.out⟩
end Go.Proofs.Ytmhmbgkpojgbbaa
