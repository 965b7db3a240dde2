/- What the laws on package wal begin with: the closed fact, a disk with which something was done. -/
import Derived.Test.YtmhmbgkpojgbbaaWlCrash
import Derived.Test.YtmhmbgkpojgbbaaWlHome
import Derived.Test.YtmhmbgkpojgbbaaCInts
import Derived.Test.YtmhmbgkpojgbbaaRw2
namespace Go.Proofs.Ytmhmbgkpojgbbaa
open Go.RowKit

theorem RowO.some8 {P : Nat → Prop} {w : World} {v : Value} {xs : List Int} (h : RowO P w v xs) (h0 : 0 < xs.length) : ∃ g o c, v = .slice (some ⟨g, o, none⟩) xs.length c := by
  obtain ⟨g, _, hs⟩ := h
  obtain ⟨A, o, c, rfl, -, hA, -⟩ := hs.form
  exact ⟨g, o, c, by rw [hA h0]⟩
theorem RowO.cell {P : Nat → Prop} {w : World} {g o n c : Nat} {xs : List Int} (h : RowO P w (.slice (some ⟨g, o, none⟩) n c) xs) {i : Nat} (hi : i < xs.length) : w.cell? ⟨g, o + i, none⟩ = some (.int .i64 (nth xs i)) := by
  obtain ⟨g', _, hs⟩ := h
  obtain ⟨A, o', c', e, -, hA, hc⟩ := hs.form
  rw [hA (by omega)] at e
  injection e with e1 e2 e3
  injection e1 with e1
  injection e1 with e1 e4 _
  subst e1 e4
  exact hc i hi
theorem WlS.rebase {w0 w w' : World} {P : Nat → Prop} {b : Nat} {d : Wl.D} (h0 : Fr [] w0 w) (h : WlS w w' P b d) : WlS w0 w' P b d := ⟨h.file, fun k hk => ⟨Nat.le_trans h0.size (h.hP k hk).1, (h.hP k hk).2⟩, h0.trans h.fr⟩
theorem Wl.fact_w : (Wl.write Wl.new 1 2 9).2 = 0 := by decide
theorem Wl.fact_l : Wl.values (Wl.write Wl.new 1 2 9).1 = [0, 0, 0, 0, 0, 0, 0, 0] := by decide
theorem Wl.fact_e : (Wl.end_ (Wl.write Wl.new 1 2 9).1 1).2 = 0 := by decide
theorem Wl.fact_m : Wl.values (Wl.end_ (Wl.write Wl.new 1 2 9).1 1).1 = [0, 0, 9, 0, 0, 0, 0, 0] := by decide
set_option maxRecDepth 100000 in
set_option maxHeartbeats 1000000 in
theorem wl_fact (w : World) : Calls Try.prog 28 #[] w (OkT w) := by
  have a1 := Lib.hid Wl.fact_w
  have a2 := Lib.hid Wl.fact_l
  have a3 := Lib.hid Wl.fact_e
  have a4 := Lib.hid Wl.fact_m
  generalize hd1 : (Wl.write Wl.new 1 2 9).1 = d1 at *
  generalize hd2 : (Wl.end_ d1 1).1 = d2 at *
  have D1 := Lib.hid hd1
  have D2 := Lib.hid hd2
  have HN := Lib.hid (wl_New w)
  clear hd1 hd2
  go_enter Try.func28, Try.ntmps28
  go_wp2_with (first
    | (go_at_call 36; (with_reducible refine useC HN.out ?_); rintro e w1 ⟨b, rfl, hs, hf⟩; obtain ⟨P1, HS1⟩ : ∃ P, Hid (WlS w w1 P b Wl.new) := ⟨_, WlS.start hs hf⟩; have HC1 := Lib.hid (wl_Write w1 P1 b Wl.new 1 2 9 HS1.out.file); rw [a1.out, D1.out] at HC1; clear hs hf)
    | (go_at_call 31; (with_reducible refine useC HC1.out ?_); rintro e w2 ha; obtain ⟨rfl, hs, -⟩ := HS1.out.turn ha; rw [show errV 0 = .nilIface from rfl]; obtain ⟨P2, HS2⟩ : ∃ P, Hid (WlS w w2 P b d1) := ⟨_, hs⟩; have HC2 := Lib.hid (wl_Values w2 P2 b d1 HS2.out.file); rw [a2.out] at HC2; clear ha hs)
    | (go_at_call 30; (with_reducible refine useC HC2.out ?_); rintro e w3 hn; obtain ⟨v3, rfl, hr, hf⟩ := RowO.of HS2.out hn; obtain ⟨g3, o3, c3, rfl⟩ := hr.some8 (by decide); have HR3 := Lib.hid hr; have HS3 := Lib.hid (HS2.out.step hf); have HC3 := Lib.hid (wl_End w3 P2 b d1 1 HS3.out.file); rw [a3.out, D2.out] at HC3; clear hn hr hf HC2)
    | (go_at_call 32; (with_reducible refine useC HC3.out ?_); rintro e w4 ha; obtain ⟨rfl, hs, hfp⟩ := HS3.out.turn ha; rw [show errV 0 = .nilIface from rfl]; obtain ⟨P4, HS4, HR4⟩ : ∃ P, Hid (WlS w w4 P b d2) ∧ Hid (RowO P w4 (.slice (some ⟨g3, o3, none⟩) 8 c3) [0, 0, 0, 0, 0, 0, 0, 0]) := ⟨_, hs, HR3.out.turn hfp⟩; have HC4 := Lib.hid (wl_Values w4 P4 b d2 HS4.out.file); rw [a4.out] at HC4; clear ha hs hfp)
    | (go_at_call 30; (with_reducible refine useC HC4.out ?_); rintro e w5 hn; obtain ⟨v5, rfl, hr, hf⟩ := RowO.of HS4.out hn; obtain ⟨g5, o5, c5, rfl⟩ := hr.some8 (by decide); have q5 := hr.cell (i := 2) (by decide); have q3 := (HR4.out.step hf).cell (i := 2) (by decide); rw [show nth [0, 0, 0, 0, 0, 0, 0, 0] 2 = 0 from rfl] at q3; rw [show nth [0, 0, 9, 0, 0, 0, 0, 0] 2 = 9 from rfl] at q5; have HF5 := Lib.hid (HS4.out.fr.trans hf); clear hn hr hf HC4))
  go_ret
  exact ⟨rfl, HF5.out⟩
theorem Wl.runD_step (ls : List (List Int)) (k : Nat) : Wl.runD ls (k + 1) = Wl.step (Wl.runD ls k) (nthR ls k) := rfl
set_option maxRecDepth 100000 in
set_option maxHeartbeats 2000000 in
theorem wl_logged (w : World) (B : Nat) (v : Value) (ls : List (List Int)) (hR : Rw B w v ls) (hB : B ≤ w.heap.size) :
    Calls Try.prog 29 #[v] w (WlMade (Wl.runD ls (min ls.length 80)) w) := by
  obtain ⟨A, g, o, c, rfl, hm, hF⟩ := hR
  have HF := Lib.hid hF
  have HN := Lib.hid (wl_New w)
  clear hF
  go_enter Try.func29, Try.ntmps29
  go_wp2_with (go_at_call 36; (with_reducible refine useC HN.out ?_); rintro e w1 ⟨b, rfl, hs, hf⟩; obtain ⟨P1, HS1⟩ : ∃ P, Hid (WlS w w1 P b (Wl.runD ls 0)) := ⟨_, WlS.start hs hf⟩; clear hs hf)
  go_loopw [4] (fun i wr => ∃ k : Nat, k ≤ ls.length ∧ k ≤ 80 ∧ i = .int .i64 k ∧ ∃ P, Hid (WlS w wr P b (Wl.runD ls k))) (fun i _ => 80 - (intOf i).toNat)
  case atStart => exact ⟨0, Nat.zero_le _, Nat.zero_le _, rfl, _, HS1⟩
  case round =>
    clear HS1
    obtain ⟨k, hk, hk8, rfl, P, hS⟩ := hrel
    by_cases hin : k < ls.length ∧ k < 80
    · obtain ⟨hlt, h80⟩ := hin
      obtain ⟨rfl, hg⟩ := HF.out.1 (by omega)
      obtain ⟨u, kb, hcell, hkb, hsl, _⟩ := (HF.out.below (hS.out.fr.toBelow hB (by simp))).2 k hlt
      obtain ⟨A', o', c', rfl, hm', hA', hc'⟩ := hsl.form
      have i0 : (0 : Int) ≤ k := by omega
      have i1 : (k : Int) < ls.length := by omega
      have i4 : (k : Int) < 80 := by omega
      have HST := Lib.hid (Wl.runD_step ls k)
      clear hsl
      generalize Wl.runD ls k = d at *
      by_cases hl1 : (nthR ls k).length = 1
      · have er := Lib.hid (show Wl.runD ls (k + 1) = (Wl.end_ d (nth (nthR ls k) 0)).1 from by rw [HST.out]; unfold Wl.step; rw [if_pos hl1])
        obtain rfl := hA' (by omega)
        have c0 := hc' 0 (by omega)
        rw [Nat.add_zero] at c0
        rw [hl1] at hcell
        have HC := Lib.hid (wl_End wr P b d (nth (nthR ls k) 0) hS.out.file)
        clear hc' hA' hl1 hkb HST
        generalize nth (nthR ls k) 0 = x0 at *
        go_wp2_with (go_at_call 32; (with_reducible refine useC HC.out ?_); rintro e w3 ha; obtain ⟨rfl, hs, -⟩ := hS.out.turn ha; have HS3 := Lib.hid hs; clear ha hs)
        go_roundw
        case rel => exact ⟨k + 1, by omega, by omega, by go_num, _, by show WlS _ _ _ _ _; rw [er.out]; exact HS3.out⟩
        case measure => simp [intOf]; omega
      · have b1 : (((nthR ls k).length : Int) == 1) = false := beq_eq_false_iff_ne.2 (by omega)
        by_cases hl3 : (nthR ls k).length = 3
        · have er := Lib.hid (show Wl.runD ls (k + 1) = (Wl.write d (nth (nthR ls k) 0) (nth (nthR ls k) 1) (nth (nthR ls k) 2)).1 from by rw [HST.out]; unfold Wl.step; rw [if_neg hl1, if_pos hl3])
          obtain rfl := hA' (by omega)
          have c0 := hc' 0 (by omega)
          have c1 := hc' 1 (by omega)
          have c2 := hc' 2 (by omega)
          rw [Nat.add_zero] at c0
          rw [hl3] at hcell
          have HC := Lib.hid (wl_Write wr.drew P b d (nth (nthR ls k) 0) (nth (nthR ls k) 1) (nth (nthR ls k) 2) (hS.out.file.keep ((Fr.refl [] wr).drew)))
          have HSD := Lib.hid (hS.out.step ((Fr.refl [] wr).drew))
          clear hc' hA' hl1 hl3 hkb HST b1
          generalize nth (nthR ls k) 0 = x0 at *
          generalize nth (nthR ls k) 1 = x1 at *
          generalize nth (nthR ls k) 2 = x2 at *
          go_wp2
          (refine wp_region_mixq 11 [(true, 0), (true, 1), (true, 2), (true, 3), (true, 4), (true, 5), (true, 6), (true, 7), (true, 8), (true, 9), (true, 10)] (by kernel_rfl) (by kernel_rfl) ?_; simp only [pickOps, List.map_cons, List.map_nil, List.getD_cons_zero, List.getD_cons_succ, List.drop_succ_cons, List.drop_zero]; (iterate 11 (first | (refine wpMix_take (v := ?_) (by rfl) ?_ ?_; rotate_left; (focus (intro W hW; subst hW; go_simp; (try with_reducible rfl); done)); try simp only [Act.put, List.setIfInBounds_toArray, List.set_cons_zero, List.set_cons_succ]) | (refine wpMix_leave (by rfl) ?_; try simp only [Act.put, List.setIfInBounds_toArray, List.set_cons_zero, List.set_cons_succ]))); refine wpMix_nil ?_)
          go_wp2_with (go_at_call 31; (with_reducible refine useC HC.out ?_); rintro e w3 ha; obtain ⟨rfl, hs, -⟩ := HSD.out.turn ha; have HS3 := Lib.hid hs; clear ha hs)
          go_roundw
          case rel => exact ⟨k + 1, by omega, by omega, by go_num, _, by show WlS _ _ _ _ _; rw [er.out]; exact HS3.out⟩
          case measure => simp [intOf]; omega
        · have b3 : (((nthR ls k).length : Int) == 3) = false := beq_eq_false_iff_ne.2 (by omega)
          by_cases hl4 : (nthR ls k).length = 4
          · have er := Lib.hid (show Wl.runD ls (k + 1) = Wl.sync d from by rw [HST.out]; unfold Wl.step; rw [if_neg hl1, if_neg hl3, if_pos hl4])
            rw [hl4] at hcell
            have HC := Lib.hid (wl_Sync wr P b d hS.out.file)
            clear hc' hA' hl1 hl3 hl4 hkb HST b1 b3
            go_wp2_with (go_at_call 33; (with_reducible refine useC HC.out ?_); rintro e w3 ha; obtain ⟨rfl, hs, -⟩ := hS.out.turn ha; have HS3 := Lib.hid hs; clear ha hs)
            go_roundw
            case rel => exact ⟨k + 1, by omega, by omega, by go_num, _, by show WlS _ _ _ _ _; rw [er.out]; exact HS3.out⟩
            case measure => simp [intOf]; omega
          · have er := Lib.hid (show Wl.runD ls (k + 1) = d from by rw [HST.out]; unfold Wl.step; rw [if_neg hl1, if_neg hl3, if_neg hl4])
            have b4 : (((nthR ls k).length : Int) == 4) = false := beq_eq_false_iff_ne.2 (by omega)
            clear hc' hA' hl1 hl3 hl4 hkb HST
            go_wp2
            go_roundw
            case rel => exact ⟨k + 1, by omega, by omega, by go_num, _, by show WlS _ _ _ _ _; rw [er.out]; exact hS.out⟩
            case measure => simp [intOf]; omega
    · have hout : ¬ (k : Int) < ls.length ∨ ((k : Int) < ls.length ∧ ¬ (k : Int) < 80) := by omega
      have hke : k = min ls.length 80 := by omega
      have HR : Hid (WlS w wr P b (Wl.runD ls (min ls.length 80))) := by rw [← hke]; exact hS
      clear hke hS
      rcases hout with hout | ⟨hout, hout'⟩
      all_goals
        go_wp2
        go_ret
        exact ⟨b, P, rfl, HR.out⟩
end Go.Proofs.Ytmhmbgkpojgbbaa
