/- SoftTrue: without crashes all is true in memory. -/
import Derived.Test.YtghgbihojdjbgaaDoorSoLaw
import Derived.Test.YtghgbihojdjbgaaDoorRw2
namespace Go.Proofs.YtghgbihojdjbgaaDoor
open Go.RowKit

set_option maxRecDepth 100000 in
set_option maxHeartbeats 8000000 in
theorem so_true (w : World) (v : Value) (ls : List (List Int)) (hR : Rw w.heap.size w v ls) (hE : ErrType w) (hpos : 0 < w.heap.size) :
    Calls Tryd.prog 3 #[v] w (OkT w) := by
  obtain ⟨A, g, o, c, rfl, hm, hF⟩ := hR
  have HF := Lib.hid hF
  have HE := Lib.hid hE
  have HP := Lib.hid hpos
  clear hF hE hpos
  go_enter Tryd.func3, Tryd.ntmps3
  go_wp2_with (first
    | (go_at_call 7; (with_reducible refine useC (so_fact _ HE.out HP.out) ?_); rintro e w1 ⟨rfl, hf⟩; have HF1 := Lib.hid hf; clear hf)
    | (go_at_call 8; (with_reducible refine useC (so_New _) ?_); rintro e w0 ⟨rfl, hd, hf⟩; have S0 : Hid (SoSt w w0 w1.heap.size So.new 0 ∧ So.Tru So.new) := And.intro (⟨hd, So.new_ok, HF1.out.trans hf, HF1.out.size⟩ : SoSt w w0 w1.heap.size So.new 0) So.new_tru; clear hd hf))
  generalize w1.heap.size = b at *
  go_loopw [5] (fun i wr => ∃ k : Nat, k ≤ ls.length ∧ k ≤ 60 ∧ i = .int .i64 k ∧ ∃ L, Hid (SoSt w wr b L k ∧ So.Tru L)) (fun i _ => 60 - (intOf i).toNat)
  case atStart => exact ⟨0, Nat.zero_le _, Nat.zero_le _, rfl, _, S0⟩
  case round =>
    obtain ⟨k, hk, hk6, rfl, L, hST⟩ := hrel
    clear S0
    have hS := Lib.hid hST.out.1
    have hT := Lib.hid hST.out.2
    by_cases hin : k < ls.length ∧ k < 60
    · obtain ⟨hlt, h60⟩ := hin
      obtain ⟨rfl, hg⟩ := HF.out.1 (by omega)
      obtain ⟨u, kb, hcell, hkb, hsl, _⟩ := (HF.out.below hS.out.fr.below).2 k hlt
      obtain ⟨A', o', c', rfl, hm', hA', hc'⟩ := hsl.form
      have i0 : (0 : Int) ≤ k := by omega
      have i1 : (k : Int) < ls.length := by omega
      have i60 : (k : Int) < 60 := by omega
      clear hsl
      by_cases hl1 : (nthR ls k).length = 1
      · have e1 : ((nthR ls k).length : Int) = 1 := by omega
        have hco := Lib.hid (So.sync_ok hS.out.ok)
        have HC := Lib.hid (so_Sync wr b L k hS.out.disk hS.out.ok)
        clear hc' hA' hl1 hkb
        go_wp2_with (go_at_call 9; (with_reducible refine useC HC.out ?_); rintro e w3 hA; have he := hA.1; subst he; have HS3 := Lib.hid (hS.out.ans hA hco.out.1); clear hA)
        go_roundw
        case rel => exact ⟨k + 1, by omega, by omega, by go_num, _, HS3.out.mono (by omega), hco.out.2 hT.out⟩
        case measure => simp [intOf]; omega
      · by_cases hl3 : (nthR ls k).length = 3
        · have e1 : ((nthR ls k).length : Int) = 3 := by omega
          obtain rfl := hA' (by omega)
          have c0 := hc' 0 (by omega)
          rw [Nat.add_zero] at c0
          have c1 := hc' 1 (by omega)
          have c2 := hc' 2 (by omega)
          have HC := Lib.hid (so_done wr b L k kb o' c' _ _ _ hS.out.disk hS.out.ok (by omega) c0 c1 c2)
          have hao := Lib.hid (So.act_ok hS.out.ok (nth (nthR ls k) 0) (nth (nthR ls k) 1) (nth (nthR ls k) 2))
          rw [hl3] at hcell
          clear hc' hA' hl1 hkb hl3 e1
          generalize nth (nthR ls k) 0 = x0 at *
          generalize nth (nthR ls k) 1 = x1 at *
          generalize nth (nthR ls k) 2 = x2 at *
          by_cases hx : 0 ≤ x0 ∧ x0 ≤ 3
          · have e3 : decide (0 ≤ x0 ∧ x0 ≤ 3) = true := decide_eq_true hx
            clear hx
            go_wp2_with (first
              | (go_at_call 10; (with_reducible refine useC (in3_is _ _ _ true _ e3) ?_); rintro e w3 ⟨rfl, rfl⟩)
              | (go_at_call 11; (with_reducible refine useC HC.out ?_); rintro e w3 hA; have he := hA.1; subst he; have HS3 := Lib.hid (hS.out.ans hA hao.out.1); clear hA))
            go_roundw
            case rel => exact ⟨k + 1, by omega, by omega, by go_num, _, HS3.out, hao.out.2 hT.out⟩
            case measure => simp [intOf]; omega
          · have e3 : decide (0 ≤ x0 ∧ x0 ≤ 3) = false := decide_eq_false hx
            clear hx
            go_wp2_with (go_at_call 10; (with_reducible refine useC (in3_is _ _ _ false _ e3) ?_); rintro e w3 ⟨rfl, rfl⟩)
            go_roundw
            case rel => exact ⟨k + 1, by omega, by omega, by go_num, _, hS.out.mono (by omega), hT.out⟩
            case measure => simp [intOf]; omega
        · have e1 : (((nthR ls k).length : Int) == 1) = false := by simp; omega
          have e3 : (((nthR ls k).length : Int) == 3) = false := by simp; omega
          clear hc' hA' hl1 hkb hl3
          go_wp2
          go_roundw
          case rel => exact ⟨k + 1, by omega, by omega, by go_num, _, hS.out.mono (by omega), hT.out⟩
          case measure => simp [intOf]; omega
    · have hout : ¬ (k : Int) < ls.length ∨ ((k : Int) < ls.length ∧ ¬ (k : Int) < 60) := by omega
      have HIM := Lib.hid (so_Images wr b L hS.out.disk hS.out.ok.shp.len)
      rcases hout with hout | ⟨hout, hout'⟩
      all_goals
        go_wp2_with (go_at_call 12; (with_reducible refine useC HIM.out ?_); rintro e w5 ⟨v1, v2, v3, v4, g1, g2, g3, g4, rfl, hs1, hs2, hs3, hs4, hf, _⟩; have HF5 := Lib.hid (hS.out.fr.trans hf); have HS3 := Lib.hid hs1; have HS4 := Lib.hid hs2; obtain ⟨A3, o3, c3, rfl, _, hA3, hc3⟩ := hs1.form; obtain ⟨A4, o4, c4, rfl, _, _, _⟩ := hs2.form; have l3 := part_len (L := L) (o := 20) (n := 8) (by rw [hS.out.ok.shp.len]; decide); have l4 := part_len (L := L) (o := 28) (n := 12) (by rw [hS.out.ok.shp.len]; decide); rw [l3] at hA3 hc3; rw [l3, l4]; rw [l4] at HS4; have hA3 := hA3 (by omega); subst hA3; have HC3 := Lib.hid hc3; have L4 := Lib.hid l4; clear hs1 hs2 hs3 hs4 hf hc3 l3 l4 HS3)
        go_loopw [11] (fun i wr => ∃ k : Nat, k ≤ 8 ∧ i = .int .i64 k ∧ Hid (Fr [] w5 wr)) (fun i _ => 8 - (intOf i).toNat)
        case atStart => exact ⟨0, Nat.zero_le _, rfl, Fr.refl _ _⟩
        case round =>
          obtain ⟨j, hj, rfl, hF⟩ := hrel
          by_cases hlt : j < 8
          · have hk8 : (j : Int) < 8 := by omega
            have hcell := hF.out.cell (HC3.out j hlt) (by simp)
            rw [part_nth hlt] at hcell
            have hn : nth L (20 + j) = (hitsTo (part L 28 12) j (part L 28 12).length : Int) := by
              rw [L4.out, show (28 : Nat) = 20 + 8 from rfl, hits_part L 20 j 12 (Nat.le_refl _)]
              exact hT.out j hlt
            have HN : Hid (Calls Tryd.prog 13 #[.slice A4 12 c4, .int .i64 j] wr.drew fun e w' => e = .returned (.int .i64 (hitsTo (part L 28 12) j (part L 28 12).length : Int)) ∧ wr.drew = w') := names_any wr.drew _ g2 (part L 28 12) j (HS4.out.fr hF.out.drew (by simp)) (by rw [L4.out]; decide)
            rw [hn] at hcell
            clear hn
            generalize hitsTo (part L 28 12) (j : Int) (part L 28 12).length = m at *
            go_wp2
            (refine wp_region_mix (· = wr.drew) 7 [(true, 0), (true, 1), (true, 2), (true, 3), (true, 4), (true, 5), (false, 6)] (by kernel_rfl) (by kernel_rfl) (rfl) ?_; simp only [pickOps, List.map_cons, List.map_nil, List.getD_cons_zero, List.getD_cons_succ, List.drop_succ_cons, List.drop_zero, List.drop_nil])
            (iterate 6 (first | (refine wpMix_take (v := ?_) (by rfl) ?_ ?_; rotate_left; (focus (intro W hW; subst hW; go_simp; (try with_reducible rfl); done)); try simp only [Act.put, List.setIfInBounds_toArray, List.set_cons_zero, List.set_cons_succ]) | (refine wpMix_leave (by rfl) ?_; try simp only [Act.put, List.setIfInBounds_toArray, List.set_cons_zero, List.set_cons_succ])))
            refine wpMix_walk ?_
            go_wp2_with (go_at_call 13; (with_reducible refine useC HN.out ?_); rintro e w' ⟨rfl, rfl⟩)
            refine MixQ.mk (rfl) ?_
            refine wpMix_nil ?_
            go_wp2
            go_roundw
            case rel => exact ⟨j + 1, by omega, by go_num, hF.out.drew⟩
            case measure => simp [intOf]; omega
          · have hk8 : j = 8 := by omega
            subst hk8
            go_wp2
            go_ret
            exact ⟨rfl, HF5.out.trans hF.out⟩
end Go.Proofs.YtghgbihojdjbgaaDoor
