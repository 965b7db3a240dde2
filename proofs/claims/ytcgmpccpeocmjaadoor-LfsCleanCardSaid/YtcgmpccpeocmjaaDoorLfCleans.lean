/- LfsClean: who cleans has room. -/
import Derived.Test.YtcgmpccpeocmjaaDoorLfLaid
import Derived.Test.YtcgmpccpeocmjaaDoorErr2
import Derived.Test.YtcgmpccpeocmjaaDoorRw2
namespace Go.Proofs.YtcgmpccpeocmjaaDoor
open Go.RowKit

def Lf.vals (d : Lf.D) (n : Nat) : List Int := (List.range n).map fun p => Lf.val d p
theorem Lf.vals_succ (d : Lf.D) (n : Nat) : Lf.vals d (n + 1) = Lf.vals d n ++ [Lf.val d n] := by simp [Lf.vals, List.range_succ]
theorem Lf.vals_len (d : Lf.D) (n : Nat) : (Lf.vals d n).length = n := by simp [Lf.vals]
theorem Lf.vals_nth (d : Lf.D) {n i : Nat} (h : i < n) : nth (Lf.vals d n) i = Lf.val d i := by
  simp [nth, Lf.vals, List.getD, List.getElem?_range h]
/-- The blocks less the live ones of the first n segments. -/
def Lf.deadTo (d : Lf.D) (n : Nat) : Int := (Lf.totTo d n : Int) - Lf.cnt d n
theorem Lf.deadTo_succ (d : Lf.D) (n : Nat) : Lf.deadTo d (n + 1) = Lf.deadTo d n + (Lf.seg d n).length - (Lf.live d n).length := by
  unfold Lf.deadTo; rw [Lf.cnt_succ, Lf.totTo]; omega
theorem Lf.deadTo_bd {d : Lf.D} (h : Lf.OK d) : ∀ n, n ≤ 6 → 0 ≤ Lf.deadTo d n ∧ Lf.deadTo d n ≤ n * 4
  | 0, _ => by simp [Lf.deadTo, Lf.totTo, Lf.cnt, Lf.allPages]
  | n + 1, hn => by
    have h1 := Lf.deadTo_bd h n (by omega)
    have h2 := Lf.live_le d n
    have h3 := h.small n (by omega)
    rw [Lf.deadTo_succ]
    omega
set_option maxRecDepth 100000 in
set_option maxHeartbeats 8000000 in
theorem lf_cleans (w : World) (v : Value) (ls : List (List Int)) (hR : Rw w.heap.size w v ls) (hE : ErrType w) (hpos : 0 < w.heap.size) :
    Calls Tryd.prog 3 #[v] w (OkT w) := by
  have HR := Lib.hid hR
  have HE := Lib.hid hE
  have HP := Lib.hid hpos
  clear hR hE hpos
  go_enter Tryd.func3, Tryd.ntmps3
  go_wp2_with (first
    | (go_at_call 5; (with_reducible refine useC (lf_fact _) ?_); rintro e w1 ⟨rfl, hf⟩; have HF1 := Lib.hid hf; have HR1 : Hid (Rw w1.heap.size w1 v ls) := (HR.out.mono1 hf); have HE1 := Lib.hid (HE.out.fr hf (by simp)); have HP1 := Lib.hid (Nat.lt_of_lt_of_le HP.out hf.size); clear hf)
    | (go_at_call 6; (with_reducible refine useC (lf_laid _ v ls HR1.out) ?_); rintro e wA ⟨b, d, rfl, h1, h2, h3, h4, h5⟩; have HS : Hid (LaSt w1 wA b d) := (⟨h1, h2, h3, h4, h5⟩ : LaSt w1 wA b d); clear h1 h2 h3 h4 h5))
  have HRD := Lib.hid (fun W (hW : Fr [] wA W) q => lf_read W w1.heap.size b d q (HS.out.disk.keep hW) HS.out.ok)
  have HSG := Lib.hid (fun W (hW : Fr [] wA W) q => lf_segment W w1.heap.size b d q (HS.out.disk.keep hW) HS.out.ok)
  go_loopw [5, 7] (fun u c wr => ∃ j : Nat, j ≤ 8 ∧ c = .int .i64 j ∧ Hid (Own wr wA.heap.size 3 u (Lf.vals d j)) ∧ Hid (Fr [] wA wr)) (fun _ c _ => 8 - (intOf c).toNat)
  case atStart => exact ⟨0, Nat.zero_le _, rfl, Own.nil _ _ _, Fr.refl _ _⟩
  case round =>
    obtain ⟨j, hj, rfl, hown, hF⟩ := hrel
    by_cases hlt : j < 8
    · have hj8 : (j : Int) < 8 := by omega
      have ea := Lib.hid (show readAns d j = .tuple #[.int .i64 (Lf.val d j), .nilIface] from by unfold readAns; rw [if_pos (by omega), Int.toNat_natCast])
      have HQ := Lib.hid (HRD.out wr hF.out j)
      have hlen := Lib.hid (Lf.vals_len d j)
      have hs := Lib.hid (Lf.vals_succ d j)
      generalize Lf.vals d j = l at *
      generalize Lf.val d j = x at *
      go_wp2_with (first
        | (go_at_call 7; (with_reducible refine useC HQ.out ?_); rintro e w3 ⟨rfl, hf3⟩; rw [ea.out]; have HF3 := Lib.hid (hF.out.trans hf3); have HO3 := Lib.hid (hown.out.kept hf3 (by simp)); have hsz := HF3.out.size; clear hf3)
        | (at_builtin; refine wpList_push_int (y := x) Tryd.intT rfl _ _ rfl wA.heap.size _ _ rfl HO3.out rfl (by rw [hlen.out]; omega) hsz ?_; intro v' w4 hown4 _ hbel; have H1 := Lib.hid hown4; have H2 := Lib.hid (HF3.out.below_step hbel (Nat.le_refl _)); clear hown4 hbel))
      go_roundw
      case rel => exact ⟨j + 1, by omega, by go_num, by rw [hs.out]; exact H1, H2⟩
      case measure => simp [intOf]; omega
    · have hj8 : j = 8 := by omega
      rw [hj8] at hown
      have HOW := Lib.hid hown.out
      clear hj8 hown
      have HBD := Lib.hid (Lf.deadTo_bd HS.out.ok)
      go_wp2
      obtain ⟨wB, hwB⟩ : ∃ x, x = wr := ⟨_, rfl⟩
      subst hwB
      go_loopw [6, 10] (fun u c wr => ∃ j : Nat, j ≤ 6 ∧ c = .int .i64 j ∧ ∃ x : Int, u = .int .i64 x ∧ Hid (x = Lf.deadTo d j) ∧ Hid (Fr [] wB wr)) (fun _ c _ => 6 - (intOf c).toNat)
      case atStart => exact ⟨0, Nat.zero_le _, rfl, 0, rfl, rfl, Fr.refl _ _⟩
      case round =>
        obtain ⟨j, hj, rfl, x, rfl, hx, hF2⟩ := hrel
        by_cases hlt : j < 6
        · have hj6 : (j : Int) < 6 := by omega
          have ea := Lib.hid (show segAns d j = .tuple #[.int .i64 ((Lf.seg d j).length : Int), .int .i64 ((Lf.live d j).length : Int)] from by unfold segAns; rw [if_pos (by omega), Int.toNat_natCast])
          have HQ := Lib.hid (HSG.out wr (hF.out.trans hF2.out) j)
          have hlv := Lf.live_le d j
          have hsm := HS.out.ok.small j hlt
          have hds := Lib.hid (Lf.deadTo_succ d j)
          have hb : 0 ≤ x ∧ x ≤ 100 := by have := HBD.out j (by omega); have := hx.out; omega
          obtain ⟨hb0, hb1⟩ := hb
          generalize (Lf.seg d j).length = n1 at *
          generalize (Lf.live d j).length = n2 at *
          go_wp2_with (go_at_call 8; (with_reducible refine useC HQ.out ?_); rintro e w3 ⟨rfl, hf3⟩; rw [ea.out]; have HF3 := Lib.hid (hF2.out.trans hf3); clear hf3)
          go_roundw
          case rel => exact ⟨j + 1, by omega, by go_num, _, rfl, by show _ = _; rw [hds.out, hx.out], HF3⟩
          case measure => simp [intOf]; omega
        · have hj6 : j = 6 := by omega
          rw [hj6] at hx
          clear hj6
          obtain ⟨wC, hwC⟩ : ∃ x, x = wr := ⟨_, rfl⟩
          subst hwC
          have hFC := Lib.hid (hF.out.trans hF2.out)
          have HSC := Lib.hid (HS.out.fr hFC.out)
          have HCL := Lib.hid (lf_clean wC w1.heap.size b d HSC.out.disk HSC.out.ok HSC.out.size)
          obtain ⟨gg, hgg, hsl⟩ := HOW.out.sl
          obtain ⟨Au, ou, cu, rfl, _, hAu, hcu⟩ := (hsl.fr hF2.out (by simp)).form
          rw [Lf.vals_len] at hAu hcu ⊢
          obtain rfl := hAu (by omega)
          have HSL : Hid (∀ i, i < 8 → wC.cell? ⟨gg, ou + i, none⟩ = some (.int .i64 (Lf.val d i))) := fun i hi => by rw [hcu i hi, Lf.vals_nth d hi]
          clear hAu hcu
          have HGG : Hid (¬ Foot wC b gg) := by
            intro hf
            have h1 := HS.out.disk.footLt _ (HS.out.disk.footFr hFC.out _ hf)
            rcases hgg with h | h
            · omega
            · have := Lf.vals_len d 8; rw [h] at this; simp at this
          have hge := Lib.hid (hgg.resolve_right (fun h => by have := Lf.vals_len d 8; rw [h] at this; simp at this))
          clear hsl hgg HOW
          have HCF := Lib.hid (Lf.clean_full HS.out.ok HS.out.full)
          have HCO := Lib.hid (Lf.clean_ok HS.out.ok)
          by_cases hz : (Lf.clean d).2.2 = 0
          · have ec := Lib.hid (show cleanAns (Lf.clean d) = .tuple #[.int .i64 (Lf.clean d).2.1, .nilIface] from by unfold cleanAns; rw [hz]; rfl)
            have HZ := Lib.hid hz
            have hdd := Lib.hid (show Lf.deadTo (Lf.clean d).1 6 < Lf.deadTo d 6 from Lf.dead_clean HS.out.ok HS.out.full hz)
            have hwr := Lib.hid (show (Lf.write (Lf.clean d).1 0 1).2 = 0 from by
              obtain ⟨Y, y1, y2⟩ := (HCF.out.2.2 hz).2
              exact Lf.roomy_write y1 y2 (by unfold Lf.okP; omega))
            clear hz
            go_wp2_with (go_at_call 9; (with_reducible refine useC HCL.out ?_); rintro e w3 hA; have he := hA.1; subst he; rw [ec.out]; have HS3 := Lib.hid (HSC.out.ans hA HCO.out.1 HCF.out.1); have HK3 := Lib.hid hA.2.2.2.2; clear hA)
            have HW3 : Hid (∀ i, i < 8 → w3.cell? ⟨gg, ou + i, none⟩ = some (.int .i64 (Lf.val d i))) := fun i hi => by
              have h := HSL.out i hi
              exact (World.cell?_of_block (HK3.out.1 gg (block_lt_of_cell h) HGG.out)).trans h
            have HRD3 := Lib.hid (fun W (hW : Fr [] w3 W) q => lf_read W w1.heap.size b _ q (HS3.out.disk.keep hW) HS3.out.ok)
            have HSG3 := Lib.hid (fun W (hW : Fr [] w3 W) q => lf_segment W w1.heap.size b _ q (HS3.out.disk.keep hW) HS3.out.ok)
            have HBD3 := Lib.hid (Lf.deadTo_bd HS3.out.ok)
            have HVL := Lib.hid HCO.out.2
            generalize (Lf.clean d).1 = d' at *
            generalize (Lf.clean d).2.1 = bb at *
            clear HCF HCO ec HK3 HGG hge HSL HCL
            go_loopw [15, 16] (fun u c wr => ∃ j : Nat, j ≤ 6 ∧ c = .int .i64 j ∧ ∃ x : Int, u = .int .i64 x ∧ Hid (x = Lf.deadTo d' j) ∧ Hid (Fr [] w3 wr)) (fun _ c _ => 6 - (intOf c).toNat)
            case atStart => exact ⟨0, Nat.zero_le _, rfl, 0, rfl, rfl, Fr.refl _ _⟩
            case round =>
              obtain ⟨j, hj, rfl, y, rfl, hy, hF4⟩ := hrel
              by_cases hlt : j < 6
              · have hj6 : (j : Int) < 6 := by omega
                have ea := Lib.hid (show segAns d' j = .tuple #[.int .i64 ((Lf.seg d' j).length : Int), .int .i64 ((Lf.live d' j).length : Int)] from by unfold segAns; rw [if_pos (by omega), Int.toNat_natCast])
                have HQ := Lib.hid (HSG3.out wr hF4.out j)
                have hlv := Lf.live_le d' j
                have hsm := HS3.out.ok.small j hlt
                have hds := Lib.hid (Lf.deadTo_succ d' j)
                have hb : 0 ≤ y ∧ y ≤ 100 := by have := HBD3.out j (by omega); have := hy.out; omega
                obtain ⟨hb0, hb1⟩ := hb
                generalize (Lf.seg d' j).length = n1 at *
                generalize (Lf.live d' j).length = n2 at *
                go_wp2_with (go_at_call 8; (with_reducible refine useC HQ.out ?_); rintro e w4 ⟨rfl, hf4⟩; rw [ea.out]; have HF5 := Lib.hid (hF4.out.trans hf4); clear hf4)
                go_roundw
                case rel => exact ⟨j + 1, by omega, by go_num, _, rfl, by show _ = _; rw [hds.out, hy.out], HF5⟩
                case measure => simp [intOf]; omega
              · have hj6 : j = 6 := by omega
                rw [hj6] at hy
                clear hj6
                obtain ⟨wD, hwD⟩ : ∃ x, x = wr := ⟨_, rfl⟩
                subst hwD
                go_wp2
                go_loopw [19] (fun c wr => ∃ j : Nat, j ≤ 8 ∧ c = .int .i64 j ∧ Hid (Fr [] w3 wr)) (fun c _ => 8 - (intOf c).toNat)
                case atStart => exact ⟨0, Nat.zero_le _, rfl, hF4⟩
                case round =>
                  obtain ⟨j, hj, rfl, hF6⟩ := hrel
                  by_cases hlt : j < 8
                  · have hj8 : (j : Int) < 8 := by omega
                    have ea := Lib.hid (show readAns d' j = .tuple #[.int .i64 (Lf.val d j), .nilIface] from by unfold readAns; rw [if_pos (by omega), Int.toNat_natCast, HVL.out j hlt])
                    have HQ := Lib.hid (HRD3.out wr hF6.out j)
                    go_wp2_with (go_at_call 7; (with_reducible refine useC HQ.out ?_); rintro e w4 ⟨rfl, hf4⟩; rw [ea.out]; have HF7 := Lib.hid (hF6.out.trans hf4); have hcell := HF7.out.cell (HW3.out j hlt) (by simp); clear hf4)
                    go_roundw
                    case rel => exact ⟨j + 1, by omega, by go_num, HF7⟩
                    case measure => simp [intOf]; omega
                  · have HS6 := Lib.hid (HS3.out.fr hF6.out)
                    have HWR := Lib.hid (lf_write wr w1.heap.size b d' 0 1 HS6.out.disk HS6.out.ok HS6.out.size)
                    have e0 := Lib.hid (show errV (Lf.write d' 0 1).2 = .nilIface from by rw [hwr.out]; rfl)
                    have hlt2 : y < x := by have := hdd.out; have := hx.out; have := hy.out; omega
                    go_wp2_with (go_at_call 11; (with_reducible refine useC HWR.out ?_); rintro e w8 hA; have he := hA.1; subst he; rw [e0.out]; have HB8 := Lib.hid (HS6.out.below.trans hA.2.2.1); clear hA)
                    go_ret
                    exact ⟨rfl, HF1.out.trans (Fr.of_below HB8.out)⟩
          · have h57 := HCF.out.2.1
            have ec : Hid (∃ k : Int, (k = 5 ∨ k = 7) ∧ cleanAns (Lf.clean d) = .tuple #[.int .i64 (Lf.clean d).2.1, .iface 49 (.int .i64 k)]) := by
              rcases h57 with h | h | h
              · exact absurd h hz
              · exact ⟨5, .inl rfl, by unfold cleanAns; rw [h]; rfl⟩
              · exact ⟨7, .inr rfl, by unfold cleanAns; rw [h]; rfl⟩
            clear h57 hz
            obtain ⟨k, hk, ec⟩ := ec.out
            have EC := Lib.hid ec
            clear ec
            rcases hk with rfl | rfl
            · go_wp2_with (first
                | (go_at_call 9; (with_reducible refine useC HCL.out ?_); rintro e w3 hA; have he := hA.1; subst he; rw [EC.out]; have HB3 := Lib.hid (HSC.out.below.trans hA.2.2.1); have HE3 := Lib.hid (HE1.out.below HB3.out HP1.out); clear hA)
                | (go_at_call 10; (with_reducible refine useC (error_at 5 5 _ HE3.out) ?_); rintro e w4 ⟨rfl, hf4⟩; have HF4 := Lib.hid hf4; clear hf4))
              go_ret
              exact ⟨rfl, (HF1.out.trans (Fr.of_below HB3.out)).trans HF4.out⟩
            · go_wp2_with (first
                | (go_at_call 9; (with_reducible refine useC HCL.out ?_); rintro e w3 hA; have he := hA.1; subst he; rw [EC.out]; have HB3 := Lib.hid (HSC.out.below.trans hA.2.2.1); have HE3 := Lib.hid (HE1.out.below HB3.out HP1.out); clear hA)
                | (go_at_call 10; (with_reducible refine useC (error_at 7 5 _ HE3.out) ?_); rintro e w4 ⟨rfl, hf4⟩; have HF4 := Lib.hid hf4; have HE4 := Lib.hid (HE3.out.fr hf4 (by simp)); clear hf4)
                | (go_at_call 10; (with_reducible refine useC (error_at 7 7 _ HE4.out) ?_); rintro e w5 ⟨rfl, hf5⟩; have HF5 := Lib.hid (HF4.out.trans hf5); clear hf5))
              go_ret
              exact ⟨rfl, (HF1.out.trans (Fr.of_below HB3.out)).trans HF5.out⟩
end Go.Proofs.YtcgmpccpeocmjaaDoor
