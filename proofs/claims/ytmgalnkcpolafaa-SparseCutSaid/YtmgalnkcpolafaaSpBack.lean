/- SparseBack: what is written is read, and all else is as it was. -/
import Derived.Test.YtmgalnkcpolafaaSpLaw
namespace Go.Proofs.Ytmgalnkcpolafaa
open Go.RowKit

namespace Sp
theorem readL_len {f : F} (h : OK f) : (readL f 0 64).length = f.size := by
  unfold readL
  rw [cutOut_len _ _ _ (by have := h.size; have := h.lenB; omega)]
  have := h.size
  omega
theorem readL_nth {f : F} (h : OK f) {i : Nat} (hi : i < f.size) : nth (readL f 0 64) i = nth f.byt i := by
  unfold readL
  rw [cutOut_nth _ _ _ _ (by have := h.size; omega), Nat.zero_add]
theorem back {f : F} (h : OK f) {a : Nat} {l : List Int} (hl : a + l.length ≤ 64) {i : Nat} (hi : i < (wr f a l).size) :
    nth (readL (wr f a l) 0 64) i = if a ≤ i ∧ i < a + l.length then nth l (i - a) else if i < f.size then nth (readL f 0 64) i else 0 := by
  rw [readL_nth (wr_ok h hl) hi]
  show nth (wrB f.byt a l l.length) i = _
  rw [wrB_nth _ _ _ _ _ (by rw [h.lenB]; exact hl)]
  split
  · rfl
  · split
    · rename_i h1; rw [readL_nth h h1]
    · exact h.zero i (.inr (by omega))
theorem wr_size (f : F) (a : Nat) (l : List Int) : f.size ≤ (wr f a l).size := by unfold wr; simp only; split <;> omega
end Sp
theorem errV_zero : errV 0 = .nilIface := rfl
set_option maxRecDepth 100000 in
set_option maxHeartbeats 4000000 in
theorem sp_back (w : World) (v : Value) (ls : List (List Int)) (x1 : Int) (vl : Value) (gl : Nat) (l : List Int) (hR : Rw w.heap.size w v ls) (hl : Sl w vl gl l) (hg : gl < w.heap.size ∨ l = []) :
    Calls Try.prog 5 #[v, .int .i64 x1, vl] w (OkT w) := by
  have HR := Lib.hid hR
  have HLS := Lib.hid (fun W (hW : Fr [] w W) => hl.fr hW (by simp))
  have HG := Lib.hid hg
  obtain ⟨Al, ol, cl, rfl, -, hAl, hcl⟩ := hl.form
  have HAL := Lib.hid hAl
  clear hR hl hg hAl hcl
  go_enter Try.func5, Try.ntmps5
  go_wp2_with (first
    | (go_at_call 15; (with_reducible refine useC (sp_fact _) ?_); rintro e w1 ⟨rfl, hf⟩; have HF1 := Lib.hid hf; have HR1 : Hid (Rw w1.heap.size w1 v ls) := (HR.out.mono1 hf); clear hf)
    | (go_at_call 16; (with_reducible refine useC (sp_written _ w1.heap.size v ls HR1.out (Nat.le_refl _)) ?_); rintro e w2 ⟨b, f, rfl, hs, ho, hb, hz⟩; have HS2 := Lib.hid hs; have HO := Lib.hid ho; have HB2 := Lib.hid hb; clear hs ho hb hz)
    | (go_at_call 17; (with_reducible refine useC (sp_Read_ok w2 _ _ _ f HS2.out HO.out 0 64 (by decide) (by decide)) ?_); rintro e w3 ⟨vw, rfl, how, hf⟩; obtain ⟨gw, hgw, hsw⟩ := how.sl; obtain ⟨Aw, ow, cw, rfl, -, hAw, hcw⟩ := hsw.form; rw [Sp.readL_len HO.out] at hAw hcw hsw ⊢; have HSW := Lib.hid (fun W (hW : Fr [] w3 W) => hsw.fr hW (by simp)); have HAW := Lib.hid hAw; have HCW := Lib.hid hcw; have HW3 := Lib.hid hgw; have HB3 := Lib.hid (HB2.out.trans (hf.toBelow HB2.out.size (by simp))); have HS3 := Lib.hid (HS2.out.keep hf); have HF3 := Lib.hid hf; clear hf hgw hsw hAw hcw how)
    | (go_at_call 18; (with_reducible refine useC (sp_Size w3 _ _ _ f HS3.out) ?_); rintro e w3 ⟨rfl, rfl⟩))
  have HSP := Lib.hid (HS2.out.tight.keep HF3.out)
  have hlt2 := HF3.out.size
  have hltA := HF1.out.size
  have HGL : Hid (l = [] ∨ ¬ (w1.heap.size ≤ gl ∧ gl < w2.heap.size)) := HG.out.elim (fun h => .inr (by omega)) .inl
  have HGW : Hid (Sp.readL f 0 64 = [] ∨ ¬ (w1.heap.size ≤ gw ∧ gw < w2.heap.size)) := HW3.out.elim (fun h => .inr (by omega)) .inl
  have HFE : Hid (Fr [] w w3) := HF1.out.trans (Fr.of_below HB3.out)
  have HWR := Lib.hid (sp_Write w3 _ b 2560 f x1 _ gl l HSP.out HO.out (HLS.out _ HFE.out) HGL.out (by decide))
  by_cases hw : Sp.wrong x1 l = 0
  · obtain ⟨_, _, hx0, hxl⟩ := Sp.wrong_zero hw
    obtain ⟨a, rfl⟩ : ∃ a : Nat, x1 = a := ⟨x1.toNat, by omega⟩
    have hal : a + l.length ≤ 64 := by omega
    have HWE : Hid (Sp.write f a l = Sp.wr f a l) := by show _ = _; unfold Sp.write; rw [if_pos hw, Int.toNat_natCast]
    have HEZ := Lib.hid (show errV (Sp.wrong a l) = .nilIface from by rw [hw]; rfl)
    have HO4 := Lib.hid (Sp.wr_ok HO.out hal)
    have HBK := Lib.hid (fun i hi => Sp.back HO.out hal (i := i) hi)
    have HLE := Lib.hid (Sp.wr_size f a l)
    have HLN := Lib.hid (Sp.readL_len HO4.out)
    have HLO := Lib.hid (Sp.readL_len HO.out)
    clear hw hx0 hxl
    rw [HWE.out] at HWR
    generalize hf4 : Sp.wr f a l = f4 at *
    have HF4E := Lib.hid hf4
    have hs64 := HO4.out.size
    clear hf4
    go_wp2_with (first
      | (go_at_call 19; (with_reducible refine useC HWR.out ?_); rintro e w4 ⟨rfl, hs, hf⟩; rw [HEZ.out]; have HS4 := Lib.hid hs; have HSW4 := Lib.hid ((HSW.out _ (Fr.refl _ _)).frP hf HGW.out); have HF4 := Lib.hid (hf.fr HFE.out (fun _ h => by omega)); have HF34 := Lib.hid hf; clear hs hf)
      | (go_at_call 17; (with_reducible refine useC (sp_Read_ok w4 _ _ _ f4 HS4.out HO4.out 0 64 (by decide) (by decide)) ?_); rintro e w5 ⟨vi, rfl, hoi, hf⟩; obtain ⟨gi, hgi, hsi⟩ := hoi.sl; obtain ⟨Ai, oi, ci, rfl, -, hAi, hci⟩ := hsi.form; rw [HLN.out] at hAi hci ⊢; have HAI := Lib.hid hAi; have HCI := Lib.hid hci; have HF5 := Lib.hid (HF4.out.trans hf); have HSW5 := Lib.hid (HSW4.out.fr hf (by simp)); have HS5 := Lib.hid (HS4.out.keep hf); clear hf hgi hsi hoi hAi hci)
      | (go_at_call 18; (with_reducible refine useC (sp_Size w5 _ _ _ f4 HS5.out) ?_); rintro e w5 ⟨rfl, rfl⟩; have hle2 : ¬ (f4.size : Int) < f.size := by have := HLE.out; omega))
    have HLS5 := Lib.hid (HLS.out _ HF5.out)
    go_loop [14] (fun i => ∃ k : Nat, k ≤ f4.size ∧ i = .int .i64 k) (fun i => f4.size - (intOf i).toNat)
    case atStart => exact ⟨0, Nat.zero_le _, rfl⟩
    case round =>
      obtain ⟨k, hk, rfl⟩ := hrel
      by_cases hlt : k < f4.size
      · obtain rfl := HAI.out (by omega)
        have hci := HCI.out k hlt
        have HB := Lib.hid (HBK.out k hlt)
        have i1 : (k : Int) < f4.size := by omega
        have i0 : (0 : Int) ≤ (k : Int) := by omega
        generalize nth (Sp.readL f4 0 64) k = y at *
        by_cases hin : a ≤ k ∧ k < a + l.length
        · have HY := Lib.hid (show y = nth l (k - a) from by rw [HB.out, if_pos hin])
          obtain ⟨h1, h2⟩ := hin
          obtain ⟨q, hq⟩ : ∃ q : Nat, k - a = q := ⟨_, rfl⟩
          have q1 : (k : Int) - (a : Int) = (q : Int) := by omega
          have q2 : (q : Int) < l.length := by omega
          have hql : q < l.length := by omega
          obtain rfl := HAL.out (by omega)
          have hcl := HLS5.out.cellAt hql
          rw [← hq, ← HY.out, hq] at hcl
          have t1 : (a : Int) ≤ (k : Int) := by omega
          have t2 : (k : Int) < (a : Int) + l.length := by omega
          clear hq
          by_cases hf : k < f.size
          · obtain rfl := HAW.out (by omega)
            have hcw := HSW5.out.cellAt (i := k) (by rw [HLO.out]; exact hf)
            have t3 : (k : Int) < f.size := by omega
            generalize nth (Sp.readL f 0 64) k = z at *
            clear hf
            go_wp2
            go_round
            case rel => exact ⟨k + 1, by omega, by go_num⟩
            case measure => simp [intOf]; omega
          · have t3 : ¬ (k : Int) < f.size := by omega
            clear hf
            go_wp2
            go_round
            case rel => exact ⟨k + 1, by omega, by go_num⟩
            case measure => simp [intOf]; omega
        · have HY := Lib.hid (show y = if k < f.size then nth (Sp.readL f 0 64) k else 0 from by rw [HB.out, if_neg hin])
          have hout : ¬ (a : Int) ≤ (k : Int) ∨ ((a : Int) ≤ (k : Int) ∧ ¬ (k : Int) < (a : Int) + l.length) := by omega
          by_cases hf : k < f.size
          · obtain rfl := HAW.out (by omega)
            have hcw := HSW5.out.cellAt (i := k) (by rw [HLO.out]; exact hf)
            have HY2 := Lib.hid (show y = nth (Sp.readL f 0 64) k from by rw [HY.out, if_pos hf])
            rw [← HY2.out] at hcw
            have t3 : (k : Int) < f.size := by omega
            clear hf hin
            rcases hout with hout | ⟨hout, hout2⟩
            all_goals
              go_wp2
              go_round
              case rel => exact ⟨k + 1, by omega, by go_num⟩
              case measure => simp [intOf]; omega
          · have HY2 := show y = 0 from by rw [HY.out, if_neg hf]
            subst HY2
            have t3 : ¬ (k : Int) < f.size := by omega
            clear hf hin
            rcases hout with hout | ⟨hout, hout2⟩
            all_goals
              go_wp2
              go_round
              case rel => exact ⟨k + 1, by omega, by go_num⟩
              case measure => simp [intOf]; omega
      · have i1 : ¬ (k : Int) < f4.size := by omega
        go_wp2
        go_ret
        exact ⟨rfl, HF5.out⟩
  · have HEZ := Lib.hid (errV_no hw)
    have HWE : Hid (Sp.write f x1 l = f) := by show _ = _; unfold Sp.write; rw [if_neg hw]
    rw [HWE.out] at HWR
    clear hw
    go_wp2_with (first
      | (go_at_call 19; (with_reducible refine useC HWR.out ?_); rintro e w4 ⟨rfl, hs, hf⟩; rw [HEZ.out]; have HS4 := Lib.hid hs; have HSW4 := Lib.hid ((HSW.out _ (Fr.refl _ _)).frP hf HGW.out); have HF4 := Lib.hid (hf.fr HFE.out (fun _ h => by omega)); clear hs hf)
      | (go_at_call 17; (with_reducible refine useC (sp_Read_ok w4 _ _ _ f HS4.out HO.out 0 64 (by decide) (by decide)) ?_); rintro e w5 ⟨vi, rfl, hoi, hf⟩; obtain ⟨gi, hgi, hsi⟩ := hoi.sl; have HSI := Lib.hid hsi; have HF5 := Lib.hid (HF4.out.trans hf); have HSW5 := Lib.hid (HSW4.out.fr hf (by simp)); clear hf hgi hsi hoi)
      | (go_at_call 20; (with_reducible refine useC (ints_same w5 _ _ _ _ (Sp.readL f 0 64) HSI.out HSW5.out) ?_); rintro e w6 ⟨rfl, hdr⟩; have HF6 := Lib.hid (HF5.out.trans (hdr.fr [])); clear hdr))
    go_ret
    exact ⟨rfl, HF6.out⟩
end Go.Proofs.Ytmgalnkcpolafaa
