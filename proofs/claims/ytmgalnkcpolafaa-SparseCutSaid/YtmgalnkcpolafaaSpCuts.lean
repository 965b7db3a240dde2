/- SparseCut: what is cut off does not come back. -/
import Derived.Test.YtmgalnkcpolafaaSpBack
import Derived.Test.YtmgalnkcpolafaaCIn2
namespace Go.Proofs.Ytmgalnkcpolafaa
open Go.RowKit

namespace Sp
theorem cuts {f : F} (h : OK f) {s : Nat} (hs : s ≤ 64) {i : Nat} (hi : i < 64) :
    nth (readL (ct (ct f s) 64) 0 64) i = if i < s then (if i < f.size then nth (readL f 0 64) i else 0) else 0 := by
  have h1 := ct_ok h hs
  have h2 := ct_ok h1 (Nat.le_refl 64)
  rw [readL_nth h2 hi]
  show nth (cutB (cutB f.byt s) 64) i = _
  rw [cutB_nth _ _ _ (by simp [cutB]), if_pos hi, cutB_nth _ _ _ h.lenB]
  split
  · split
    · rename_i h3; rw [readL_nth h h3]
    · exact h.zero i (.inr (by omega))
  · rfl
end Sp
set_option maxRecDepth 100000 in
set_option maxHeartbeats 4000000 in
theorem sp_cuts (w : World) (v : Value) (ls : List (List Int)) (x1 : Int) (hR : Rw w.heap.size w v ls) :
    Calls Try.prog 7 #[v, .int .i64 x1] w (OkT w) := by
  have HR := Lib.hid hR
  clear hR
  go_enter Try.func7, Try.ntmps7
  go_wp2_with (first
    | (go_at_call 15; (with_reducible refine useC (sp_fact _) ?_); rintro e w1 ⟨rfl, hf⟩; have HF1 := Lib.hid hf; have HR1 : Hid (Rw w1.heap.size w1 v ls) := (HR.out.mono1 hf); clear hf)
    | (go_at_call 16; (with_reducible refine useC (sp_written _ w1.heap.size v ls HR1.out (Nat.le_refl _)) ?_); rintro e w2 ⟨b, f, rfl, hs, ho, hb, hz⟩; have HS2 := Lib.hid hs; have HO := Lib.hid ho; have HF2 := Lib.hid (HF1.out.trans (Fr.of_below hb)); clear hs ho hb hz)
    | (go_at_call 17; (with_reducible refine useC (sp_Read_ok w2 _ _ _ f HS2.out HO.out 0 64 (by decide) (by decide)) ?_); rintro e w3 ⟨vw, rfl, how, hf⟩; obtain ⟨gw, hgw, hsw⟩ := how.sl; obtain ⟨Aw, ow, cw, rfl, -, hAw, -⟩ := hsw.form; rw [Sp.readL_len HO.out] at hAw hsw ⊢; have HAW := Lib.hid hAw; have HSW := Lib.hid hsw; have HW3 := Lib.hid hgw; have HF3 := Lib.hid hf; have HFE := Lib.hid (HF2.out.trans hf); clear hf hgw hsw hAw how))
  have HSP := Lib.hid (HS2.out.tight.keep HF3.out)
  have hlt2 := HF3.out.size
  have hltA := HF1.out.size
  have HGW : Hid (Sp.readL f 0 64 = [] ∨ ¬ (w1.heap.size ≤ gw ∧ gw < w2.heap.size)) := HW3.out.elim (fun h => .inr (by omega)) .inl
  have HLO := Lib.hid (Sp.readL_len HO.out)
  by_cases hs : 0 ≤ x1 ∧ x1 ≤ 64
  · obtain ⟨s, rfl⟩ : ∃ s : Nat, x1 = s := ⟨x1.toNat, by omega⟩
    have hs64 : s ≤ 64 := by omega
    have HCT := Lib.hid (sp_Cut_ok w3 _ b 2560 f s HSP.out HO.out hs64)
    have HO4 := Lib.hid (Sp.ct_ok HO.out hs64)
    have HO5 := Lib.hid (Sp.ct_ok HO4.out (Nat.le_refl 64))
    have HB := Lib.hid (fun i hi => Sp.cuts HO.out hs64 (i := i) hi)
    have HLN := Lib.hid (Sp.readL_len HO5.out)
    have HSZ : Hid ((Sp.ct f s).size = s) := rfl
    have HSZ2 : Hid ((Sp.ct (Sp.ct f s) 64).size = 64) := rfl
    rw [HSZ2.out] at HLN
    clear hs
    go_wp2_with (first
      | (go_at_call 24; (with_reducible refine useC HCT.out ?_); rintro e w4 ⟨rfl, hs, hf⟩; rw [errV_zero]; have HS4 := Lib.hid hs; have HSW4 := Lib.hid (HSW.out.frP hf HGW.out); have HF4 := Lib.hid (hf.fr HFE.out (fun _ h => by omega)); have HC2 := Lib.hid (fun h => sp_Cut_ok w4 _ b 2560 (Sp.ct f s) 64 hs HO4.out h); have hle4 := hf.size; clear hs hf)
      | (go_at_call 18; (with_reducible refine useC (sp_Size w4 _ _ _ (Sp.ct f s) HS4.out) ?_); rw [HSZ.out]; rintro e w4 ⟨rfl, rfl⟩)
      | (go_at_call 24; (with_reducible refine useC (HC2.out (by decide)) ?_); rintro e w5 ⟨rfl, hs, hf⟩; rw [errV_zero]; have HS5 := Lib.hid hs; have HSW5 := Lib.hid (HSW4.out.frP hf HGW.out); have HF5 := Lib.hid (hf.fr HF4.out (fun _ h => by omega)); clear hs hf)
      | (go_at_call 17; (with_reducible refine useC (sp_Read_ok w5 _ _ _ (Sp.ct (Sp.ct f s) 64) HS5.out HO5.out 0 64 (by decide) (by decide)) ?_); rintro e w6 ⟨vi, rfl, hoi, hf⟩; obtain ⟨gi, -, hsi⟩ := hoi.sl; obtain ⟨Ai, oi, ci, rfl, -, hAi, hci⟩ := hsi.form; rw [HLN.out] at hAi hci ⊢; have hAi := hAi (by decide); subst hAi; have HCI := Lib.hid hci; have HF6 := Lib.hid (HF5.out.trans hf); have HSW6 := Lib.hid (HSW5.out.fr hf (by simp)); clear hf hsi hoi hci))
    go_loop [10] (fun i => ∃ k : Nat, k ≤ 64 ∧ i = .int .i64 k) (fun i => 64 - (intOf i).toNat)
    case atStart => exact ⟨0, Nat.zero_le _, rfl⟩
    case round =>
      obtain ⟨k, hk, rfl⟩ := hrel
      by_cases hlt : k < 64
      · have hci := HCI.out k hlt
        have HY := Lib.hid (HB.out k hlt)
        have i1 : (k : Int) < 64 := by omega
        have i0 : (0 : Int) ≤ (k : Int) := by omega
        generalize nth (Sp.readL (Sp.ct (Sp.ct f s) 64) 0 64) k = y at *
        by_cases h1 : k < s
        · have t1 : (k : Int) < s := by omega
          by_cases h2 : k < f.size
          · have HY2 := Lib.hid (show y = nth (Sp.readL f 0 64) k from by rw [HY.out, if_pos h1, if_pos h2])
            obtain rfl := HAW.out (by omega)
            have hcw := HSW6.out.cellAt (i := k) (by rw [HLO.out]; exact h2)
            rw [← HY2.out] at hcw
            have t2 : (k : Int) < f.size := by omega
            clear h1 h2
            go_wp2
            go_round
            case rel => exact ⟨k + 1, by omega, by go_num⟩
            case measure => simp [intOf]; omega
          · have HY2 : y = 0 := by rw [HY.out, if_pos h1, if_neg h2]
            subst HY2
            have t2 : ¬ (k : Int) < f.size := by omega
            clear h1 h2
            go_wp2
            go_round
            case rel => exact ⟨k + 1, by omega, by go_num⟩
            case measure => simp [intOf]; omega
        · have HY2 : y = 0 := by rw [HY.out, if_neg h1]
          subst HY2
          have t1 : ¬ (k : Int) < s := by omega
          clear h1
          go_wp2
          go_round
          case rel => exact ⟨k + 1, by omega, by go_num⟩
          case measure => simp [intOf]; omega
      · have i1 : ¬ (k : Int) < 64 := by omega
        go_wp2
        go_ret
        exact ⟨rfl, HF6.out⟩
  · have e1 : decide (0 ≤ x1 ∧ x1 ≤ 64) = false := decide_eq_false hs
    have HCT := Lib.hid (sp_Cut_no w3 _ b 2560 f x1 HSP.out hs)
    have HEZ := Lib.hid (errV_no (c := 1) (by decide))
    clear hs
    go_wp2_with (first
      | (go_at_call 24; (with_reducible refine useC HCT.out ?_); rintro e w4 ⟨rfl, hs, hf⟩; rw [HEZ.out]; have HF4 := Lib.hid (hf.fr HFE.out (fun _ h => by omega)); clear hs hf)
      | (go_at_call 23; (with_reducible refine useC (in2_is _ _ _ false _ e1) ?_); rintro e w4 ⟨rfl, rfl⟩))
    go_ret
    exact ⟨rfl, HF4.out⟩
end Go.Proofs.Ytmgalnkcpolafaa
