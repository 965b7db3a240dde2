/- The law LsmMerge. -/
import Derived.Test.YtokbhiokcoldbaaDoorLsSt
import Derived.Test.YtokbhiokcoldbaaDoorLsMergeP
import Derived.Test.YtokbhiokcoldbaaDoorLsGetsL
import Derived.Test.YtokbhiokcoldbaaDoorLsLens
namespace Go.Proofs.YtokbhiokcoldbaaDoor
open Go.RowKit

/-- What the rounds know: the store, without a table; its keys (row v5), its runs (row v7). -/
def LsMr (w wr : World) (b : Nat) (v5 v7 : Value) (K : List Int) (mg : Bool) (n : Nat) (L : Nat) : Prop :=
  ∃ P m, LsI w wr P b m ∧ m.mem = [] ∧ RowO P wr v5 K ∧ RowO P wr v7 (Ls.lens m) ∧ Ls.keys m = K ∧ (mg = true → Ls.Fl m) ∧ m.runs.length + n ≤ 60 ∧ (Ls.lens m).length = L
theorem RowO.sum {P : Nat → Prop} {w : World} {v : Value} {m : Ls.M} (h : RowO P w v (Ls.lens m)) (hO : Ls.OK m) : Calls Tryd.prog 40 #[v] w fun e w' => e = .returned (.int .i64 (m.runs.flatten.length : Int)) ∧ w = w' := by
  obtain ⟨g, _, hs⟩ := h
  have h1 := sum_any w v g (Ls.lens m) hs (by have := Ls.lens_len m; have := hO.len; have := hO.many; omega) (Ls.lens_small hO)
  have h2 := Ls.lens_sum m.runs
  unfold Ls.lens at h1
  rw [h2] at h1
  exact h1
theorem RowO.slice {P : Nat → Prop} {w : World} {v : Value} {xs : List Int} (h : RowO P w v xs) : ∃ A c, v = .slice A xs.length c := h.sl1
theorem RowO.first {P : Nat → Prop} {w : World} {A : Option Addr} {n c : Nat} {x : Int} {xs : List Int} (h : RowO P w (.slice A n c) (x :: xs)) : ∃ g o, A = some ⟨g, o, none⟩ ∧ w.cell? ⟨g, o, none⟩ = some (.int .i64 x) := by
  obtain ⟨g, _, hs⟩ := h
  obtain ⟨A', o, c', e, -, hA, hc⟩ := hs.form
  injection e with e1 _ _
  refine ⟨g, o, by rw [e1]; exact hA (by simp), ?_⟩
  have := hc 0 (by simp)
  simpa [nth] using this
set_option maxRecDepth 100000 in
set_option maxHeartbeats 4000000 in
theorem ls_mergeL (w : World) (v : Value) (ls : List (List Int)) (hR : Rw w.heap.size w v ls) (hE : ErrType w) (hpos : 0 < w.heap.size) : Calls Tryd.prog 6 #[v] w (OkT w) := by
  obtain ⟨A0, g0, o0, cc0, hv0, hm0, hF0⟩ := hR
  have HR0 : Hid (Rw w.heap.size w v ls) := ⟨A0, g0, o0, cc0, hv0, hm0, hF0⟩
  have HET := Lib.hid hE
  subst hv0
  clear hF0 hm0 hE
  go_enter Tryd.func6, Tryd.ntmps6
  go_wp2_with (first
    | (go_at_call 30; (with_reducible refine useC (ls_fact w) ?_); rintro e w1 ⟨rfl, hf⟩; have HF1 := Lib.hid hf; have HR1 := Lib.hid (HR0.out.mono1 hf); clear hf)
    | (go_at_call 38; (with_reducible refine useC (ls_filled w1 _ ls HR1.out) ?_); rintro e w2 ⟨b, P2, m0, rfl, hS⟩; have HS2 : Hid (LsI w w2 P2 b m0) := ⟨hS.file, hS.ok, fun k hk => ⟨Nat.le_trans HF1.out.size (hS.hP k hk).1, (hS.hP k hk).2⟩, HF1.out.trans hS.fr⟩; have HC2 := Lib.hid (ls_Keys w2 P2 b m0 hS.file hS.ok); clear hS)
    | (go_at_call 37; (with_reducible refine useC HC2.out ?_); rintro e w3 hn; obtain ⟨v3, rfl, hr, hf⟩ := RowO.ofL HS2.out hn; obtain ⟨A3, c3, rfl⟩ := hr.slice; have HS3 := Lib.hid (HS2.out.step hf); have HK3 := Lib.hid hr; have hml := HS2.out.ok.mem; have hrl := HS2.out.ok.len; have hmm := HS2.out.ok.many; have HC3 := Lib.hid (ls_Flush w3 P2 b m0 HS3.out.file (by omega) (by omega)); clear hn hr hf HC2 hml hrl hmm)
    | (go_at_call 34; (with_reducible refine useC HC3.out ?_); intro e w4 ha; obtain ⟨rfl, hs, hfp⟩ := HS3.out.turn HS3.out.ok.flush ha; obtain ⟨P4, HS4, HK4⟩ : ∃ P, Hid (LsI w w4 P b (Ls.flush m0)) ∧ Hid (RowO P w4 (.slice A3 (Ls.keys m0).length c3) (Ls.keys m0)) := ⟨_, hs, HK3.out.turn hfp⟩; have HC4 := Lib.hid (ls_Runs w4 P4 b _ HS4.out.file HS4.out.ok); rw [show ((Ls.flush m0).mem.length : Int) = 0 from by rw [Ls.flush_mem]; rfl] at HC4; clear ha hs hfp HC3)
    | (go_at_call 39; (with_reducible refine useC HC4.out ?_); rintro e w5 hn; obtain ⟨v5, rfl, hr, hf⟩ := RowO.ofRn HS4.out hn; obtain ⟨A5, c5, rfl⟩ := hr.slice; have HS5 := Lib.hid (HS4.out.step hf); have HK5 := Lib.hid (HK4.out.step hf); have HL5 := Lib.hid hr; have HC5 := Lib.hid (ls_Keys w5 P4 b _ HS5.out.file HS5.out.ok); rw [Ls.keys_flush] at HC5; clear hn hr hf HC4)
    | (have HL5' := HL5; go_at_call 37; (with_reducible refine useC HC5.out ?_); rintro e w6 hn; obtain ⟨v6, rfl, hr, hf⟩ := RowO.ofL HS5.out hn; have HS6 := Lib.hid (HS5.out.step hf); have HK6 := Lib.hid (HK5.out.step hf); have HL6 := Lib.hid (HL5.out.step hf); obtain ⟨g6, -, hs6⟩ := hr; obtain ⟨gk, -, hsk⟩ := HK6.out; have HC6 := Lib.hid (ints_same w6 _ _ g6 gk _ hs6 hsk); clear hn hs6 hf HC5 hsk)
    | (have HL6' := HL6; go_at_call 14; (with_reducible refine useC HC6.out ?_); rintro e w7 ⟨rfl, hd⟩; have hf := hd.fr []; have HS7 := Lib.hid (HS6.out.step hf); have HK7 := Lib.hid (HK6.out.step hf); have HL7 := Lib.hid (HL6.out.step hf); clear hf hd))
  have HI0 : Hid (LsMr w w7 b (.slice A3 (Ls.keys m0).length c3) (.slice A5 (Ls.lens (Ls.flush m0)).length c5) (Ls.keys m0) false 0 (Ls.lens (Ls.flush m0)).length) :=
    ⟨P4, Ls.flush m0, HS7.out, Ls.flush_mem m0, HK7.out, HL7.out, Ls.keys_flush m0, fun h => (by cases h), by have h1 := HS7.out.ok.len; have h2 := HS7.out.ok.many; omega, rfl⟩
  generalize Ls.keys m0 = K at *
  generalize (Ls.lens (Ls.flush m0)).length = L0 at *
  clear HS7 HK7 HL7 HS6 HK6 HL6 HS5 HK5 HL5 HS4 HK4 HS3 HK3 HS2 HL5' HL6' HC6 HF1 HR1 HR0
  go_loopw [7, 8, 9] (fun v7 g n wr => ∃ k : Nat, k ≤ 60 ∧ n = .int .i64 k ∧ ∃ mg : Bool, g = .bool mg ∧ ∃ (A : Option Addr) (L c : Nat), v7 = .slice A L c ∧ Hid (LsMr w wr b (.slice A3 K.length c3) (.slice A L c) K mg k L)) (fun _ _ n _ => 60 - (intOf n).toNat)
  case atStart => exact ⟨0, Nat.zero_le _, rfl, false, rfl, A5, L0, c5, rfl, HI0⟩
  case round =>
    clear HI0
    obtain ⟨k, hk, rfl, mg, rfl, A, L, c, rfl, hI⟩ := hrel
    obtain ⟨P, m, hS, hm0, hK, hL, hKK, hfl, hbd, hLL⟩ := hI.out
    have hLr : L = m.runs.length := by rw [← hLL, Ls.lens_len]
    have k80 : (k : Int) < 80 := by omega
    by_cases h2 : 2 ≤ m.runs.length
    · have L1 : (1 : Int) < (L : Int) := by omega
      have HC := Lib.hid (ls_Merge wr P b m hS.file hS.ok)
      rw [show Ls.mergeErr m = 0 from if_neg (by omega), show errV 0 = .nilIface from rfl] at HC
      have HOK := Lib.hid hS.ok.merge
      have HM2 := Lib.hid (show ((Ls.merge m).mem.length : Int) = 0 from by rw [Ls.merge_mem, hm0]; rfl)
      have HM3 := Lib.hid (show (Ls.merge m).mem = [] from by rw [Ls.merge_mem, hm0])
      have HK2 := Lib.hid (show Ls.keys (Ls.merge m) = K from by rw [Ls.keys_merge hS.ok, hKK])
      have HFL := Lib.hid (Ls.merge_full h2)
      have hml := Ls.merge_len h2
      have HLL2 : Hid ((Ls.lens (Ls.merge m)).length = L - 1) := by show _ = _; rw [Ls.lens_len, hml]; omega
      have HSUM := Lib.hid (Ls.merge_sum m)
      have HBD : Hid ((Ls.merge m).runs.length + (k + 1) ≤ 60) := by show _ ≤ _; omega
      have HS := Lib.hid hS
      have HK := Lib.hid hK
      have HL := Lib.hid hL
      have HOKm := Lib.hid hS.ok
      obtain ⟨N, hN⟩ : ∃ N, L = N + 1 := ⟨L - 1, by omega⟩
      have e1 : (L : Int) - 1 = (N : Int) := by omega
      have e2 : IntKind.i64.wrap (N : Int) = (N : Int) := by rw [IntKind.wrap_i64]; omega
      rw [show L - 1 = N from by omega] at HLL2
      have HNN := Lib.hid hN
      have hf60 : m.runs.flatten.length ≤ 60 := by have h1 := hS.ok.tot; have h3 := hS.ok.many; omega
      clear hI hS hm0 hK hL hKK hfl hbd hLL hLr hml hN h2
      generalize Ls.merge m = m2 at *
      have hsm : ¬ ((m.runs.flatten.length : Int) < (m2.runs.flatten.length : Int)) := by have := HSUM.out; omega
      generalize hsl : m.runs.flatten.length = SL at *
      generalize hsl2 : m2.runs.flatten.length = SL2 at *
      have HSL := Lib.hid hsl
      have HSL2 := Lib.hid hsl2
      clear hsl hsl2
      go_wp2_with (first
        | (go_at_call 35; (with_reducible refine useC HC.out ?_); intro e w1 ha; obtain ⟨rfl, hs, hfp⟩ := HS.out.turn HOK.out ha; obtain ⟨P1, HS1, HK1, HL1⟩ : ∃ P, Hid (LsI w w1 P b m2) ∧ Hid (RowO P w1 (.slice A3 K.length c3) K) ∧ Hid (RowO P w1 (.slice A L c) (Ls.lens m)) := ⟨_, hs, HK.out.turn hfp, HL.out.turn hfp⟩; have HC1 := Lib.hid (ls_Runs w1 P1 b m2 HS1.out.file HS1.out.ok); rw [HM2.out] at HC1; clear ha hs hfp HC)
        | (go_at_call 39; (with_reducible refine useC HC1.out ?_); rintro e w2 hn; obtain ⟨v2, rfl, hr, hf⟩ := RowO.ofRn HS1.out hn; obtain ⟨A2, c2, hv2⟩ := hr.slice; rw [HLL2.out] at hv2; subst hv2; have HS2 := Lib.hid (HS1.out.step hf); have HK2r := Lib.hid (HK1.out.step hf); have HL2 := Lib.hid (HL1.out.step hf); have HN2 := Lib.hid hr; have HSA := Lib.hid (hr.sum HS1.out.ok); have HSB := Lib.hid (HL2.out.sum HOKm.out); rw [HSL2.out] at HSA; rw [HSL.out] at HSB; have HC2 := Lib.hid (ls_Keys w2 P1 b m2 HS2.out.file HS2.out.ok); rw [HK2.out] at HC2; clear hn hr hf HC1)
        | (have HN2' := HN2; go_at_call 40; (with_reducible refine useC HSA.out ?_); rintro e w2 ⟨rfl, rfl⟩)
        | (have HN2' := HN2; go_at_call 40; (with_reducible refine useC HSB.out ?_); rintro e w2 ⟨rfl, rfl⟩)
        | (have HN2' := HN2; go_at_call 37; (with_reducible refine useC HC2.out ?_); rintro e w6 hn; obtain ⟨v6, rfl, hr, hf⟩ := RowO.ofL HS2.out hn; have HS6 := Lib.hid (HS2.out.step hf); have HK6 := Lib.hid (HK2r.out.step hf); have HL6 := Lib.hid (HN2.out.step hf); obtain ⟨g6, -, hs6⟩ := hr; obtain ⟨gk, -, hsk⟩ := HK6.out; have HC6 := Lib.hid (ints_same w6 _ _ g6 gk _ hs6 hsk); clear hn hs6 hf hsk)
        | (have HL6' := HL6; go_at_call 14; (with_reducible refine useC HC6.out ?_); rintro e w7 ⟨rfl, hd⟩; have hf := hd.fr []; have HS7 := Lib.hid (HS6.out.step hf); have HK7 := Lib.hid (HK6.out.step hf); have HL7 := Lib.hid (HL6.out.step hf); clear hf hd))
      go_roundw
      case rel => exact ⟨k + 1, by have := HBD.out; omega, by go_num, true, rfl, A2, N, c2, rfl, ⟨P1, m2, HS7.out, HM3.out, HK7.out, HL7.out, HK2.out, fun _ => HFL.out, HBD.out, HLL2.out⟩⟩
      case measure => have := HBD.out; (simp [intOf]; try omega)
    · have L1 : ¬ (1 : Int) < (L : Int) := by omega
      have HC := Lib.hid (ls_Merge wr P b m hS.file hS.ok)
      rw [show Ls.mergeErr m = 5 from if_pos (by omega)] at HC
      have HEY := Lib.hid (fun W (hW : Fr [] w W) => error_yes 5 W (show ErrType W from hW.cell (p := ⟨0, 0, none⟩) HET.out (by simp)))
      rw [errV_no (by decide)] at HC HEY
      have HS := Lib.hid hS
      have HOK := Lib.hid hS.ok.merge
      have HL := Lib.hid hL
      have HM0 := Lib.hid hm0
      have HKK := Lib.hid hKK
      cases hr : m.runs with
      | nil =>
        have hK0 : K.length = 0 := by rw [← hKK]; exact Ls.keys_none hm0 hr
        have hL0 : L = 0 := by rw [hLr, hr]; rfl
        subst hL0
        rw [hK0]
        clear hI hS hm0 hK hL hKK hfl hbd hLL hLr h2 hr hK0
        go_wp2_with (first
          | (go_at_call 35; (with_reducible refine useC HC.out ?_); intro e w1 ha; obtain ⟨rfl, hs, -⟩ := HS.out.turn HOK.out ha; have HF1 := Lib.hid hs.fr; clear ha hs)
          | (have HF1' := HF1; go_at_call 12; (with_reducible refine useC (HEY.out _ HF1.out) ?_); rintro e w2 ⟨rfl, hf⟩; have HF2 := Lib.hid (HF1.out.trans hf); clear hf))
        go_ret
        exact ⟨rfl, HF2.out⟩
      | cons r t =>
        have ht : t = [] := by
          rw [hr, List.length_cons] at h2
          exact List.eq_nil_of_length_eq_zero (by omega)
        subst ht
        have hL0 : L = 1 := by rw [hLr, hr]; rfl
        subst hL0
        have hls : Ls.lens m = [(r.length : Int)] := by unfold Ls.lens; rw [hr]; rfl
        rw [hls] at HL
        have hle : K.length ≤ r.length := by rw [← hKK]; exact Ls.keys_le1 hm0 hr
        have hfu : mg = true → K.length = r.length := fun h => by
          rw [← hKK]
          refine Ls.keys_full hS.ok hm0 hr (fun e he => ?_)
          have := hfl h
          unfold Ls.Fl at this
          rw [hr] at this
          exact this e he
        clear hI hS hm0 hK hL hKK hfl hbd hLL hLr h2 hr hls HM0 HKK
        generalize r.length = rl at *
        by_cases heq : K.length = rl
        · have hb : ((K.length : Int) == (rl : Int)) = true := beq_iff_eq.2 (by omega)
          clear hfu hle
          rw [heq]
          rw [heq] at hb
          go_wp2_with (first
            | (go_at_call 35; (with_reducible refine useC HC.out ?_); intro e w1 ha; obtain ⟨rfl, hs, hfp⟩ := HS.out.turn HOK.out ha; have HF1 := Lib.hid hs.fr; have HL1 := Lib.hid (HL.out.turn hfp); clear ha hs hfp)
            | (have HF1' := HF1; go_at_call 12; (with_reducible refine useC (HEY.out _ HF1.out) ?_); rintro e w2 ⟨rfl, hf⟩; have HF2 := Lib.hid (HF1.out.trans hf); obtain ⟨gl, ol, rfl, q0⟩ := (HL1.out.step hf).first; clear hf))
          go_ret
          exact ⟨rfl, HF2.out⟩
        · have hmg : mg = false := by
            cases mg with
            | false => rfl
            | true => exact absurd (hfu rfl) heq
          subst hmg
          have hb : ((K.length : Int) == (rl : Int)) = false := beq_eq_false_iff_ne.2 (by omega)
          have hlt : (K.length : Int) < (rl : Int) := by omega
          clear hfu hle heq
          generalize K.length = kl at *
          go_wp2_with (first
            | (go_at_call 35; (with_reducible refine useC HC.out ?_); intro e w1 ha; obtain ⟨rfl, hs, hfp⟩ := HS.out.turn HOK.out ha; have HF1 := Lib.hid hs.fr; have HL1 := Lib.hid (HL.out.turn hfp); clear ha hs hfp)
            | (have HF1' := HF1; go_at_call 12; (with_reducible refine useC (HEY.out _ HF1.out) ?_); rintro e w2 ⟨rfl, hf⟩; have HF2 := Lib.hid (HF1.out.trans hf); obtain ⟨gl, ol, rfl, q0⟩ := (HL1.out.step hf).first; clear hf))
          go_ret
          exact ⟨rfl, HF2.out⟩
end Go.Proofs.YtokbhiokcoldbaaDoor
