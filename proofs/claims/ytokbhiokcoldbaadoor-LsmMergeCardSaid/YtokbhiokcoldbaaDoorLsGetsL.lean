/- The law LsmGets. -/
import Derived.Test.YtokbhiokcoldbaaDoorLsSt
import Derived.Test.YtokbhiokcoldbaaDoorCHas
import Derived.Test.YtokbhiokcoldbaaDoorErr2
namespace Go.Proofs.YtokbhiokcoldbaaDoor
open Go.RowKit

namespace Ls
/-- What was stored last at a key (-1: nothing). -/
def lastOf (m : M) (ask : Int) : Int := (get m ask).getD (-1)
theorem get_nonneg {m : M} {k v : Int} (h : get m k = some v) : 0 ≤ v := by
  unfold get val at h
  split at h
  · split at h
    · cases h
    · injection h with h; omega
  · cases h
theorem lastOf_drop (m : M) (x ask : Int) : lastOf (down m (x, -1)) ask = if downErr m (x, -1) = 0 ∧ x = ask then -1 else lastOf m ask := by
  unfold lastOf
  rw [get_down]
  by_cases h : downErr m (x, -1) = 0 ∧ x = ask
  · rw [if_pos h, if_pos h]; rfl
  · rw [if_neg h, if_neg h]
theorem lastOf_put (m : M) (x v ask : Int) : lastOf (put m x v) ask = if putErr m x v = 0 ∧ x = ask then v else lastOf m ask := by
  unfold lastOf put putErr
  by_cases hv : 0 ≤ v ∧ v ≤ 1000
  · rw [if_pos hv, if_pos hv, get_down]
    by_cases h : downErr m (x, v) = 0 ∧ x = ask
    · rw [if_pos h, if_pos h]
      have : val (some v) = some v := by unfold val; simp; omega
      rw [this]; rfl
    · rw [if_neg h, if_neg h]
  · rw [if_neg hv, if_neg hv, if_neg (by omega)]
theorem lastOf_flush (m : M) (ask : Int) : lastOf (flush m) ask = lastOf m ask := by unfold lastOf; rw [get_flush]
theorem lastOf_merge {m : M} (h : OK m) (ask : Int) : lastOf (merge m) ask = lastOf m ask := by unfold lastOf; rw [get_merge h]
theorem keys_has (m : M) (ask : Int) : hasB (keys m) ask = decide (0 ≤ lastOf m ask) := by
  have h := keys_mem m ask
  have e : hasB (keys m) ask = true ↔ 0 ≤ lastOf m ask := by
    unfold hasB lastOf
    rw [List.contains_iff_mem, h]
    cases hg : get m ask with
    | none => simp
    | some v => have := get_nonneg hg; simp; omega
  by_cases hl : 0 ≤ lastOf m ask
  · rw [decide_eq_true hl]; exact e.2 hl
  · rw [decide_eq_false hl]
    cases hb : hasB (keys m) ask with
    | false => rfl
    | true => exact absurd (e.1 hb) hl
theorem lastOf_get (m : M) (ask : Int) : (lastOf m ask < 0 → getE m ask = 5 ∧ getV m ask = 0) ∧ (¬ lastOf m ask < 0 → getE m ask = 0 ∧ getV m ask = lastOf m ask) := by
  unfold lastOf getE getV
  cases hg : get m ask with
  | none => simp
  | some v =>
    have := get_nonneg hg
    refine ⟨fun h => ?_, fun _ => ?_⟩
    · simp at h; omega
    · simp
theorem lastOf_new (ask : Int) : lastOf new ask = -1 := by rfl
end Ls
theorem fr_frP {P : Nat → Prop} {w w' : World} (h : Fr [] w w') : FrP P w w' := (FrP.refl P w).step h (by simp)
theorem lt_of_lsA {w wr : World} {P : Nat → Prop} {b : Nat} {m : Ls.M} (h : LsI w wr P b m) {kb : Nat} {l : List Int} {n : Nat} (hkb : kb < w.heap.size ∨ l = []) (hl : l.length = n + 1) : ¬ P kb := fun hp => by
  have := (h.hP kb hp).1
  rcases hkb with h | h
  · omega
  · rw [h] at hl; simp at hl
set_option maxRecDepth 100000 in
set_option maxHeartbeats 4000000 in
theorem ls_getsL (w : World) (v : Value) (ls : List (List Int)) (ask : Int) (hR : Rw w.heap.size w v ls) (hE : ErrType w) (hpos : 0 < w.heap.size) : Calls Tryd.prog 5 #[v, .int .i64 ask] w (OkT w) := by
  obtain ⟨A, g, o, cc, rfl, hm, hF⟩ := hR
  have HF := Lib.hid hF
  have HN := Lib.hid (fun W => ls_New W)
  have HET := Lib.hid hE
  clear hF hE
  go_enter Tryd.func5, Tryd.ntmps5
  go_wp2_with (first
    | (go_at_call 30; (with_reducible refine useC (ls_fact w) ?_); rintro e w0 ⟨rfl, hf⟩; have HF0 := Lib.hid hf; clear hf)
    | (go_at_call 31; (with_reducible refine useC (HN.out w0) ?_); rintro e w1 ⟨rfl, hs, hf⟩; obtain ⟨P1, b, hb, HS1⟩ : ∃ P b, w0.heap.size = b ∧ Hid (LsI w w1 P b Ls.new) := ⟨_, _, rfl, LsI.made HF0.out hs hf⟩; rw [hb]; clear hs hf hb))
  go_loopw [7, 8] (fun L i wr => ∃ k : Nat, k ≤ ls.length ∧ k ≤ 80 ∧ i = .int .i64 k ∧ ∃ la : Int, L = .int .i64 la ∧ Hid (∃ P m, LsI w wr P b m ∧ Ls.lastOf m ask = la)) (fun _ i _ => 80 - (intOf i).toNat)
  case atStart => exact ⟨0, Nat.zero_le _, Nat.zero_le _, rfl, -1, rfl, P1, _, HS1.out, rfl⟩
  case round =>
    clear HS1
    obtain ⟨k, hk, hk8, rfl, la, rfl, hS⟩ := hrel
    obtain ⟨P, m, hS2, hla⟩ := hS.out
    have HLA := Lib.hid hla
    by_cases hin : k < ls.length ∧ k < 80
    · obtain ⟨hlt, h80⟩ := hin
      obtain ⟨rfl, hg⟩ := HF.out.1 (by omega)
      obtain ⟨u, kb, hcell, hkb, hsl, _⟩ := (HF.out.below (hS2.fr.toBelow (Nat.le_refl _) (by simp))).2 k hlt
      obtain ⟨A', o', c', rfl, hm', hA', hc'⟩ := hsl.form
      have i0 : (0 : Int) ≤ k := by omega
      have i1 : (k : Int) < ls.length := by omega
      have i4 : (k : Int) < 80 := by omega
      have H2 := Lib.hid hS2
      clear hsl hS2 hS hla
      by_cases hl1 : (nthR ls k).length = 1
      · obtain rfl := hA' (by omega)
        have c0 := hc' 0 (by omega)
        rw [Nat.add_zero] at c0
        have hkw := lt_of_lsA (n := 0) H2.out hkb hl1
        rw [hl1] at hcell
        have HC0 := Lib.hid c0
        have HKW := Lib.hid hkw
        clear hc' hA' hl1 hkb hkw
        generalize nth (nthR ls k) 0 = x0 at *
        have HC := Lib.hid (ls_Drop wr P b m x0 H2.out.file H2.out.ok)
        have HLD := Lib.hid (Ls.lastOf_drop m x0 ask)
        have HOK := Lib.hid (H2.out.ok.drop x0)
        by_cases hc : Ls.downErr m (x0, -1) = 0
        · rw [hc, show errV 0 = .nilIface from rfl] at HC
          by_cases hx : x0 = ask
          · have hxb : (x0 == ask) = true := beq_iff_eq.2 hx
            have HL2 := Lib.hid (HLD.out.trans (if_pos ⟨hc, hx⟩))
            clear hx hc HLD
            go_wp2_with (go_at_call 32; (with_reducible refine useC HC.out ?_); intro e w3 ha; obtain ⟨rfl, hs, hfp⟩ := H2.out.turn HOK.out ha; have c3 := hfp.cell HC0.out HKW.out; have H3 : Hid (∃ P m, LsI w w3 P b m ∧ Ls.lastOf m ask = -1) := ⟨_, _, hs, HL2.out⟩; clear ha hs hfp HC)
            go_roundw
            case rel => exact ⟨k + 1, by omega, by omega, by go_num, _, rfl, H3.out⟩
            case measure => simp [intOf]; omega
          · have hxb : (x0 == ask) = false := beq_eq_false_iff_ne.2 hx
            have HL2 := Lib.hid ((HLD.out.trans (if_neg (fun h => hx h.2))).trans HLA.out)
            clear hx hc HLD
            go_wp2_with (go_at_call 32; (with_reducible refine useC HC.out ?_); intro e w3 ha; obtain ⟨rfl, hs, hfp⟩ := H2.out.turn HOK.out ha; have c3 := hfp.cell HC0.out HKW.out; have H3 : Hid (∃ P m, LsI w w3 P b m ∧ Ls.lastOf m ask = la) := ⟨_, _, hs, HL2.out⟩; clear ha hs hfp HC)
            go_roundw
            case rel => exact ⟨k + 1, by omega, by omega, by go_num, _, rfl, H3.out⟩
            case measure => simp [intOf]; omega
        · have HL2 := Lib.hid ((HLD.out.trans (if_neg (fun h => hc h.1))).trans HLA.out)
          rw [errV_no hc] at HC
          clear hc HLD
          go_wp2_with (go_at_call 32; (with_reducible refine useC HC.out ?_); intro e w3 ha; obtain ⟨rfl, hs, hfp⟩ := H2.out.turn HOK.out ha; have H3 : Hid (∃ P m, LsI w w3 P b m ∧ Ls.lastOf m ask = la) := ⟨_, _, hs, HL2.out⟩; clear ha hs hfp HC)
          go_roundw
          case rel => exact ⟨k + 1, by omega, by omega, by go_num, _, rfl, H3.out⟩
          case measure => simp [intOf]; omega
      · have b1 : (((nthR ls k).length : Int) == 1) = false := beq_eq_false_iff_ne.2 (by omega)
        by_cases hl2 : (nthR ls k).length = 2
        · obtain rfl := hA' (by omega)
          have c0 := hc' 0 (by omega)
          have c1 := hc' 1 (by omega)
          rw [Nat.add_zero] at c0
          have hkw := lt_of_lsA (n := 1) H2.out hkb hl2
          rw [hl2] at hcell
          have HCC := Lib.hid (fun W (hW : FrP P wr W) => And.intro (hW.cell c0 hkw) (hW.cell c1 hkw))
          clear hc' hA' hl1 hl2 hkb b1 hkw
          generalize nth (nthR ls k) 0 = x0 at *
          generalize nth (nthR ls k) 1 = x1 at *
          have HC := Lib.hid (ls_Put wr.drew P b m x0 x1 (H2.out.file.keep (Fr.refl [] wr).drew) H2.out.ok)
          have H2d := Lib.hid (H2.out.step (Fr.refl [] wr).drew)
          have HLD := Lib.hid (Ls.lastOf_put m x0 x1 ask)
          have HOK := Lib.hid (H2.out.ok.put x0 x1)
          have HDR : Hid (FrP P wr wr.drew) := fr_frP (Fr.refl [] wr).drew
          have HDT : Hid (∀ W, FrP P wr.drew W → FrP P wr W) := fun W hW => HDR.out.trans hW (fun x hx => .inl hx)
          by_cases hc : Ls.putErr m x0 x1 = 0
          · rw [hc, show errV 0 = .nilIface from rfl] at HC
            by_cases hx : x0 = ask
            · have hxb : (x0 == ask) = true := beq_iff_eq.2 hx
              have HL2 := Lib.hid (HLD.out.trans (if_pos ⟨hc, hx⟩))
              clear hx hc HLD
              go_wp2_with fail
              (refine wp_region_mix (FrP P wr ·) 14 [(true, 0), (true, 1), (true, 2), (true, 3), (true, 4), (true, 5), (true, 6), (false, 7), (true, 8), (true, 9), (true, 10), (true, 11), (true, 12), (true, 13)] (by kernel_rfl) (by kernel_rfl) (HDR.out) ?_; simp only [pickOps, List.map_cons, List.map_nil, List.getD_cons_zero, List.getD_cons_succ, List.drop_succ_cons, List.drop_zero])
              (iterate 7 (first | (refine wpMix_take (v := ?_) (by rfl) ?_ ?_; rotate_left; (focus (intro W hW; obtain ⟨q0, q1⟩ := HCC.out W hW; go_simp; (try with_reducible rfl); done)); try simp only [Act.put, List.setIfInBounds_toArray, List.set_cons_zero, List.set_cons_succ]) | (refine wpMix_leave (by rfl) ?_; try simp only [Act.put, List.setIfInBounds_toArray, List.set_cons_zero, List.set_cons_succ])))
              refine wpMix_walk ?_
              go_wp2_with (go_at_call 33; (with_reducible refine useC HC.out ?_); intro e w3 ha; obtain ⟨rfl, hs, hfp⟩ := H2d.out.turn HOK.out ha; have HF3 := Lib.hid (HDT.out _ hfp); have H3 : Hid (∃ P m, LsI w w3 P b m ∧ Ls.lastOf m ask = x1) := ⟨_, _, hs, HL2.out⟩; clear ha hs hfp HC)
              refine MixQ.mk (HF3.out) ?_
              (iterate 6 (first | (refine wpMix_take (v := ?_) (by rfl) ?_ ?_; rotate_left; (focus (intro W hW; obtain ⟨q0, q1⟩ := HCC.out W hW; go_simp; (try with_reducible rfl); done)); try simp only [Act.put, List.setIfInBounds_toArray, List.set_cons_zero, List.set_cons_succ]) | (refine wpMix_leave (by rfl) ?_; try simp only [Act.put, List.setIfInBounds_toArray, List.set_cons_zero, List.set_cons_succ])))
              refine wpMix_nil ?_
              obtain ⟨q0, q1⟩ := HCC.out w3 HF3.out
              go_wp2
              go_roundw
              case rel => exact ⟨k + 1, by omega, by omega, by go_num, _, rfl, H3.out⟩
              case measure => simp [intOf]; omega
            · have hxb : (x0 == ask) = false := beq_eq_false_iff_ne.2 hx
              have HL2 := Lib.hid ((HLD.out.trans (if_neg (fun h => hx h.2))).trans HLA.out)
              clear hx hc HLD
              go_wp2_with fail
              (refine wp_region_mix (FrP P wr ·) 14 [(true, 0), (true, 1), (true, 2), (true, 3), (true, 4), (true, 5), (true, 6), (false, 7), (true, 8), (true, 9), (true, 10), (true, 11), (true, 12), (true, 13)] (by kernel_rfl) (by kernel_rfl) (HDR.out) ?_; simp only [pickOps, List.map_cons, List.map_nil, List.getD_cons_zero, List.getD_cons_succ, List.drop_succ_cons, List.drop_zero])
              (iterate 7 (first | (refine wpMix_take (v := ?_) (by rfl) ?_ ?_; rotate_left; (focus (intro W hW; obtain ⟨q0, q1⟩ := HCC.out W hW; go_simp; (try with_reducible rfl); done)); try simp only [Act.put, List.setIfInBounds_toArray, List.set_cons_zero, List.set_cons_succ]) | (refine wpMix_leave (by rfl) ?_; try simp only [Act.put, List.setIfInBounds_toArray, List.set_cons_zero, List.set_cons_succ])))
              refine wpMix_walk ?_
              go_wp2_with (go_at_call 33; (with_reducible refine useC HC.out ?_); intro e w3 ha; obtain ⟨rfl, hs, hfp⟩ := H2d.out.turn HOK.out ha; have HF3 := Lib.hid (HDT.out _ hfp); have H3 : Hid (∃ P m, LsI w w3 P b m ∧ Ls.lastOf m ask = la) := ⟨_, _, hs, HL2.out⟩; clear ha hs hfp HC)
              refine MixQ.mk (HF3.out) ?_
              (iterate 6 (first | (refine wpMix_take (v := ?_) (by rfl) ?_ ?_; rotate_left; (focus (intro W hW; obtain ⟨q0, q1⟩ := HCC.out W hW; go_simp; (try with_reducible rfl); done)); try simp only [Act.put, List.setIfInBounds_toArray, List.set_cons_zero, List.set_cons_succ]) | (refine wpMix_leave (by rfl) ?_; try simp only [Act.put, List.setIfInBounds_toArray, List.set_cons_zero, List.set_cons_succ])))
              refine wpMix_nil ?_
              go_wp2
              go_roundw
              case rel => exact ⟨k + 1, by omega, by omega, by go_num, _, rfl, H3.out⟩
              case measure => simp [intOf]; omega
          · have HL2 := Lib.hid ((HLD.out.trans (if_neg (fun h => hc h.1))).trans HLA.out)
            rw [errV_no hc] at HC
            clear hc HLD
            go_wp2_with fail
            (refine wp_region_mix (FrP P wr ·) 14 [(true, 0), (true, 1), (true, 2), (true, 3), (true, 4), (true, 5), (true, 6), (false, 7), (true, 8), (true, 9), (true, 10), (true, 11), (true, 12), (true, 13)] (by kernel_rfl) (by kernel_rfl) (HDR.out) ?_; simp only [pickOps, List.map_cons, List.map_nil, List.getD_cons_zero, List.getD_cons_succ, List.drop_succ_cons, List.drop_zero])
            (iterate 7 (first | (refine wpMix_take (v := ?_) (by rfl) ?_ ?_; rotate_left; (focus (intro W hW; obtain ⟨q0, q1⟩ := HCC.out W hW; go_simp; (try with_reducible rfl); done)); try simp only [Act.put, List.setIfInBounds_toArray, List.set_cons_zero, List.set_cons_succ]) | (refine wpMix_leave (by rfl) ?_; try simp only [Act.put, List.setIfInBounds_toArray, List.set_cons_zero, List.set_cons_succ])))
            refine wpMix_walk ?_
            go_wp2_with (go_at_call 33; (with_reducible refine useC HC.out ?_); intro e w3 ha; obtain ⟨rfl, hs, hfp⟩ := H2d.out.turn HOK.out ha; have HF3 := Lib.hid (HDT.out _ hfp); have H3 : Hid (∃ P m, LsI w w3 P b m ∧ Ls.lastOf m ask = la) := ⟨_, _, hs, HL2.out⟩; clear ha hs hfp HC)
            refine MixQ.mk (HF3.out) ?_
            (iterate 6 (first | (refine wpMix_take (v := ?_) (by rfl) ?_ ?_; rotate_left; (focus (intro W hW; obtain ⟨q0, q1⟩ := HCC.out W hW; go_simp; (try with_reducible rfl); done)); try simp only [Act.put, List.setIfInBounds_toArray, List.set_cons_zero, List.set_cons_succ]) | (refine wpMix_leave (by rfl) ?_; try simp only [Act.put, List.setIfInBounds_toArray, List.set_cons_zero, List.set_cons_succ])))
            refine wpMix_nil ?_
            go_wp2
            go_roundw
            case rel => exact ⟨k + 1, by omega, by omega, by go_num, _, rfl, H3.out⟩
            case measure => simp [intOf]; omega
        · have b2 : (((nthR ls k).length : Int) == 2) = false := beq_eq_false_iff_ne.2 (by omega)
          by_cases hl3 : (nthR ls k).length = 3
          · rw [hl3] at hcell
            have hml := H2.out.ok.mem
            have hrl := H2.out.ok.len
            have hmm := H2.out.ok.many
            have HC := Lib.hid (ls_Flush wr P b m H2.out.file (by omega) (by omega))
            have HL2 := Lib.hid ((Ls.lastOf_flush m ask).trans HLA.out)
            clear hc' hA' hl1 hl2 hl3 hkb b1 b2 hml hrl hmm
            go_wp2_with (go_at_call 34; (with_reducible refine useC HC.out ?_); intro e w3 ha; obtain ⟨rfl, hs, -⟩ := H2.out.turn H2.out.ok.flush ha; have H3 : Hid (∃ P m, LsI w w3 P b m ∧ Ls.lastOf m ask = la) := ⟨_, _, hs, HL2.out⟩; clear ha hs HC)
            go_roundw
            case rel => exact ⟨k + 1, by omega, by omega, by go_num, _, rfl, H3.out⟩
            case measure => simp [intOf]; omega
          · have b3 : (((nthR ls k).length : Int) == 3) = false := beq_eq_false_iff_ne.2 (by omega)
            by_cases hl4 : (nthR ls k).length = 4
            · rw [hl4] at hcell
              have HC := Lib.hid (ls_Merge wr P b m H2.out.file H2.out.ok)
              have HL2 := Lib.hid ((Ls.lastOf_merge H2.out.ok ask).trans HLA.out)
              clear hc' hA' hl1 hl2 hl3 hl4 hkb b1 b2 b3
              go_wp2_with (go_at_call 35; (with_reducible refine useC HC.out ?_); intro e w3 ha; obtain ⟨rfl, hs, -⟩ := H2.out.turn H2.out.ok.merge ha; have H3 : Hid (∃ P m, LsI w w3 P b m ∧ Ls.lastOf m ask = la) := ⟨_, _, hs, HL2.out⟩; clear ha hs HC)
              go_roundw
              case rel => exact ⟨k + 1, by omega, by omega, by go_num, _, rfl, H3.out⟩
              case measure => simp [intOf]; omega
            · have b4 : (((nthR ls k).length : Int) == 4) = false := beq_eq_false_iff_ne.2 (by omega)
              clear hc' hA' hl1 hl2 hl3 hl4 hkb
              go_wp2
              go_roundw
              case rel => exact ⟨k + 1, by omega, by omega, by go_num, _, rfl, P, m, H2.out, HLA.out⟩
              case measure => simp [intOf]; omega
    · have HS2 := Lib.hid hS2
      have HCG := Lib.hid (ls_Get wr P b m ask hS2.file hS2.ok)
      have HLG := Lib.hid (Ls.lastOf_get m ask)
      have HKH := Lib.hid (Ls.keys_has m ask)
      rw [hla] at HLG HKH
      have HKS := Lib.hid (fun W (hW : Fr [] wr W) => ls_Keys W P b m (hS2.file.keep hW) hS2.ok)
      have HEW := Lib.hid (fun W (hW : Fr [] wr W) => show ErrType W from ((hS2.fr.trans hW).cell (p := ⟨0, 0, none⟩) HET.out (by simp)))
      have HFR := Lib.hid hS2.fr
      clear hS hS2 hla HLA HF HN HET
      have hend : Hid (¬ ((k : Int) < ls.length) ∨ ((k : Int) < ls.length ∧ ¬ (k : Int) < 80)) := by
        by_cases h : k < ls.length
        · exact .inr ⟨by omega, by omega⟩
        · exact .inl (by omega)
      by_cases hneg : la < 0
      · obtain ⟨e1, e2⟩ := HLG.out.1 hneg
        rw [e1, e2] at HCG
        have hkf : decide (0 ≤ la) = false := decide_eq_false (by omega)
        rw [hkf] at HKH
        clear HLG e1 e2 hkf hin
        rcases hend.out with j1 | ⟨j1, j2⟩
        all_goals
          clear hend
          go_wp2_with (first
            | (go_at_call 36; (with_reducible refine useC HCG.out ?_); rintro e w4 ⟨rfl, hf⟩; have HF4 := Lib.hid hf; have HER := Lib.hid (error_yes 5 w4 (HEW.out w4 hf)); rw [errV_no (by decide)]; rw [errV_no (by decide)] at HER; clear hf)
            | (have HF4' := HF4; go_at_call 12; (with_reducible refine useC HER.out ?_); rintro e w5 ⟨rfl, hf⟩; have HF5 := Lib.hid (HF4.out.trans hf); clear hf)
            | (have HF5' := HF5; go_at_call 37; (with_reducible refine useC (HKS.out w5 HF5.out) ?_); rintro e w6 ⟨v6, g6, rfl, -, hs6, hf⟩; have HF6 := Lib.hid (HF5.out.trans hf); have HS6 := Lib.hid hs6; clear hf hs6)
            | (have HF6' := HF6; go_at_call 21; (with_reducible refine useC (has_any w6 _ g6 _ ask HS6.out) ?_); rw [HKH.out]; rintro e w6 ⟨rfl, rfl⟩))
          go_ret
          exact ⟨rfl, HFR.out.trans HF6.out⟩
      · obtain ⟨e1, e2⟩ := HLG.out.2 hneg
        rw [e1, e2, show errV 0 = .nilIface from rfl] at HCG
        have hkf : decide (0 ≤ la) = true := decide_eq_true (by omega)
        rw [hkf] at HKH
        clear HLG e1 e2 hkf hin
        rcases hend.out with j1 | ⟨j1, j2⟩
        all_goals
          clear hend
          go_wp2_with (first
            | (go_at_call 36; (with_reducible refine useC HCG.out ?_); rintro e w4 ⟨rfl, hf⟩; have HF4 := Lib.hid hf; clear hf)
            | (have HF4' := HF4; go_at_call 37; (with_reducible refine useC (HKS.out w4 HF4.out) ?_); rintro e w6 ⟨v6, g6, rfl, -, hs6, hf⟩; have HF6 := Lib.hid (HF4.out.trans hf); have HS6 := Lib.hid hs6; clear hf hs6)
            | (have HF6' := HF6; go_at_call 21; (with_reducible refine useC (has_any w6 _ g6 _ ask HS6.out) ?_); rw [HKH.out]; rintro e w6 ⟨rfl, rfl⟩))
          go_ret
          exact ⟨rfl, HFR.out.trans HF6.out⟩
end Go.Proofs.YtokbhiokcoldbaaDoor
