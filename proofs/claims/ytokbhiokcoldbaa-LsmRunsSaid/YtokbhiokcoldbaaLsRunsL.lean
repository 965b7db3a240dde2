/- The law LsmRuns. -/
import Derived.Test.YtokbhiokcoldbaaLsSt
import Derived.Test.YtokbhiokcoldbaaCIn3
import Derived.Test.YtokbhiokcoldbaaCSum
namespace Go.Proofs.Ytokbhiokcoldbaa
open Go.RowKit

namespace Ls
theorem lens_sum : ∀ (rs : List (List E)), sumL (rs.map fun l => (l.length : Int)) = (rs.flatten.length : Int)
  | [] => rfl
  | l :: r => by
    have e : sumL ((l :: r).map fun l => (l.length : Int)) = (l.length : Int) + sumL (r.map fun l => (l.length : Int)) := rfl
    rw [e, lens_sum r, List.flatten_cons, List.length_append]
    omega
theorem lens_nth (m : M) (i : Nat) (h : i < m.runs.length) : nth (lens m) i = ((m.runs.getD i []).length : Int) := by
  unfold nth lens
  simp [List.getD, h]
theorem lens_len (m : M) : (lens m).length = m.runs.length := by unfold lens; rw [List.length_map]
theorem lens_small {m : M} (h : OK m) : ∀ x ∈ lens m, 0 ≤ x ∧ x ≤ 100000 := fun x hx => by
  unfold lens at hx
  obtain ⟨l, hl, rfl⟩ := List.mem_map.1 hx
  have h1 := (List.sublist_flatten_of_mem hl).length_le
  have h2 := h.tot
  have h3 := h.many
  omega
theorem keys_nth (m : M) (i : Nat) (h : i + 1 < (keys m).length) : nth (keys m) i < nth (keys m) (i + 1) := by
  have := List.pairwise_iff_getElem.1 (keys_up m) i (i + 1) (by omega) h (by omega)
  simpa [nth, List.getD, h, show i < (keys m).length by omega] using this
end Ls
set_option maxRecDepth 100000 in
set_option maxHeartbeats 2000000 in
theorem ls_runsL (w : World) (v : Value) (ls : List (List Int)) (hR : Rw w.heap.size w v ls) : Calls Try.prog 6 #[v] w (OkT w) := by
  obtain ⟨A0, g0, o0, cc0, hv0, hm0, hF0⟩ := hR
  have HR0 : Hid (Rw w.heap.size w v ls) := ⟨A0, g0, o0, cc0, hv0, hm0, hF0⟩
  subst hv0
  clear hF0 hm0
  go_enter Try.func6, Try.ntmps6
  go_wp2_with (first
    | (go_at_call 19; (with_reducible refine useC (ls_fact w) ?_); rintro e w1 ⟨rfl, hf⟩; have HF1 := Lib.hid hf; have HR1 := Lib.hid (HR0.out.mono1 hf); clear hf)
    | (go_at_call 20; (with_reducible refine useC (ls_filled w1 _ ls HR1.out) ?_); rintro e w2 ⟨b, P, m, rfl, hS⟩; have HS2 := Lib.hid hS; have HF2 := Lib.hid (HF1.out.trans hS.fr); have HC2 := Lib.hid (ls_Runs w2 P b m hS.file hS.ok); clear hS)
    | (go_at_call 21; (with_reducible refine useC HC2.out ?_); rintro e w3 hn; obtain ⟨v3, rfl, hr, hf⟩ := RowO.ofRn HS2.out hn; have HS3 := Lib.hid (HS2.out.step hf); have HF3 := Lib.hid (HF2.out.trans hf); obtain ⟨g3, -, hs3⟩ := hr; have HL3 := Lib.hid hs3; obtain ⟨A3, o3, c3, hv3, -, hA3, hc3⟩ := hs3.form; subst hv3; have HA3 := Lib.hid hA3; have HC3 := Lib.hid hc3; clear hA3 hc3; have hml := decide_eq_true (show (0 : Int) ≤ (m.mem.length : Int) ∧ (m.mem.length : Int) ≤ 3 from ⟨by omega, by have := HS2.out.ok.mem; omega⟩); clear hn hf hs3 HC2)
    | (have hml' := hml; go_at_call 11; (with_reducible refine useC (in3_is _ _ _ true _ hml) ?_); rintro e w3 ⟨rfl, rfl⟩))
  have HKS := Lib.hid (ls_Keys w3 P b m HS3.out.file HS3.out.ok)
  have HRN := Lib.hid HS3.out.ok.runs
  have HLN := Lib.hid (Ls.lens_nth m)
  have HSM := Lib.hid (Ls.lens_small HS3.out.ok)
  have hLL := Ls.lens_len m
  have hn60 : (Ls.lens m).length ≤ 60 := by have := HS3.out.ok.len; have := HS3.out.ok.many; omega
  have HKL : Hid (((Ls.keys m).length : Int) ≤ (m.mem.length : Int) + sumL (Ls.lens m)) := by
    have h1 := Ls.keys_len m
    have h2 := Ls.lens_sum m.runs
    show _ ≤ _
    unfold Ls.lens
    rw [h2]
    omega
  have HSB := Lib.hid (sumL_le (Ls.lens m) (Ls.lens_small HS3.out.ok))
  have HKN := Lib.hid (Ls.keys_nth m)
  have HLLE := Lib.hid hLL
  have hmm3 : (m.mem.length : Int) ≤ 3 := by have := HS3.out.ok.mem; omega
  have HM0 : Hid ((0 : Int) ≤ m.mem.length) := by show (0 : Int) ≤ _; omega
  clear hLL hml HS3 HS2 HF2 HF1 HR1 HR0
  go_wp2_with fail
  go_loop [7] (fun i => ∃ k : Nat, k ≤ (Ls.lens m).length ∧ i = .int .i64 k) (fun i => (Ls.lens m).length - (intOf i).toNat)
  case atStart => exact ⟨0, Nat.zero_le _, rfl⟩
  case round =>
    obtain ⟨k, hk, rfl⟩ := hrel
    have hkw : IntKind.i64.wrap ((k : Int) + 1) = (k : Int) + 1 := by rw [IntKind.wrap_i64]; omega
    by_cases hlt : k + 1 < (Ls.lens m).length
    · have kI : (k : Int) + 1 < (Ls.lens m).length := by omega
      have kJ : (k : Int) < (Ls.lens m).length := by omega
      have k0 : (0 : Int) ≤ k := by omega
      obtain rfl := HA3.out (by omega)
      have q := HC3.out k (by omega)
      have hr := HRN.out k (by rw [← HLLE.out]; exact hlt)
      have hx := HLN.out k (by rw [← HLLE.out]; omega)
      have hd := decide_eq_true (show (1 : Int) ≤ nth (Ls.lens m) k ∧ nth (Ls.lens m) k ≤ 4 from by rw [hx]; omega)
      clear hr hx
      generalize nth (Ls.lens m) k = y at *
      go_wp2_with (go_at_call 11; (with_reducible refine useC (in3_is _ _ _ true _ hd) ?_); rintro e w3 ⟨rfl, rfl⟩)
      go_round
      case rel => exact ⟨k + 1, by omega, by go_num⟩
      case measure => (simp [intOf]; try omega)
    · have kI : ¬ (k : Int) + 1 < (Ls.lens m).length := by omega
      go_wp2_with (go_at_call 22; (with_reducible refine useC HKS.out ?_); rintro e w4 ⟨v4, g4, rfl, -, hs4, hf4⟩; obtain ⟨A4, o4, c4, rfl, -, hA4, hc4⟩ := hs4.form; have HA4 := Lib.hid hA4; have HC4 := Lib.hid (fun W (hW : Fr [] w4 W) i hi => hW.cell (hc4 i hi) (by simp)); have HF4 := Lib.hid (HF3.out.trans hf4); have HL4 := Lib.hid (HL3.out.fr hf4 (by simp)); clear hs4 hf4 hA4 hc4)
      clear HKS HRN HLN HC3 HA3 HL3 HF3
      have hk60 : (Ls.keys m).length ≤ 10000000 := by have h1 := HKL.out; have h2 := HSB.out; omega
      go_loopw [9] (fun i wr => ∃ j : Nat, 1 ≤ j ∧ j ≤ (Ls.keys m).length + 1 ∧ i = .int .i64 j ∧ Hid (Fr [] w4 wr)) (fun i _ => (Ls.keys m).length + 1 - (intOf i).toNat)
      case atStart => exact ⟨1, Nat.le_refl _, by omega, rfl, Fr.refl _ _⟩
      case round =>
        obtain ⟨j, hj1, hj, rfl, hF⟩ := hrel
        by_cases hjl : j < (Ls.keys m).length
        · have jI : (j : Int) < (Ls.keys m).length := by omega
          obtain ⟨i, hi⟩ : ∃ i, j = i + 1 := ⟨j - 1, by omega⟩
          have e1 : (j : Int) - 1 = (i : Int) := by omega
          have e2 : IntKind.i64.wrap (i : Int) = (i : Int) := by rw [IntKind.wrap_i64]; omega
          have iI : (i : Int) < (Ls.keys m).length := by omega
          have i0 : (0 : Int) ≤ i := by omega
          have j0 : (0 : Int) ≤ j := by omega
          obtain rfl := HA4.out (by omega)
          have q1 := HC4.out wr hF.out i (by omega)
          have q2 := HC4.out wr hF.out j hjl
          have hlt2 := HKN.out i (by omega)
          rw [← hi] at hlt2
          have hge : ¬ (nth (Ls.keys m) j ≤ nth (Ls.keys m) i) := by omega
          have HQ := Lib.hid (fun W (hW : Fr [] wr W) => And.intro (hW.cell q1 (by simp)) (hW.cell q2 (by simp)))
          generalize nth (Ls.keys m) i = y1 at *
          generalize nth (Ls.keys m) j = y2 at *
          have HI := Lib.hid hi
          clear hi hlt2
          go_wp2_with fail
          (refine wp_region_mixq 9 [(true, 0), (true, 1), (true, 2), (true, 3), (true, 4), (true, 5), (true, 6), (true, 7), (true, 8)] (by kernel_rfl) (by kernel_rfl) ?_; simp only [pickOps, List.map_cons, List.map_nil, List.getD_cons_zero, List.getD_cons_succ, List.drop_succ_cons, List.drop_zero]; (iterate 9 (first | (refine wpMix_take (v := ?_) (by rfl) ?_ ?_; rotate_left; (focus (intro W hW; subst hW; go_simp; (try with_reducible rfl); done)); try simp only [Act.put, List.setIfInBounds_toArray, List.set_cons_zero, List.set_cons_succ]) | (refine wpMix_leave (by rfl) ?_; try simp only [Act.put, List.setIfInBounds_toArray, List.set_cons_zero, List.set_cons_succ]))); refine wpMix_nil ?_)
          go_wp2
          go_roundw
          case rel => exact ⟨j + 1, by omega, by omega, by go_num, hF.out.trans (Fr.refl [] wr).drew⟩
          case measure => (simp [intOf]; try omega)
        · have jI : ¬ (j : Int) < (Ls.keys m).length := by omega
          have hsum := sum_any wr _ g3 (Ls.lens m) (HL4.out.fr hF.out (by simp)) (by omega) HSM.out
          have HSU := Lib.hid hsum
          have HFW := Lib.hid (HF4.out.trans hF.out)
          have hkl := HKL.out
          have ⟨hs0, hs1⟩ := HSB.out
          have hm0 := HM0.out
          have hwr : IntKind.i64.wrap ((m.mem.length : Int) + sumL (Ls.lens m)) = (m.mem.length : Int) + sumL (Ls.lens m) := by rw [IntKind.wrap_i64]; omega
          clear hsum hs0 hs1 hm0
          generalize sumL (Ls.lens m) = SU at *
          go_wp2_with (go_at_call 23; (with_reducible refine useC HSU.out ?_); rintro e wr ⟨rfl, rfl⟩)
          go_ret
          exact ⟨rfl, HFW.out⟩
end Go.Proofs.Ytokbhiokcoldbaa
