/- The walks of PathClean, PathUp, PathJoin: whatever came in, the answer is true. -/
import Derived.Test.YtcghdnabajhipaaDoorPaTexts
namespace Go.Proofs.YtcghdnabajhipaaDoor
open Go.RowKit

theorem Pa.clean_ok {s : List UInt8} {l : List (List UInt8)} (h : Pa.parts s = (l, 0)) : Pa.clean s = (Pa.shown l, 0) := by unfold Pa.clean; rw [h]; rfl
theorem Pa.clean_err {s : List UInt8} (h : (Pa.parts s).2 ≠ 0) : Pa.clean s = ([], (Pa.parts s).2) := if_neg h
theorem Pa.long_le {s : List UInt8} {l : List (List UInt8)} (h : Pa.parts s = (l, 0)) : Pa.long l ≤ 60 := by
  have h1 := Pa.shown_le h
  have h2 := (Pa.parts_ok h).1
  unfold Pa.shown at h1
  split at h1
  · rename_i h0; subst h0; decide
  · rw [Pa.flat_len] at h1; omega
theorem PaP.ok {s : List UInt8} {w w' : World} {e : Ending} {l : List (List UInt8)} (h : Pa.parts s = (l, 0)) (hp : PaP s w e w') : ∃ v g, e = .returned (.tuple #[v, .nilIface]) ∧ SlR strE w' v g l ∧ Fr [] w w' := by
  obtain ⟨v, g, h1, h2, h3⟩ := hp
  rw [h] at h1 h2
  exact ⟨v, g, h1, h2, h3⟩
set_option maxRecDepth 100000 in
set_option maxHeartbeats 2000000 in
theorem path_clean (w : World) (a : ByteArray) : Calls Tryd.prog 3 #[.string a] w (OkT w) := by
  have HC := Lib.hid (fun W => pa_Clean a W)
  by_cases hc : (Pa.parts a.data.toList).2 = 0
  · obtain ⟨l, hl⟩ : ∃ l, Pa.parts a.data.toList = (l, 0) := ⟨_, by rw [← hc]⟩
    have hl2 := Pa.parts_shown hl
    rw [Pa.clean_ok hl] at HC
    have HC2 := Lib.hid (fun W => pa_Clean (Pa.mk (Pa.shown l)) W)
    rw [Pa.mk_list, Pa.clean_ok hl2] at HC2
    have HP1 := Lib.hid (fun W => (pa_Parts a W).mono (fun e w' h => PaP.ok hl h))
    have HP2 := Lib.hid (fun W => (pa_Parts (Pa.mk (Pa.shown l)) W).mono (fun e w' h => PaP.ok (l := l) (by rw [Pa.mk_list]; exact hl2) h))
    have hle : ((Pa.mk (Pa.shown l)).size : Int) ≤ a.size := by
      have := Pa.shown_le hl
      rw [Pa.mk_size, Lib.size_eq]
      omega
    have HLO := Lib.hid (Pa.long_le hl)
    dsimp only at HC HC2
    rw [show errV 0 = .nilIface from rfl] at HC HC2
    have HSW := Lib.hid (fun W v g (h : SlR strE W v g l) => pa_Shown W v g l h (Nat.le_trans HLO.out (by decide)))
    clear hc hl hl2
    generalize Pa.mk (Pa.shown l) = m at *
    go_enter Tryd.func3, Tryd.ntmps3
    go_wp2_with fail
    (refine useC (pa_fact w) ?_); rintro e w0 ⟨rfl, hF0⟩
    have HF0 := Lib.hid hF0
    clear hF0
    go_wp2_with fail
    (refine useC (HC.out w0) ?_); rintro e w1 ⟨rfl, hf⟩
    have HF1 := Lib.hid (HF0.out.trans hf)
    clear hf HC
    go_wp2_with fail
    (refine useC (HC2.out w1) ?_); rintro e w2 ⟨rfl, hf⟩
    have HF2 := Lib.hid (HF1.out.trans hf)
    clear hf HC2
    go_wp2_with fail
    (refine useC (HP1.out w2) ?_); rintro e w3 ⟨v3, g3, rfl, hs3, hf⟩
    have HF3 := Lib.hid (HF2.out.trans hf)
    have HS3 := Lib.hid hs3
    clear hf hs3
    go_wp2_with fail
    (refine useC (HP2.out w3) ?_); rintro e w4 ⟨v4, g4, rfl, hs4, hf⟩
    have HF4 := Lib.hid (HF3.out.trans hf)
    have HT := Lib.hid (texts_same w4 v3 v4 g3 g4 l (HS3.out.fr hf (by simp)) hs4)
    have HS4 := Lib.hid hs4
    clear hf hs4 HS3 HF0 HF1 HF2 HF3 HP1 HP2
    go_wp2_with (first
      | (go_at_call 15; (with_reducible refine useC HT.out ?_); rintro e w5 ⟨rfl, hf5⟩; have HF5 := Lib.hid hf5; clear hf5)
      | (go_at_call 16; (with_reducible refine useC (HSW.out _ _ _ (HS4.out.fr HF5.out (by simp))) ?_); rintro e w6 ⟨rfl, rfl⟩))
    go_ret
    exact ⟨rfl, HF4.out.trans HF5.out⟩
  · rw [Pa.clean_err hc] at HC
    dsimp only at HC
    rw [errV_no hc] at HC
    have q0 : (Pa.mk []).toList.isEmpty = true := by rw [mk_toList]; rfl
    generalize (Pa.parts a.data.toList).2 = c at *
    generalize Pa.mk [] = m at *
    go_enter Tryd.func3, Tryd.ntmps3
    go_wp2_with fail
    (refine useC (pa_fact w) ?_); rintro e w0 ⟨rfl, hF0⟩
    have HF0 := Lib.hid hF0
    clear hF0
    go_wp2_with fail
    (refine useC (HC.out w0) ?_); rintro e w1 ⟨rfl, hf⟩
    have HF1 := Lib.hid (HF0.out.trans hf)
    clear hf HC
    go_wp2
    go_ret
    exact ⟨rfl, HF1.out⟩
end Go.Proofs.YtcghdnabajhipaaDoor
