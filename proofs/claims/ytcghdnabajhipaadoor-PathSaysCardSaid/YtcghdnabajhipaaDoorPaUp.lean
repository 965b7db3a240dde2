/- The walk of PathUp: whatever came in, the answer is true. -/
import Derived.Test.YtcghdnabajhipaaDoorPaLaws
namespace Go.Proofs.YtcghdnabajhipaaDoor
open Go.RowKit

theorem str_append (a : ByteArray) (l : List UInt8) : (a ++ (⟨l.toArray⟩ : ByteArray)).data.toList = a.data.toList ++ l := by simp
theorem SlR.last {w : World} {A : Option Addr} {n c g : Nat} {l : List (List UInt8)} (h : SlR strE w (.slice A n c) g l) (h0 : l ≠ []) : SlR strE w (.slice A (n - 1) c) g l.dropLast := by
  rcases h with ⟨h, _⟩ | ⟨o, c', he, h1, h2, h3⟩
  · exact absurd h h0
  · injection he with e1 e2 e3
    subst e1 e2 e3
    refine .inr ⟨o, c, by rw [List.length_dropLast], by rw [List.length_dropLast]; omega, h2, fun i hi r hr => ?_⟩
    rw [List.length_dropLast] at hi
    rw [List.getElem_dropLast]
    exact h3 i (by omega) r hr
set_option maxRecDepth 100000 in
set_option maxHeartbeats 2000000 in
theorem path_up (w : World) (a : ByteArray) : Calls Tryd.prog 4 #[.string a] w (OkT w) := by
  by_cases hc : (Pa.parts a.data.toList).2 = 0
  · obtain ⟨l, hl⟩ : ∃ l, Pa.parts a.data.toList = (l, 0) := ⟨_, by rw [← hc]⟩
    have HP1 := Lib.hid (fun W => (pa_Parts a W).mono (fun e w' h => PaP.ok hl h))
    by_cases h57 : a.size ≤ 57
    · have hI : ¬ (57 : Int) < a.size := by omega
      have hup := Pa.parts_up hl (by rw [← Lib.size_eq]; exact h57)
      have HP2 := Lib.hid (fun W => (pa_Parts (a ++ ⟨#[47, 46, 46]⟩) W).mono (fun e w' h => PaP.ok (l := l.dropLast) (by rw [show (⟨#[47, 46, 46]⟩ : ByteArray) = ⟨([47, 46, 46] : List UInt8).toArray⟩ from rfl, str_append]; exact hup) h))
      have hl8 := (Pa.parts_ok hl).2.2.2
      clear hc hl hup
      go_enter Tryd.func4, Tryd.ntmps4
      go_wp2_with fail
      (refine useC (pa_fact w) ?_); rintro e w0 ⟨rfl, hF0⟩
      have HF0 := Lib.hid hF0
      clear hF0
      go_wp2_with fail
      (refine useC (HP1.out w0) ?_); rintro e w1 ⟨v1, g1, rfl, hs1, hf⟩
      have HF1 := Lib.hid (HF0.out.trans hf)
      obtain ⟨A1, o1, c1, rfl, -, -, -⟩ := hs1.form
      have HS1 := Lib.hid hs1
      clear hf HP1 hs1
      go_wp2_with fail
      (refine useC (HP2.out w1) ?_); rintro e w2 ⟨v2, g2, rfl, hs2, hf⟩
      have HF2 := Lib.hid (HF1.out.trans hf)
      obtain ⟨A2, o2, c2, rfl, -, -, -⟩ := hs2.form
      have HS2 := Lib.hid hs2
      have HS12 := Lib.hid (HS1.out.fr hf (by simp))
      clear hf HP2 hs2
      by_cases h0 : l = []
      · subst h0
        go_wp2
        go_ret
        exact ⟨rfl, HF2.out⟩
      · have hpos : 0 < l.length := List.length_pos_iff.2 h0
        have e0 : ((l.length : Int) == 0) = false := beq_eq_false_iff_ne.2 (by omega)
        obtain ⟨k, hk⟩ : ∃ k : Nat, l.length = k + 1 := ⟨l.length - 1, by omega⟩
        have hsl := HS12.out.last h0
        rw [hk] at hsl e0 ⊢
        have e1 : ((k + 1 : Nat) : Int) - 1 = k := by omega
        have hT := texts_same w2 _ _ _ _ l.dropLast HS2.out hsl
        have ew : IntKind.i64.wrap (k : Int) = k := IntWalk.i64_in _ (by omega)
        have kc : (k : Int) ≤ c1 := by
          rcases HS1.out with ⟨h, _⟩ | ⟨o, c, he, h1, _⟩
          · exact absurd h h0
          · injection he with _ _ e3
            omega
        have k0 : (0 : Int) ≤ k := by omega
        have hdl : l.dropLast.length = k := by rw [List.length_dropLast, hk]; rfl
        rw [show k + 1 - 1 = k from rfl, hdl] at hT
        rw [hdl]
        have HT := Lib.hid hT
        clear hT hsl h0 hpos hk hdl
        go_wp2_with (go_at_call 15; (with_reducible refine useC HT.out ?_); rintro e w3 ⟨rfl, hf3⟩; have HF3 := Lib.hid hf3; clear hf3)
        go_ret
        exact ⟨rfl, HF2.out.trans HF3.out⟩
    · have hI : (57 : Int) < a.size := by omega
      clear hc hl
      go_enter Tryd.func4, Tryd.ntmps4
      go_wp2_with fail
      (refine useC (pa_fact w) ?_); rintro e w0 ⟨rfl, hF0⟩
      have HF0 := Lib.hid hF0
      clear hF0
      go_wp2_with fail
      (refine useC (HP1.out w0) ?_); rintro e w1 ⟨v1, g1, rfl, hs1, hf⟩
      have HF1 := Lib.hid (HF0.out.trans hf)
      clear hf HP1 hs1
      go_wp2
      go_ret
      exact ⟨rfl, HF1.out⟩
  · have HP := Lib.hid (fun W => pa_Parts a W)
    unfold PaP at HP
    generalize (Pa.parts a.data.toList).2 = c at *
    go_enter Tryd.func4, Tryd.ntmps4
    go_wp2_with fail
    (refine useC (pa_fact w) ?_); rintro e w0 ⟨rfl, hF0⟩
    have HF0 := Lib.hid hF0
    clear hF0
    go_wp2_with fail
    (refine useC (HP.out w0) ?_); rintro e w1 ⟨v1, g1, rfl, -, hf⟩
    have HF1 := Lib.hid (HF0.out.trans hf)
    rw [errV_no hc]
    clear hf HP
    go_wp2
    go_ret
    exact ⟨rfl, HF1.out⟩
end Go.Proofs.YtcghdnabajhipaaDoor
