/- The walk of PathSays: whatever came in, the answer is true. -/
import Derived.Test.YtcghdnabajhipaaDoorPaRefP
import Derived.Test.YtcghdnabajhipaaDoorPaJoin
import Derived.Test.YtcghdnabajhipaaDoorErr2
namespace Go.Proofs.YtcghdnabajhipaaDoor
open Go.RowKit

/-- What the document's Parts gives, and what is shown of it. -/
theorem says_step (x : List UInt8) : ∃ l c, Pa.parts x = (l, c) ∧ Pa.clean x = (if c = 0 then Pa.shown l else [], c) ∧ (c = 0 → Pa.long l ≤ 100000) := by
  obtain ⟨l, c, h⟩ : ∃ l c, Pa.parts x = (l, c) := ⟨_, _, rfl⟩
  refine ⟨l, c, h, ?_, fun hc => ?_⟩
  · by_cases hc : c = 0
    · subst hc; rw [Pa.clean_ok h, if_pos rfl]
    · rw [Pa.clean_err (by rw [h]; exact hc), if_neg hc, h]
  · subst hc; exact Nat.le_trans (Pa.long_le h) (by decide)
set_option maxRecDepth 100000 in
set_option maxHeartbeats 8000000 in
theorem path_says (w : World) (a b : ByteArray) (ha : a.size ≤ 140737488351232) (hb : b.size ≤ 140737488351232) (hE : ErrType w) :
    Calls Tryd.prog 6 #[.string a, .string b] w (OkT w) := by
  have HE := Lib.hid (fun W (hW : Fr [] w W) c => error_yes c W (hE.fr hW (by simp)))
  obtain ⟨l, c, hl, hcl, hll⟩ := says_step a.data.toList
  have HM := Lib.hid (fun W => m_Parts a W)
  have HP := Lib.hid (fun W => pa_Parts a W)
  have HC := Lib.hid (fun W => pa_Clean a W)
  have HN := Lib.hid (fun W => pa_Name a W)
  have HR := Lib.hid (fun W => m_Name a W (Nat.le_trans ha (by decide)))
  unfold RpA at HM
  unfold PaP at HP
  rw [hl] at HM HP
  rw [hcl] at HC
  dsimp only at HM HP HC
  have HSH := Lib.hid (fun (hc : c = 0) W v g (h : SlR strE W v g l) => pa_Shown W v g l h (hll hc))
  clear hl hcl hll
  generalize decide (Pa.IsName a.data.toList) = nm at *
  -- both
  obtain ⟨x, hx⟩ : ∃ x, x = if b.data.toList.head? = some 47 then b.data.toList else a.data.toList ++ 47 :: b.data.toList := ⟨_, rfl⟩
  have HJ := Lib.hid (fun W => pa_Join a b W x hx (Nat.le_trans ha (by decide)) (Nat.le_trans hb (by decide)))
  obtain ⟨l2, c2, hl2, hcl2, hll2⟩ := says_step x
  rw [hcl2] at HJ
  dsimp only at HJ
  have HSH2 := Lib.hid (fun (hc : c2 = 0) W v g (h : SlR strE W v g l2) => pa_Shown W v g l2 h (hll2 hc))
  clear hcl2 hll2
  have hsz : a.size ≤ 140737488351232 := ha
  have hbs : b.size ≤ 140737488351232 := hb
  have hcase : (b.size = 0 ∧ x = (a ++ ⟨#[47]⟩ ++ b).data.toList) ∨ (∃ h : 0 < b.size, (b[0]'h).toNat = 47 ∧ x = b.data.toList) ∨ (∃ h : 0 < b.size, (b[0]'h).toNat ≠ 47 ∧ x = (a ++ ⟨#[47]⟩ ++ b).data.toList) := by
    rw [join_bytes]
    rcases Nat.eq_zero_or_pos b.size with h0 | h0
    · refine .inl ⟨h0, ?_⟩
      have : b.data.toList = [] := List.eq_nil_of_length_eq_zero (by rw [← Lib.size_eq]; exact h0)
      rw [hx, if_neg (by rw [this]; simp)]
    · have hlt : 0 < b.data.toList.length := by rw [← Lib.size_eq]; exact h0
      have h1 := bt_at b 0 h0
      have h2 := bt_eq b 0 hlt
      have h3 : b.data.toList.head? = some b.data.toList[0] := by rw [List.head?_eq_getElem?, List.getElem?_eq_getElem hlt]
      by_cases h : bt b 0 = 47
      · exact .inr (.inl ⟨h0, by omega, by rw [hx, if_pos (by rw [h3, h2.2 h])]⟩)
      · exact .inr (.inr ⟨h0, by omega, by rw [hx, if_neg (fun e => h (h2.1 (by rw [h3] at e; exact Option.some.inj e)))]⟩)
  clear hx ha hb hE
  go_enter Tryd.func6, Tryd.ntmps6
  go_wp2_with fail
  (refine useC (HM.out w) ?_); rintro e w1 ⟨v1, g1, rfl, hs, hf⟩
  have HF1 := Lib.hid hf
  have HS1 := Lib.hid hs
  clear hs hf HM
  have hcc : ((c == 0) = true ∧ c = 0) ∨ ((c == 0) = false ∧ c ≠ 0) := by
    by_cases h : c = 0
    · exact .inl ⟨beq_iff_eq.2 h, h⟩
    · exact .inr ⟨beq_eq_false_iff_ne.2 h, h⟩
  have hcc2 : ((c2 == 0) = true ∧ c2 = 0) ∨ ((c2 == 0) = false ∧ c2 ≠ 0) := by
    by_cases h : c2 = 0
    · exact .inl ⟨beq_iff_eq.2 h, h⟩
    · exact .inr ⟨beq_eq_false_iff_ne.2 h, h⟩
  have HCC := Lib.hid hcc
  have HCC2 := Lib.hid hcc2
  have HCS := Lib.hid hcase
  clear hcc hcc2 hcase
  have hm : ∃ m, Pa.mk (if c = 0 then Pa.shown l else []) = m := ⟨_, rfl⟩
  have hm2 : ∃ m, Pa.mk (if c2 = 0 then Pa.shown l2 else []) = m := ⟨_, rfl⟩
  obtain ⟨m, hm⟩ := hm
  obtain ⟨m2, hm2⟩ := hm2
  rw [hm] at HC
  rw [hm2] at HJ
  have HW1 : Hid (c = 0 → ∀ W v g, SlR strE W v g l → Calls Tryd.prog 16 #[v] W fun e w' => e = .returned (.string m) ∧ w' = W) := fun hc W v g h => by
    have := HSH.out hc W v g h
    rw [if_pos hc] at hm
    rw [hm] at this
    exact this
  have HW2 : Hid (c2 = 0 → ∀ W v g, SlR strE W v g l2 → Calls Tryd.prog 16 #[v] W fun e w' => e = .returned (.string m2) ∧ w' = W) := fun hc W v g h => by
    have := HSH2.out hc W v g h
    rw [if_pos hc] at hm2
    rw [hm2] at this
    exact this
  have HZ1 : Hid (c ≠ 0 → m = ⟨#[]⟩) := fun hc => by rw [← hm, if_neg hc]; rfl
  have HZ2 : Hid (c2 ≠ 0 → m2 = ⟨#[]⟩) := fun hc => by rw [← hm2, if_neg hc]; rfl
  clear hm hm2 HSH HSH2
  rcases HCC.out with ⟨e0, hc0⟩ | ⟨e0, hc0⟩
  · have HSW := Lib.hid (HW1.out hc0)
    clear hc0 HW1 HZ1 HCC
    go_wp2_with (go_at_call 16; (with_reducible refine useC (HSW.out _ _ _ HS1.out) ?_); rintro e w1 ⟨rfl, rfl⟩; clear HSW)
    (refine useC (HP.out w1) ?_); rintro e w3 ⟨v3, g3, rfl, hs3, hf3⟩
    have HF3 := Lib.hid (HF1.out.trans hf3)
    have HT3 := Lib.hid (fun W (hW : Fr [] w3 W) => texts_same W _ _ _ _ _ (hs3.fr hW (by simp)) (HS1.out.fr (hf3.trans hW) (by simp)))
    clear hs3 hf3 HP HS1
    go_wp2_with fail
    (refine useC (HN.out w3) ?_); rintro e w4 ⟨rfl, hf⟩
    have HF34 := Lib.hid hf
    clear hf HN
    go_wp2_with fail
    (refine useC (HR.out w4) ?_); rintro e w4 ⟨rfl, rfl⟩
    go_wp2_with fail
    (refine useC (HE.out w4 (HF3.out.trans HF34.out) c) ?_); rintro e w5 ⟨rfl, hf⟩
    have HF35 := Lib.hid (HF34.out.trans hf)
    clear hf HF34
    go_wp2_with fail
    (refine useC (HT3.out w5 HF35.out) ?_); rintro e w6 ⟨rfl, hf⟩
    have HF6 := Lib.hid (HF3.out.trans (HF35.out.trans hf))
    clear hf HT3 HF35 HF3
    go_wp2_with fail
    (refine useC (HC.out w6) ?_); rintro e w7 ⟨rfl, hf⟩
    have HF7 := Lib.hid (HF6.out.trans hf)
    clear hf HC HF6
    go_wp2_with fail
    (refine useC (HE.out w7 HF7.out c) ?_); rintro e w8 ⟨rfl, hf⟩
    have HF8 := Lib.hid (HF7.out.trans hf)
    clear hf HF7
    have HXP : Hid (∀ S : ByteArray, x = S.data.toList → ∀ W, Calls Tryd.prog 19 #[.string S] W fun e w' => ∃ v g, e = .returned (.tuple #[v, .int .i64 c2]) ∧ SlR strE w' v g l2 ∧ Fr [] W w') := fun S hS W => by
      have := m_Parts S W
      unfold RpA at this
      rw [← hS, hl2] at this
      exact this
    rcases HCS.out with ⟨hb0, hx⟩ | ⟨hb0, hb1, hx⟩ | ⟨hb0, hb1, hx⟩
    all_goals
      have HX := Lib.hid (HXP.out _ hx)
      clear hx HXP HCS hl2
      first
        | (have i0 : ¬ (0 : Int) < b.size := (by omega); have i1 : b.size = 0 := hb0; clear hb0)
        | (have i0 : (0 : Int) < b.size := (by omega); have i2 : (((b[0]'hb0).toNat : Nat) : Int) = 47 := (by omega))
        | (have i0 : (0 : Int) < b.size := (by omega); have i2 : ((((b[0]'hb0).toNat : Nat) : Int) == 47) = false := beq_eq_false_iff_ne.2 (by omega))
      go_wp2_with fail
      (refine useC (HX.out w8) ?_); rintro e w9 ⟨v9, g9, rfl, hs9, hf9⟩
      have HF9 := Lib.hid (HF8.out.trans hf9)
      have HS9 := Lib.hid hs9
      clear hs9 hf9 HX
      rcases HCC2.out with ⟨e2, hc2⟩ | ⟨e2, hc2⟩
      · have HSW2 := Lib.hid (HW2.out hc2)
        clear hc2 HW2 HZ2 HCC2
        go_wp2_with (go_at_call 16; (with_reducible refine useC (HSW2.out _ _ _ HS9.out) ?_); rintro e w9 ⟨rfl, rfl⟩; clear HSW2)
        (refine useC (HJ.out w9) ?_); rintro e w10 ⟨rfl, hf⟩
        have HF10 := Lib.hid (HF9.out.trans hf)
        clear hf
        go_wp2_with fail
        (refine useC (HE.out w10 HF10.out c2) ?_); rintro e w11 ⟨rfl, hf⟩
        have HF11 := Lib.hid (HF10.out.trans hf)
        clear hf
        go_wp2
        go_ret
        exact ⟨rfl, HF11.out⟩
      · obtain rfl := HZ2.out hc2
        clear hc2 HW2 HZ2 HCC2
        go_wp2_with fail
        (refine useC (HJ.out w9) ?_); rintro e w10 ⟨rfl, hf⟩
        have HF10 := Lib.hid (HF9.out.trans hf)
        clear hf
        go_wp2_with fail
        (refine useC (HE.out w10 HF10.out c2) ?_); rintro e w11 ⟨rfl, hf⟩
        have HF11 := Lib.hid (HF10.out.trans hf)
        clear hf
        go_wp2
        go_ret
        exact ⟨rfl, HF11.out⟩
  · obtain rfl := HZ1.out hc0
    clear hc0 HW1 HZ1 HCC
    go_wp2_with fail
    (refine useC (HP.out w1) ?_); rintro e w3 ⟨v3, g3, rfl, hs3, hf3⟩
    have HF3 := Lib.hid (HF1.out.trans hf3)
    have HT3 := Lib.hid (fun W (hW : Fr [] w3 W) => texts_same W _ _ _ _ _ (hs3.fr hW (by simp)) (HS1.out.fr (hf3.trans hW) (by simp)))
    clear hs3 hf3 HP HS1
    go_wp2_with fail
    (refine useC (HN.out w3) ?_); rintro e w4 ⟨rfl, hf⟩
    have HF34 := Lib.hid hf
    clear hf HN
    go_wp2_with fail
    (refine useC (HR.out w4) ?_); rintro e w4 ⟨rfl, rfl⟩
    go_wp2_with fail
    (refine useC (HE.out w4 (HF3.out.trans HF34.out) c) ?_); rintro e w5 ⟨rfl, hf⟩
    have HF35 := Lib.hid (HF34.out.trans hf)
    clear hf HF34
    go_wp2_with fail
    (refine useC (HT3.out w5 HF35.out) ?_); rintro e w6 ⟨rfl, hf⟩
    have HF6 := Lib.hid (HF3.out.trans (HF35.out.trans hf))
    clear hf HT3 HF35 HF3
    go_wp2_with fail
    (refine useC (HC.out w6) ?_); rintro e w7 ⟨rfl, hf⟩
    have HF7 := Lib.hid (HF6.out.trans hf)
    clear hf HC HF6
    go_wp2_with fail
    (refine useC (HE.out w7 HF7.out c) ?_); rintro e w8 ⟨rfl, hf⟩
    have HF8 := Lib.hid (HF7.out.trans hf)
    clear hf HF7
    have HXP : Hid (∀ S : ByteArray, x = S.data.toList → ∀ W, Calls Tryd.prog 19 #[.string S] W fun e w' => ∃ v g, e = .returned (.tuple #[v, .int .i64 c2]) ∧ SlR strE w' v g l2 ∧ Fr [] W w') := fun S hS W => by
      have := m_Parts S W
      unfold RpA at this
      rw [← hS, hl2] at this
      exact this
    rcases HCS.out with ⟨hb0, hx⟩ | ⟨hb0, hb1, hx⟩ | ⟨hb0, hb1, hx⟩
    all_goals
      have HX := Lib.hid (HXP.out _ hx)
      clear hx HXP HCS hl2
      first
        | (have i0 : ¬ (0 : Int) < b.size := (by omega); have i1 : b.size = 0 := hb0; clear hb0)
        | (have i0 : (0 : Int) < b.size := (by omega); have i2 : (((b[0]'hb0).toNat : Nat) : Int) = 47 := (by omega))
        | (have i0 : (0 : Int) < b.size := (by omega); have i2 : ((((b[0]'hb0).toNat : Nat) : Int) == 47) = false := beq_eq_false_iff_ne.2 (by omega))
      go_wp2_with fail
      (refine useC (HX.out w8) ?_); rintro e w9 ⟨v9, g9, rfl, hs9, hf9⟩
      have HF9 := Lib.hid (HF8.out.trans hf9)
      have HS9 := Lib.hid hs9
      clear hs9 hf9 HX
      rcases HCC2.out with ⟨e2, hc2⟩ | ⟨e2, hc2⟩
      · have HSW2 := Lib.hid (HW2.out hc2)
        clear hc2 HW2 HZ2 HCC2
        go_wp2_with (go_at_call 16; (with_reducible refine useC (HSW2.out _ _ _ HS9.out) ?_); rintro e w9 ⟨rfl, rfl⟩; clear HSW2)
        (refine useC (HJ.out w9) ?_); rintro e w10 ⟨rfl, hf⟩
        have HF10 := Lib.hid (HF9.out.trans hf)
        clear hf
        go_wp2_with fail
        (refine useC (HE.out w10 HF10.out c2) ?_); rintro e w11 ⟨rfl, hf⟩
        have HF11 := Lib.hid (HF10.out.trans hf)
        clear hf
        go_wp2
        go_ret
        exact ⟨rfl, HF11.out⟩
      · obtain rfl := HZ2.out hc2
        clear hc2 HW2 HZ2 HCC2
        go_wp2_with fail
        (refine useC (HJ.out w9) ?_); rintro e w10 ⟨rfl, hf⟩
        have HF10 := Lib.hid (HF9.out.trans hf)
        clear hf
        go_wp2_with fail
        (refine useC (HE.out w10 HF10.out c2) ?_); rintro e w11 ⟨rfl, hf⟩
        have HF11 := Lib.hid (HF10.out.trans hf)
        clear hf
        go_wp2
        go_ret
        exact ⟨rfl, HF11.out⟩
end Go.Proofs.YtcghdnabajhipaaDoor
