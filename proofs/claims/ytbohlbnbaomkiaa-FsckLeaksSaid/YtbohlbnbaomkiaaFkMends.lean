/- FsckMends: what is mended has no faults, and is not mended again. -/
import Derived.Test.YtbohlbnbaomkiaaFkLaw
namespace Go.Proofs.Ytbohlbnbaomkiaa
open Go.RowKit

theorem Im2.fr {w w' : World} {B : Nat} {c e : Value} (h : Im2 w B c e) (hf : Fr [] w w') : Im2 w' B c e := hf.get h (by simp)
theorem im2_keep (w : World) (c e : Value) {w' : World} (hf : Fr [] (w.alloc (.cells #[c, e] 25)) w') : Im2 w' w.heap.size c e := (im2_new w c e).fr hf
set_option maxRecDepth 100000 in
set_option maxHeartbeats 4000000 in
theorem fk_mends (w : World) (v : Value) (C : List Int) (E : List (Int × Int)) (hv : ImV w v C E) :
    Calls Try.prog 3 #[v] w (OkT w) := by
  have HV := Lib.hid (fun W (hW : Fr [] w W) => hv.fr hW)
  obtain ⟨A1, c1, A2, c2, rfl⟩ := hv.form
  have HF : Hid (Fr [] w (w.alloc (.cells #[.slice A1 C.length c1, .slice A2 E.length c2] 25))) := (Fr.refl _ _).alloc _
  clear hv
  by_cases hok : Fk.check C E = 0
  · have HOK := Lib.hid hok
    obtain ⟨e1, e2, e3, e4, e5⟩ := Fk.mends hok
    have hl : (Fk.mendE C E).length ≤ 1000 := by
      have := Fk.kp_len C E E.length
      have := (Fk.check_ok hok).2.1
      unfold Fk.mendE
      omega
    have E1 := Lib.hid e1
    have E2 := Lib.hid e2
    have E3 := Lib.hid e3
    have E4 := Lib.hid e4
    have E5 := Lib.hid e5
    clear hok e1 e2 e3 e4 e5
    generalize hX : Fk.mendC C E = X at *
    generalize hY : Fk.mendE C E = Y at *
    have HX := Lib.hid hX
    have HY := Lib.hid hY
    clear hX hY
    go_enter Try.func3, Try.ntmps3
    go_wp2_with (first
      | (go_at_call 7; (with_reducible refine useC (fk_fact _) ?_); rintro e w2 ⟨rfl, hf⟩; have HF2 := Lib.hid (HF.out.trans hf); obtain ⟨b0, b1⟩ := (im2_keep _ _ _ hf).cells; clear hf)
      | (go_at_call 8; (with_reducible refine useC (fk_Mend_ok _ _ C E (HV.out _ HF2.out) HOK.out) ?_); rintro e w3 ⟨v3, rfl, hv3, hf3⟩; rw [HX.out, HY.out] at hv3; obtain ⟨A3, c3, A4, c4, rfl⟩ := hv3.form; have HF3 := Lib.hid (HF2.out.trans hf3); have HF3a : Hid (Fr [] w (w3.alloc (.cells #[.slice A3 X.length c3, .slice A4 Y.length c4] 25))) := (HF2.out.trans hf3).alloc _; have HV3 := Lib.hid (fun W (hW : Fr [] (w3.alloc (.cells #[.slice A3 X.length c3, .slice A4 Y.length c4] 25)) W) => hv3.fr (((Fr.refl [] w3).alloc _).trans hW)); clear hv3 hf3)
      | (go_at_call 9; (with_reducible refine useC (fk_Faults_ok _ _ X Y (HV3.out _ (Fr.refl _ _)) E1.out) ?_); rintro e w4 ⟨v1, v2, rfl, ho1, ho2, hf4⟩; rw [E2.out] at ho1; rw [E3.out] at ho2; obtain ⟨_, _, hs1⟩ := ho1.sl; obtain ⟨_, _, k1, rfl, _⟩ := hs1.form; obtain ⟨_, _, hs2⟩ := ho2.sl; obtain ⟨_, _, k2, rfl, _⟩ := hs2.form; obtain ⟨b2, b3⟩ := (im2_keep _ _ _ hf4).cells; have HF4 := Lib.hid hf4; clear ho1 ho2 hs1 hs2 hf4)
      | (go_at_call 8; (with_reducible refine useC (fk_Mend_ok _ _ X Y (HV3.out _ HF4.out) E1.out) ?_); rintro e w5 ⟨v5, rfl, hv5, hf5⟩; rw [E4.out, E5.out] at hv5; obtain ⟨A5, c5, A6, c6, rfl⟩ := hv5.form; have HF5 := Lib.hid (HF4.out.trans hf5); obtain ⟨b4, b5⟩ := (im2_keep _ _ _ (HF4.out.trans hf5)).cells; have HV5 := Lib.hid hv5; have hlt5 : w3.heap.size < w5.heap.size := (lt_of_heap (im2_keep _ _ _ (HF4.out.trans hf5))); clear hv5 hf5)
      | (go_at_call 10; (with_reducible refine useC (fk_images _ _ _ X Y (HV3.out _ (HF5.out.alloc _)) (HV5.out.fr ((Fr.refl [] _).alloc _)) hl) ?_); rintro e w6 ⟨rfl, hf6⟩; have HF6 := Lib.hid ((HF3a.out.trans (HF5.out.alloc _)).trans hf6); clear hf6))
    go_ret
    exact ⟨rfl, HF6.out⟩
  · have HOK := Lib.hid hok
    have HNE := Lib.hid (errV_no hok)
    clear hok
    go_enter Try.func3, Try.ntmps3
    go_wp2_with (first
      | (go_at_call 7; (with_reducible refine useC (fk_fact _) ?_); rintro e w2 ⟨rfl, hf⟩; have HF2 := Lib.hid (HF.out.trans hf); obtain ⟨b0, b1⟩ := (im2_keep _ _ _ hf).cells; clear hf)
      | (go_at_call 8; (with_reducible refine useC (fk_Mend_bad _ _ C E (HV.out _ HF2.out) HOK.out) ?_); rintro e w3 ⟨rfl, hf3⟩; have HF3 := Lib.hid (HF2.out.trans hf3); clear hf3))
    go_ret
    exact ⟨rfl, HF3.out.alloc _⟩
end Go.Proofs.Ytbohlbnbaomkiaa
