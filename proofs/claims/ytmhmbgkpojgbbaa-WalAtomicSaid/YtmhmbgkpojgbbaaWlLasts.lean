/- WalLasts: what has ended and lasts is there. -/
import Derived.Test.YtmhmbgkpojgbbaaWlLaw
import Derived.Test.YtmhmbgkpojgbbaaCIn2
namespace Go.Proofs.Ytmhmbgkpojgbbaa
open Go.RowKit

theorem RowO.same {P P' : Nat → Prop} {w : World} {v u : Value} {xs : List Int} (h : RowO P w v xs) (h' : RowO P' w u xs) : Calls Try.prog 16 #[v, u] w (OkT w) := by
  obtain ⟨g, _, hs⟩ := h
  obtain ⟨g', _, hs'⟩ := h'
  exact (ints_same w v u g g' xs hs hs').mono fun _ _ ⟨h1, h2⟩ => ⟨h1, h2.fr []⟩
theorem Wl.crash_sync (d : Wl.D) : Wl.crash (Wl.sync d) (d.log.length : Nat) = (⟨d.home, Wl.last d.log, (Wl.last d.log).length⟩, 0) ∧ Wl.values (Wl.crash (Wl.sync d) (d.log.length : Nat)).1 = Wl.values d := by
  have h := Wl.values_crash (d := Wl.sync d) (n := d.log.length) ⟨Nat.le_refl _, Nat.le_refl _⟩
  have e : (Wl.sync d).log.take d.log.length = d.log := List.take_length
  rw [e] at h
  exact h
set_option maxRecDepth 100000 in
set_option maxHeartbeats 4000000 in
theorem wl_lasts (w : World) (v : Value) (ls : List (List Int)) (t k x : Int) (hR : Rw w.heap.size w v ls) :
    Calls Try.prog 7 #[v, .int .i64 t, .int .i64 k, .int .i64 x] w (OkT w) := by
  have HR := Lib.hid hR
  clear hR
  have hO := Wl.runD_ok ls (min ls.length 80)
  have HL := Lib.hid (fun W (hW : Fr [] w W) => wl_logged W w.heap.size v ls (HR.out.below (hW.toBelow (Nat.le_refl _) (by simp))) hW.size)
  generalize Wl.runD ls (min ls.length 80) = d at *
  obtain ⟨A, g, o, c, rfl, -, -⟩ := HR.out
  have HV1 := Lib.hid (Wl.values_write d t k x)
  have HO := Lib.hid hO
  have HL8 := Lib.hid (Wl.values_len hO)
  obtain ⟨d1, hd1⟩ : ∃ d1, d1 = (Wl.write d t k x).1 := ⟨_, rfl⟩
  obtain ⟨cw, hcw⟩ : ∃ cw, cw = (Wl.write d t k x).2 := ⟨_, rfl⟩
  have HWR := Lib.hid (fun W P b (h : WlF P W b d) => wl_Write W P b d t k x h)
  have hw0 : cw = 0 → (Wl.write d t k x).2 = 0 := fun h => by rw [← hcw]; exact h
  have hve := fun (h : cw = 0) (h2 : (Wl.end_ d1 t).2 = 0) => Wl.values_ended (d := d) hO.home (t := t) (b := k) (v := x) (hw0 h) (by rw [← hd1]; exact h2)
  rw [← hd1] at HV1 hve
  rw [← hd1, ← hcw] at HWR
  have hO1 : Wl.OK d1 := by rw [hd1]; exact Wl.write_ok hO t k x
  clear hw0 hd1 hcw hO
  by_cases hc : cw = 0
  · have hvf := hve hc
    clear hve
    subst hc
    rw [show errV 0 = .nilIface from rfl] at HWR
    have HEN := Lib.hid (fun W P b (h : WlF P W b d1) => wl_End W P b d1 t h)
    have hO2 := Wl.end_ok hO1 t
    generalize (Wl.end_ d1 t).1 = d2 at *
    generalize (Wl.end_ d1 t).2 = ce at *
    by_cases he : ce = 0
    · obtain ⟨hx, hk⟩ := hvf he
      subst he
      rw [show errV 0 = .nilIface from rfl] at HEN
      have HL2 := Lib.hid (Wl.values_len hO2)
      have HCR := Lib.hid (fun W P b (h : WlF P W b (Wl.sync d2)) => wl_Crash W P b (Wl.sync d2) (d2.log.length : Nat) h)
      have HVC := Lib.hid (Wl.crash_sync d2).2
      rw [(Wl.crash_sync d2).1] at HCR HVC
      rw [show errV 0 = .nilIface from rfl] at HCR
      dsimp only at HVC HCR
      generalize (⟨d2.home, Wl.last d2.log, (Wl.last d2.log).length⟩ : Wl.D) = d4 at *
      have e1 := decide_eq_true hk
      obtain ⟨kn, rfl⟩ : ∃ kn : Nat, k = kn := ⟨k.toNat, by omega⟩
      rw [Int.toNat_natCast] at hx
      have hk8 : kn < 8 := by omega
      have hkI : (kn : Int) < 8 := by omega
      have HX := Lib.hid hx
      clear hO1 hO2 hk hx
      go_enter Try.func7, Try.ntmps7
      go_wp2_with (first
        | (go_at_call 28; (with_reducible refine useC (wl_fact w) ?_); rintro e w1 ⟨rfl, hf⟩; have HF1 := Lib.hid hf; clear hf)
        | (go_at_call 29; (with_reducible refine useC (HL.out w1 HF1.out) ?_); rintro e w2 ⟨b, P2, rfl, hs⟩; have HS2 := Lib.hid (hs.rebase HF1.out); have HC2 := Lib.hid (wl_Values w2 P2 b d HS2.out.file); clear hs)
        | (go_at_call 30; (with_reducible refine useC HC2.out ?_); rintro e w3 hn; obtain ⟨v3, rfl, hr, hf⟩ := RowO.of HS2.out hn; have HR3 := Lib.hid hr; have HS3 := Lib.hid (HS2.out.step hf); have HC3 := Lib.hid (HWR.out w3 P2 b HS3.out.file); clear hn hr hf HC2 HS2)
        | (go_at_call 31; (with_reducible refine useC HC3.out ?_); rintro e w4 ha; obtain ⟨rfl, hs, hfp⟩ := HS3.out.turn ha; obtain ⟨P4, HS4, HR4⟩ : ∃ P, Hid (WlS w w4 P b d1) ∧ Hid (RowO P w4 v3 (Wl.values d)) := ⟨_, hs, HR3.out.turn hfp⟩; have HC4 := Lib.hid (wl_Values w4 P4 b d1 HS4.out.file); rw [HV1.out] at HC4; clear ha hs hfp HC3 HS3 HR3)
        | (go_at_call 30; (with_reducible refine useC HC4.out ?_); rintro e w5 hn; obtain ⟨v5, rfl, hr, hf⟩ := RowO.of HS4.out hn; have HR5 := Lib.hid hr; have HR5b := Lib.hid (HR4.out.step hf); have HS5 := Lib.hid (HS4.out.step hf); clear hn hr hf HC4 HS4 HR4)
        | (go_at_call 16; (with_reducible refine useC (HR5.out.same HR5b.out) ?_); rintro e w6 ⟨rfl, hf⟩; have HS6 := Lib.hid (HS5.out.step hf); have HC6 := Lib.hid (HEN.out w6 P4 b HS6.out.file); clear hf HS5 HR5 HR5b)
        | (go_at_call 32; (with_reducible refine useC HC6.out ?_); rintro e w7 ha; obtain ⟨rfl, hs, hfp⟩ := HS6.out.turn ha; obtain ⟨P7, HS7⟩ : ∃ P, Hid (WlS w w7 P b d2) := ⟨_, hs⟩; have HC7 := Lib.hid (wl_Values w7 P7 b d2 HS7.out.file); clear ha hs hfp HC6 HS6)
        | (go_at_call 30; (with_reducible refine useC HC7.out ?_); rintro e w8 hn; obtain ⟨v8, rfl, hr, hf⟩ := RowO.of HS7.out hn; obtain ⟨g8, o8, c8, rfl⟩ := hr.some8 (by rw [HL2.out]; decide); rw [HL2.out] at hr ⊢; have HR8 := Lib.hid hr; have HS8 := Lib.hid (HS7.out.step hf); have HC8 := Lib.hid (wl_Sync w8 P7 b d2 HS8.out.file); clear hn hr hf HC7 HS7)
        | (go_at_call 33; (with_reducible refine useC HC8.out ?_); rintro e w9 ha; obtain ⟨rfl, hs, hfp⟩ := HS8.out.turn ha; obtain ⟨P9, HS9, HR9⟩ : ∃ P, Hid (WlS w w9 P b (Wl.sync d2)) ∧ Hid (RowO P w9 (.slice (some ⟨g8, o8, none⟩) 8 c8) (Wl.values d2)) := ⟨_, hs, HR8.out.turn hfp⟩; have q9 := HR9.out.cell (i := kn) (by rw [HL2.out]; exact hk8); rw [HX.out] at q9; have HC9 := Lib.hid (HCR.out w9 P9 b HS9.out.file); clear ha hs hfp HC8 HS8 HR8)
        | (go_at_call 26; (with_reducible refine useC (in2_is kn _ _ true _ e1) ?_); rintro e w9 ⟨rfl, rfl⟩)
        | (go_at_call 34; (with_reducible refine useC HC9.out ?_); rintro e w10 ha; obtain ⟨rfl, hs, hfp⟩ := HS9.out.turn ha; obtain ⟨P10, HS10, HR10⟩ : ∃ P, Hid (WlS w w10 P b d4) ∧ Hid (RowO P w10 (.slice (some ⟨g8, o8, none⟩) 8 c8) (Wl.values d2)) := ⟨_, hs, HR9.out.turn hfp⟩; have HC10 := Lib.hid (wl_Values w10 P10 b d4 HS10.out.file); rw [HVC.out] at HC10; clear ha hs hfp HC9 HS9 HR9)
        | (go_at_call 30; (with_reducible refine useC HC10.out ?_); rintro e w11 hn; obtain ⟨v11, rfl, hr, hf⟩ := RowO.of HS10.out hn; have HR11 := Lib.hid hr; have HR11b := Lib.hid (HR10.out.step hf); have HS11 := Lib.hid (HS10.out.step hf); clear hn hr hf HC10 HS10 HR10)
        | (go_at_call 16; (with_reducible refine useC (HR11.out.same HR11b.out) ?_); rintro e w12 ⟨rfl, hf⟩; have HF12 := Lib.hid (HS11.out.fr.trans hf); clear hf))
      go_ret
      exact ⟨rfl, HF12.out⟩
    · have HE := Lib.hid (errV_no he)
      rw [HE.out] at HEN
      clear hvf he hO1 hO2
      go_enter Try.func7, Try.ntmps7
      go_wp2_with (first
        | (go_at_call 28; (with_reducible refine useC (wl_fact w) ?_); rintro e w1 ⟨rfl, hf⟩; have HF1 := Lib.hid hf; clear hf)
        | (go_at_call 29; (with_reducible refine useC (HL.out w1 HF1.out) ?_); rintro e w2 ⟨b, P2, rfl, hs⟩; have HS2 := Lib.hid (hs.rebase HF1.out); have HC2 := Lib.hid (wl_Values w2 P2 b d HS2.out.file); clear hs)
        | (go_at_call 30; (with_reducible refine useC HC2.out ?_); rintro e w3 hn; obtain ⟨v3, rfl, hr, hf⟩ := RowO.of HS2.out hn; have HR3 := Lib.hid hr; have HS3 := Lib.hid (HS2.out.step hf); have HC3 := Lib.hid (HWR.out w3 P2 b HS3.out.file); clear hn hr hf HC2 HS2)
        | (go_at_call 31; (with_reducible refine useC HC3.out ?_); rintro e w4 ha; obtain ⟨rfl, hs, hfp⟩ := HS3.out.turn ha; obtain ⟨P4, HS4, HR4⟩ : ∃ P, Hid (WlS w w4 P b d1) ∧ Hid (RowO P w4 v3 (Wl.values d)) := ⟨_, hs, HR3.out.turn hfp⟩; have HC4 := Lib.hid (wl_Values w4 P4 b d1 HS4.out.file); rw [HV1.out] at HC4; clear ha hs hfp HC3 HS3 HR3)
        | (go_at_call 30; (with_reducible refine useC HC4.out ?_); rintro e w5 hn; obtain ⟨v5, rfl, hr, hf⟩ := RowO.of HS4.out hn; have HR5 := Lib.hid hr; have HR5b := Lib.hid (HR4.out.step hf); have HS5 := Lib.hid (HS4.out.step hf); clear hn hr hf HC4 HS4 HR4)
        | (go_at_call 16; (with_reducible refine useC (HR5.out.same HR5b.out) ?_); rintro e w6 ⟨rfl, hf⟩; have HS6 := Lib.hid (HS5.out.step hf); have HC6 := Lib.hid (HEN.out w6 P4 b HS6.out.file); clear hf HS5 HR5 HR5b)
        | (go_at_call 32; (with_reducible refine useC HC6.out ?_); rintro e w7 ha; obtain ⟨rfl, hs, -⟩ := HS6.out.turn ha; have HF7 := Lib.hid hs.fr; clear ha hs HC6 HS6))
      go_ret
      exact ⟨rfl, HF7.out⟩
  · have HE := Lib.hid (errV_no hc)
    rw [HE.out] at HWR
    clear hve hc hO1
    go_enter Try.func7, Try.ntmps7
    go_wp2_with (first
      | (go_at_call 28; (with_reducible refine useC (wl_fact w) ?_); rintro e w1 ⟨rfl, hf⟩; have HF1 := Lib.hid hf; clear hf)
      | (go_at_call 29; (with_reducible refine useC (HL.out w1 HF1.out) ?_); rintro e w2 ⟨b, P2, rfl, hs⟩; have HS2 := Lib.hid (hs.rebase HF1.out); have HC2 := Lib.hid (wl_Values w2 P2 b d HS2.out.file); clear hs)
      | (go_at_call 30; (with_reducible refine useC HC2.out ?_); rintro e w3 hn; obtain ⟨v3, rfl, hr, hf⟩ := RowO.of HS2.out hn; have HR3 := Lib.hid hr; have HS3 := Lib.hid (HS2.out.step hf); have HC3 := Lib.hid (HWR.out w3 P2 b HS3.out.file); clear hn hr hf HC2 HS2)
      | (go_at_call 31; (with_reducible refine useC HC3.out ?_); rintro e w4 ha; obtain ⟨rfl, hs, -⟩ := HS3.out.turn ha; have HF4 := Lib.hid hs.fr; clear ha hs HC3 HS3 HR3))
    go_ret
    exact ⟨rfl, HF4.out⟩
end Go.Proofs.Ytmhmbgkpojgbbaa
