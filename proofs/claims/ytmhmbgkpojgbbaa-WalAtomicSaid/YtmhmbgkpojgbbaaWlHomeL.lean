/- WalHome: at home it is the same; to crash twice is to crash once. -/
import Derived.Test.YtmhmbgkpojgbbaaWlLasts
namespace Go.Proofs.Ytmhmbgkpojgbbaa
open Go.RowKit

theorem Wl.crash_ok0 {d : Wl.D} {n : Int} (h : (Wl.crash d n).2 = 0) : ∃ m : Nat, n = m ∧ d.syn ≤ m ∧ m ≤ d.log.length ∧ Wl.crash d n = (⟨d.home, Wl.last (d.log.take m), (Wl.last (d.log.take m)).length⟩, 0) := by
  unfold Wl.crash at h
  split at h
  · rename_i hc
    refine ⟨n.toNat, by omega, by omega, by omega, ?_⟩
    unfold Wl.crash
    rw [if_pos hc]
  · cases h
theorem Wl.crash_twice (home : List Int) (l : List Wl.R) : Wl.crash ⟨home, Wl.last l, (Wl.last l).length⟩ ((Wl.last l).length : Nat) = (⟨home, Wl.last l, (Wl.last l).length⟩, 0) := by
  unfold Wl.crash
  rw [if_pos ⟨Int.le_refl _, Int.le_refl _⟩]
  simp only [Int.toNat_natCast, List.take_length, Wl.last_last]
theorem Wl.home_last (home : List Int) (l : List Wl.R) (n : Nat) : Wl.goHome ⟨home, Wl.last l, n⟩ = (⟨Wl.values ⟨home, Wl.last l, n⟩, [], 0⟩, 0) := by
  unfold Wl.goHome
  rw [if_pos (Wl.allEnded_last l)]
set_option maxRecDepth 100000 in
set_option maxHeartbeats 4000000 in
theorem wl_homeL (w : World) (v : Value) (ls : List (List Int)) (n : Int) (hR : Rw w.heap.size w v ls) :
    Calls Try.prog 9 #[v, .int .i64 n] w (OkT w) := by
  have HR := Lib.hid hR
  clear hR
  have hO := Wl.runD_ok ls (min ls.length 80)
  have HL := Lib.hid (fun W (hW : Fr [] w W) => wl_logged W w.heap.size v ls (HR.out.below (hW.toBelow (Nat.le_refl _) (by simp))) hW.size)
  generalize Wl.runD ls (min ls.length 80) = d at *
  obtain ⟨A, g, o, c, rfl, -, -⟩ := HR.out
  have HCR := Lib.hid (fun W P b (h : WlF P W b d) => wl_Crash W P b d n h)
  by_cases hc : (Wl.crash d n).2 = 0
  · obtain ⟨m, rfl, -, -, e⟩ := Wl.crash_ok0 hc
    rw [e] at HCR
    rw [show errV 0 = .nilIface from rfl] at HCR
    dsimp only at HCR
    have hO1 := Wl.crash_ok hO m
    rw [e] at hO1
    dsimp only at hO1
    have HC1 := Lib.hid (fun W P b (h : WlF P W b ⟨d.home, Wl.last (d.log.take m), (Wl.last (d.log.take m)).length⟩) => wl_Crash W P b _ ((Wl.last (d.log.take m)).length : Nat) h)
    have HH1 := Lib.hid (fun W P b (h : WlF P W b ⟨d.home, Wl.last (d.log.take m), (Wl.last (d.log.take m)).length⟩) => wl_Home W P b _ h)
    have HLG := Lib.hid (fun W P b (h : WlF P W b ⟨d.home, Wl.last (d.log.take m), (Wl.last (d.log.take m)).length⟩) => wl_Log W P b _ h)
    rw [Wl.crash_twice] at HC1
    rw [Wl.home_last] at HH1
    rw [show errV 0 = .nilIface from rfl] at HC1 HH1
    dsimp only at HLG HC1 HH1
    generalize (Wl.last (d.log.take m)).length = q at *
    generalize (⟨d.home, Wl.last (d.log.take m), q⟩ : Wl.D) = d1 at *
    have HL8 := Lib.hid (Wl.values_len hO1)
    have HV5 := Lib.hid (show Wl.values ⟨Wl.values d1, [], 0⟩ = Wl.values d1 from rfl)
    have HLG5 := Lib.hid (fun W P b (h : WlF P W b ⟨Wl.values d1, [], 0⟩) => wl_Log W P b _ h)
    dsimp only at HLG5
    generalize hd5 : (⟨Wl.values d1, [], 0⟩ : Wl.D) = d5 at *
    clear hO hO1 e hc hd5
    go_enter Try.func9, Try.ntmps9
    go_wp2_with (first
      | (go_at_call 28; (with_reducible refine useC (wl_fact w) ?_); rintro e w1 ⟨rfl, hf⟩; have HF1 := Lib.hid hf; clear hf)
      | (go_at_call 29; (with_reducible refine useC (HL.out w1 HF1.out) ?_); rintro e w2 ⟨b, P2, rfl, hs⟩; have HS2 := Lib.hid (hs.rebase HF1.out); have HK2 := Lib.hid (HCR.out w2 P2 b HS2.out.file); clear hs)
      | (go_at_call 34; (with_reducible refine useC HK2.out ?_); rintro e w3 ha; obtain ⟨rfl, hs, -⟩ := HS2.out.turn ha; obtain ⟨P3, HS3⟩ : ∃ P, Hid (WlS w w3 P b d1) := ⟨_, hs⟩; have HK3 := Lib.hid (wl_Values w3 P3 b d1 HS3.out.file); clear ha hs HK2 HS2)
      | (go_at_call 30; (with_reducible refine useC HK3.out ?_); rintro e w4 hn; obtain ⟨v4, rfl, hr, hf⟩ := RowO.of HS3.out hn; have HR4 := Lib.hid hr; have HS4 := Lib.hid (HS3.out.step hf); have HK4 := Lib.hid (HLG.out w4 P3 b HS4.out.file); clear hn hr hf HK3 HS3)
      | (go_at_call 35; (with_reducible refine useC HK4.out ?_); rintro e w5 ⟨rfl, hf⟩; have HR5 := Lib.hid (HR4.out.step hf); have HS5 := Lib.hid (HS4.out.step hf); have HK5 := Lib.hid (HC1.out w5 P3 b HS5.out.file); clear hf HK4 HS4 HR4)
      | (go_at_call 34; (with_reducible refine useC HK5.out ?_); rintro e w6 ha; obtain ⟨rfl, hs, hfp⟩ := HS5.out.turn ha; obtain ⟨P6, HS6, HR6⟩ : ∃ P, Hid (WlS w w6 P b d1) ∧ Hid (RowO P w6 v4 (Wl.values d1)) := ⟨_, hs, HR5.out.turn hfp⟩; have HK6 := Lib.hid (wl_Values w6 P6 b d1 HS6.out.file); clear ha hs hfp HK5 HS5 HR5)
      | (go_at_call 30; (with_reducible refine useC HK6.out ?_); rintro e w7 hn; obtain ⟨v7, rfl, hr, hf⟩ := RowO.of HS6.out hn; have HR7 := Lib.hid hr; have HR7b := Lib.hid (HR6.out.step hf); have HS7 := Lib.hid (HS6.out.step hf); clear hn hr hf HK6 HS6 HR6)
      | (go_at_call 16; (with_reducible refine useC (HR7.out.same HR7b.out) ?_); rintro e w8 ⟨rfl, hf⟩; have HS8 := Lib.hid (HS7.out.step hf); have HR8 := Lib.hid (HR7b.out.step hf); have HK8 := Lib.hid (HH1.out w8 P6 b HS8.out.file); clear hf HS7 HR7 HR7b)
      | (go_at_call 37; (with_reducible refine useC HK8.out ?_); rintro e w9 ha; obtain ⟨rfl, hs, hfp⟩ := HS8.out.turn ha; obtain ⟨P9, HS9, HR9⟩ : ∃ P, Hid (WlS w w9 P b d5) ∧ Hid (RowO P w9 v4 (Wl.values d1)) := ⟨_, hs, HR8.out.turn hfp⟩; have HK9 := Lib.hid (HLG5.out w9 P9 b HS9.out.file); clear ha hs hfp HK8 HS8 HR8)
      | (go_at_call 35; (with_reducible refine useC HK9.out ?_); rintro e w10 ⟨rfl, hf⟩; have HR10 := Lib.hid (HR9.out.step hf); have HS10 := Lib.hid (HS9.out.step hf); have HK10 := Lib.hid (wl_Values w10 P9 b d5 HS10.out.file); rw [HV5.out] at HK10; clear hf HK9 HS9 HR9)
      | (go_at_call 30; (with_reducible refine useC HK10.out ?_); rintro e w11 hn; obtain ⟨v11, rfl, hr, hf⟩ := RowO.of HS10.out hn; have HR11 := Lib.hid hr; have HR11b := Lib.hid (HR10.out.step hf); have HS11 := Lib.hid (HS10.out.step hf); clear hn hr hf HK10 HS10 HR10)
      | (go_at_call 16; (with_reducible refine useC (HR11.out.same HR11b.out) ?_); rintro e w12 ⟨rfl, hf⟩; have HF12 := Lib.hid (HS11.out.fr.trans hf); clear hf))
    go_ret
    exact ⟨rfl, HF12.out⟩
  · have HE := Lib.hid (errV_no hc)
    rw [HE.out] at HCR
    clear hc hO
    go_enter Try.func9, Try.ntmps9
    go_wp2_with (first
      | (go_at_call 28; (with_reducible refine useC (wl_fact w) ?_); rintro e w1 ⟨rfl, hf⟩; have HF1 := Lib.hid hf; clear hf)
      | (go_at_call 29; (with_reducible refine useC (HL.out w1 HF1.out) ?_); rintro e w2 ⟨b, P2, rfl, hs⟩; have HS2 := Lib.hid (hs.rebase HF1.out); have HK2 := Lib.hid (HCR.out w2 P2 b HS2.out.file); clear hs)
      | (go_at_call 34; (with_reducible refine useC HK2.out ?_); rintro e w3 ha; obtain ⟨rfl, hs, -⟩ := HS2.out.turn ha; have HF3 := Lib.hid hs.fr; clear ha hs HK2 HS2))
    go_ret
    exact ⟨rfl, HF3.out⟩
end Go.Proofs.Ytmhmbgkpojgbbaa
