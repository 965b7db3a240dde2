/- grown. -/
import Derived.Test.YtnglhfeialomgaaDoorTrDid
namespace Go.Proofs.YtnglhfeialomgaaDoor
open Go.RowKit

/-- A list of lists of texts. -/
def RwT (w : World) (v : Value) (ls : List (List (List UInt8))) : Prop := ∃ A g o c, v = .slice A ls.length c ∧ ls.length ≤ 9223372036854775807 ∧ (0 < ls.length → A = some ⟨g, o, none⟩) ∧ ∀ i (hi : i < ls.length), ∃ u gi, w.cell? ⟨g, o + i, none⟩ = some u ∧ SlR strE w u gi ls[i]
theorem slR_fr {w w' : World} {v : Value} {g : Nat} {l : List (List UInt8)} (h : SlR strE w v g l) (hf : Fr [] w w') : SlR strE w' v g l := by
  rcases h with h | ⟨a, c, e, h1, h2, h3⟩
  · exact .inl h
  · exact .inr ⟨a, c, e, h1, h2, fun i hi r hr => by
      have h4 := h3 i hi r hr
      have h5 : ∃ x, w.cell? ⟨g, a + i * strE.k + r, none⟩ = some x := by
        rw [h4]
        have hr : r < 1 := hr
        obtain rfl : r = 0 := by omega
        exact ⟨_, rfl⟩
      obtain ⟨x, hx⟩ := h5
      rw [← h4, hx]
      exact hf.cell hx (by simp)⟩
/-- What grown hands a law. -/
def GrownL (w0 : World) (e : Ending) (w' : World) : Prop := ∃ tb g dom, e = .returned (.pointer (some ⟨tb, 0, none⟩)) ∧ TrL w0 w' tb g dom 80
set_option maxRecDepth 100000 in
set_option maxHeartbeats 4000000 in
theorem tr_grown (w0 w : World) (v : Value) (ls : List (List (List UInt8))) (hR : RwT w0 v ls) (hf0 : Fr [] w0 w) :
    Calls Tryd.prog 9 #[v] w (GrownL w0) := by
  obtain ⟨A, g, o, c, rfl, hm, hA, hc⟩ := hR
  have HN := Lib.hid (trl_new (w0 := w0) hf0)
  have HA := Lib.hid hA
  have HC := Lib.hid hc
  clear hA hc hf0
  go_enter Tryd.func9, Tryd.ntmps9
  go_wp2_with (go_at_call 22; (with_reducible refine useC HN.out ?_); rintro e w1 ⟨tb, n, m, rfl, h⟩; have HL := Lib.hid h; clear h)
  go_loopw [4] (fun iv wr => ∃ i : Nat, i ≤ ls.length ∧ i ≤ 40 ∧ iv = .int .i64 i ∧ ∃ g dom, Hid (TrL w0 wr tb g dom (2 * i))) (fun iv _ => ls.length - (intOf iv).toNat)
  case atStart => exact ⟨0, Nat.zero_le _, by decide, rfl, _, _, HL⟩
  case round =>
    clear HL
    obtain ⟨i, hi, h40, rfl, g', dom, hI⟩ := hrel
    have i0 : (0 : Int) ≤ i := by omega
    by_cases hlt : i < ls.length
    · have iI : (i : Int) < ls.length := by omega
      by_cases hl4 : i < 40
      · have i4 : (i : Int) < 40 := by omega
        obtain rfl := HA.out (by omega)
        obtain ⟨u, gi, hu, hs⟩ := HC.out i hlt
        have q := hI.out.fr.cell hu (by simp)
        have HDID := Lib.hid (tr_did w0 wr tb (2 * i) g' dom hI.out (by omega) gi u ls[i] (slR_fr hs hI.out.fr))
        generalize ls[i] = x at *
        clear hu hs
        go_wp2_with (go_at_call 24; (with_reducible refine useC HDID.out ?_); intro e w2 h; obtain ⟨cc, g2, dom2, he, h2⟩ := h.some; subst he; have HL2 := Lib.hid h2; clear h h2)
        go_roundw
        case rel => exact ⟨i + 1, by omega, by omega, by go_num, g2, dom2, HL2.out.mono (by omega)⟩
        case measure => (simp [intOf]; try omega)
      · have i4 : ¬ (i : Int) < 40 := by omega
        have HE := Lib.hid (hI.out.mono (K' := 80) (by omega))
        clear hlt hl4
        go_wp2
        go_ret
        exact ⟨tb, g', dom, rfl, HE.out⟩
    · have iI : ¬ (i : Int) < ls.length := by omega
      have HE := Lib.hid (hI.out.mono (K' := 80) (by omega))
      clear hlt
      go_wp2
      go_ret
      exact ⟨tb, g', dom, rfl, HE.out⟩
end Go.Proofs.YtnglhfeialomgaaDoor
