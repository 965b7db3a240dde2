/- The document's answer for package soft, handed back beside a variable that waits for it. -/
import Derived.Test.YtcldaaebncclmaaDoorSxPlays0
namespace Go.Proofs.YtcldaaebncclmaaDoor
open Go.RowKit

/-- The answer N (still a value) and its variable Y, not written yet. -/
structure SxF (w wr : World) (b X Y : Nat) (va vb vc vd ua ub uc ud : Value) (L M N : List Int) (k : Nat) : Prop where
  s : SxS w wr b X va vb vc vd L M k
  v : SxV (fun g => g ≠ b ∧ g ≠ X) wr (.agg #[ua, ub, uc, ud]) (So4.of N)
  y : SxX wr Y (.slice none 0 0) (.slice none 0 0) (.slice none 0 0) (.slice none 0 0)
  ge : w.heap.size ≤ Y
/-- A row of numbers does not lie in the variable's block. -/
theorem sx_off {wr : World} {Y : Nat} {v : Value} {g : Nat} {xs : List Int} (h : Sl wr v g xs) (hx : 0 < xs.length) (y : SxX wr Y (.slice none 0 0) (.slice none 0 0) (.slice none 0 0) (.slice none 0 0)) : g ≠ Y := by
  rintro rfl
  obtain ⟨A, o, c, rfl, hm, hA, hc⟩ := h.form
  have h0 := hc 0 hx
  have h1 := cell_of_row wr g (o + 0) _ _ _ y
  rw [h1] at h0
  match o, h0 with
  | 0, h0 => cases h0
  | 1, h0 => cases h0
  | 2, h0 => cases h0
  | 3, h0 => cases h0
  | n + 4, h0 => simp at h0
section
variable {w wr w' : World} {b X Y : Nat} {va vb vc vd ua ub uc ud : Value} {L M N : List Int} {k : Nat}
theorem sx_rowY {v : Value} {xs : List Int} (hr : ∃ g, (g ≠ b ∧ g ≠ X) ∧ Sl wr v g xs) (hx : 0 < xs.length) (y : SxX wr Y (.slice none 0 0) (.slice none 0 0) (.slice none 0 0) (.slice none 0 0)) (hf : Fr [Y] wr w') : ∃ g, (g ≠ b ∧ g ≠ X) ∧ Sl w' v g xs := by
  obtain ⟨g, hg, hs⟩ := hr
  exact ⟨g, hg, hs.fr hf (by simpa using sx_off hs hx y)⟩
theorem SxF.lay {A1 A2 A3 A4 : Option Addr} {c1 c2 c3 c4 : Nat} (h : SxF w wr b X Y (.slice A1 8 c1) (.slice A2 12 c2) (.slice A3 8 c3) (.slice A4 12 c4) ua ub uc ud L M N k) (hO : (So4.of N).OK) (hM : (So4.of M).OK) :
    SxX ((((wr.setCell ⟨Y, 0, none⟩ ua).setCell ⟨Y, 1, none⟩ ub).setCell ⟨Y, 2, none⟩ uc).setCell ⟨Y, 3, none⟩ ud) Y ua ub uc ud ∧
    SxS w ((((wr.setCell ⟨Y, 0, none⟩ ua).setCell ⟨Y, 1, none⟩ ub).setCell ⟨Y, 2, none⟩ uc).setCell ⟨Y, 3, none⟩ ud) b X (.slice A1 8 c1) (.slice A2 12 c2) (.slice A3 8 c3) (.slice A4 12 c4) L M k ∧
    SxV (fun g => g ≠ b ∧ g ≠ X) ((((wr.setCell ⟨Y, 0, none⟩ ua).setCell ⟨Y, 1, none⟩ ub).setCell ⟨Y, 2, none⟩ uc).setCell ⟨Y, 3, none⟩ ud) (.agg #[ua, ub, uc, ud]) (So4.of N) := by
  obtain ⟨q, hf⟩ := sx_store wr Y ua ub uc ud _ _ _ _ h.y
  have nb : b ≠ Y := by
    rintro rfl
    have h0 := h.s.disk.cell (i := 0) (by rw [h.s.ok.shp.len]; omega)
    rw [h.y.cells.1] at h0
    cases h0
  have nX : X ≠ Y := by
    rintro rfl
    have h0 := h.s.box.cells.1
    rw [h.y.cells.1] at h0
    injection h0 with h0
    injection h0 with _ h0 _
    cases h0
  obtain ⟨_, _, _, _, g1, g2, g3, g4, e0, ⟨n1, n2, n3, n4⟩, h1, h2, h3, h4⟩ := h.v
  injection e0 with e0
  injection e0 with e0
  injection e0 with e1 e0
  injection e0 with e2 e0
  injection e0 with e3 e0
  injection e0 with e4 _
  subst e1 e2 e3 e4
  refine ⟨q, ⟨h.s.disk.fr hf (by simpa using nb), hf.get h.s.box (by simpa using nX), sx_rowY h.s.ra (by rw [hM.c]; omega) h.y hf, sx_rowY h.s.rb (by rw [hM.e]; omega) h.y hf, sx_rowY h.s.rc (by rw [hM.dc]; omega) h.y hf, sx_rowY h.s.rd (by rw [hM.de]; omega) h.y hf, h.s.ok, h.s.okx, h.s.ne, h.s.hb, h.s.hX, h.s.fr.step hf (fun y hy => .inr (by simp only [List.mem_singleton] at hy; subst hy; exact h.ge))⟩, ?_⟩
  exact ⟨_, _, _, _, g1, g2, g3, g4, rfl, ⟨n1, n2, n3, n4⟩, h1.fr hf (by simpa using sx_off h1 (by rw [hO.c]; omega) h.y), h2.fr hf (by simpa using sx_off h2 (by rw [hO.e]; omega) h.y), h3.fr hf (by simpa using sx_off h3 (by rw [hO.dc]; omega) h.y), h4.fr hf (by simpa using sx_off h4 (by rw [hO.de]; omega) h.y)⟩
/-- The call comes first, the variable behind it. -/
theorem SxF.late (h : SxS w wr b X va vb vc vd L M k) (hv : SxV (fun g => g ≠ b ∧ g ≠ X) wr (.agg #[ua, ub, uc, ud]) (So4.of N)) :
    SxF w (wr.alloc (.cells #[.slice none 0 0, .slice none 0 0, .slice none 0 0, .slice none 0 0] 50)) b X wr.heap.size va vb vc vd ua ub uc ud L M N k := by
  have hf : Fr [] wr (wr.alloc (.cells #[.slice none 0 0, .slice none 0 0, .slice none 0 0, .slice none 0 0] 50)) := (Fr.refl _ wr).alloc _
  obtain ⟨_, _, _, _, g1, g2, g3, g4, e0, nn, h1, h2, h3, h4⟩ := hv
  exact ⟨h.step hf, ⟨_, _, _, _, g1, g2, g3, g4, e0, nn, h1.fr hf (by simp), h2.fr hf (by simp), h3.fr hf (by simp), h4.fr hf (by simp)⟩, heap_alloc_new wr _, h.fr.size⟩
end
end Go.Proofs.YtcldaaebncclmaaDoor
