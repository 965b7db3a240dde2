/- What the law UndoPlays holds beside each other: the disk and the document's struct. -/
import Derived.Test.YtmhmbgkpojgbbabDoorUxCrash
import Derived.Test.YtmhmbgkpojgbbabDoorUnSt
import Derived.Test.YtmhmbgkpojgbbabDoorErr2
namespace Go.Proofs.YtmhmbgkpojgbbabDoor
open Go.RowKit

/-- The disk d (its block b, all its blocks those of P), the struct x (its block X), in the world wr of a call that began at w. -/
structure UxS (w wr : World) (P : Nat → Prop) (b X : Nat) (a c l : Value) (d x : Un.D) : Prop where
  disk : UnS w wr P b d
  box : UxX wr X a c l
  ra : RowO (fun k => P k ∨ k = X) wr a x.blk
  rc : RowO (fun k => P k ∨ k = X) wr c x.busy
  rl : RowE enP (fun k => P k ∨ k = X) wr l x.was
  nP : ¬ P X
  hX : w.heap.size ≤ X
  ok : Un.OK x
section
variable {w wr w' : World} {P : Nat → Prop} {b X : Nat} {a c l : Value} {d d' x x' : Un.D}
theorem UxS.fr (s : UxS w wr P b X a c l d x) : Fr [] w wr := s.disk.fr
theorem Un.OK.nb (h : Un.OK x) : x.blk ≠ [] := fun e => by have := h.blk; rw [e] at this; cases this
theorem Un.OK.ny (h : Un.OK x) : x.busy ≠ [] := fun e => by have := h.busy; rw [e] at this; cases this
theorem UxS.step (s : UxS w wr P b X a c l d x) (hf : Fr [] wr w') : UxS w w' P b X a c l d x :=
  ⟨s.disk.step hf, hf.get s.box (by simp), s.ra.step hf, s.rc.step hf, s.rl.fr hf (by simp), s.nP, s.hX, s.ok⟩
theorem UxS.turn (s : UxS w wr P b X a c l d x) {v : Value} {e : Ending} (ha : UnAns P b v d' wr e w') : e = .returned v ∧ UxS w w' (Nx P wr w') b X a c l d' x := by
  obtain ⟨h1, h2, h3⟩ := s.disk.turn ha
  have hlt := lt_of_heap s.box
  have hP : ∀ k, k < wr.heap.size → Nx P wr w' k ∨ k = X → P k ∨ k = X := fun k hk hn => hn.imp_left (fun hn => hn.1.resolve_right (by omega))
  exact ⟨h1, h2, (h3.block X hlt s.nP).trans s.box, s.ra.turn2 h3 (fun k hk => .inl hk) hP, s.rc.turn2 h3 (fun k hk => .inl hk) hP, s.rl.turn h3 (fun k hk => .inl hk) hP, fun hn => hn.1.elim s.nP (fun h' => by omega), s.hX, s.ok⟩
theorem UxS.val (s : UxS w wr P b X a c l d x) : UxV (fun k => ¬ (P k ∨ k = X)) wr (.agg #[a, c, l]) x := by
  obtain ⟨g, hg, hs⟩ := s.ra
  have hg := (hg.resolve_left s.ok.nb).1
  obtain ⟨g2, hg2, hs2⟩ := s.rc
  have hg2 := (hg2.resolve_left s.ok.ny).1
  obtain ⟨g3, hg3, hs3⟩ := s.rl.val hg
  exact ⟨a, c, l, g, g2, g3, rfl, ⟨hg, hg2, hg3⟩, hs, hs2, hs3⟩
theorem UxS.new (s : UxS w wr P b X a c l d x) : ∀ k, wr.heap.size ≤ k → ¬ (P k ∨ k = X) := fun k hk => by
  rintro (h | h)
  · have := (s.disk.hP k h).2; omega
  · have := lt_of_heap s.box; omega
theorem UxS.cells (s : UxS w wr P b X a c l d x) : (wr.cell? ⟨X, 0, none⟩ = some a ∧ wr.cell? ⟨X, 1, none⟩ = some c ∧ wr.cell? ⟨X, 2, none⟩ = some l) ∧ ∀ i, wr.frozen? ⟨X, i, none⟩ = false := ⟨s.box.cells, fun i => free_block s.box i none⟩
/-- The document's answer is stored. -/
theorem UxS.put (s : UxS w wr P b X a c l d x) {a' c' l' : Value} {w2 : World} (hf : Fr [] wr w2) (hv : UxV (fun k => ¬ (P k ∨ k = X)) w2 (.agg #[a', c', l']) x') (hO : Un.OK x') :
    UxS w (((w2.setCell ⟨X, 0, none⟩ a').setCell ⟨X, 1, none⟩ c').setCell ⟨X, 2, none⟩ l') P b X a' c' l' d x' := by
  obtain ⟨_, _, _, g1, g2, g3, e0, ⟨n1, n2, n3⟩, h1, h2, h3⟩ := hv
  injection e0 with e0
  injection e0 with e0
  injection e0 with e1 e0
  injection e0 with e2 e0
  injection e0 with e3 _
  subst e1 e2 e3
  have s2 := s.step hf
  have hX : Fr [X] w2 (((w2.setCell ⟨X, 0, none⟩ a').setCell ⟨X, 1, none⟩ c').setCell ⟨X, 2, none⟩ l') := (((Fr.refl _ w2).setCell (.inl (by simp)) _).setCell (.inl (by simp)) _).setCell (.inl (by simp)) _
  have q1 : UxX (w2.setCell ⟨X, 0, none⟩ a') X a' c l := set_block s2.box _
  have q2 : UxX ((w2.setCell ⟨X, 0, none⟩ a').setCell ⟨X, 1, none⟩ c') X a' c' l := set_block q1 _
  have hq : FrP (· = X) w2 (((w2.setCell ⟨X, 0, none⟩ a').setCell ⟨X, 1, none⟩ c').setCell ⟨X, 2, none⟩ l') := (FrP.refl _ w2).step hX (fun y hy => .inl (by simpa using hy))
  refine ⟨⟨s2.disk.file.frP hq (fun k hk e => s.nP (e ▸ hk)), fun k hk => ⟨(s2.disk.hP k hk).1, Nat.lt_of_lt_of_le (s2.disk.hP k hk).2 hX.size⟩, s2.fr.step hX (fun y hy => .inr (by simp only [List.mem_singleton] at hy; subst hy; exact s.hX))⟩, set_block q2 _, (RowO.of1 h1 n1).frS hX (fun y hy => .inr (by simpa using hy)) hO.nb, (RowO.of1 h2 n2).frS hX (fun y hy => .inr (by simpa using hy)) hO.ny, (RowE.of h3 n3).fr hX (fun y hy => .inr (by simpa using hy)), s.nP, s.hX, hO⟩
end
/-- A new disk, a new struct. -/
theorem UxS.start {w w0 w1 : World} {b : Nat} {v : Value} {P : Nat → Prop} (hs : UnS w w0 P b Un.new) (hv : UxV (w0.heap.size ≤ ·) w1 v Un.new) (hf1 : Fr [] w0 w1) :
    ∃ A1 c1 A2 c2 A3 c3, v = .agg #[.slice A1 8 c1, .slice A2 8 c2, .slice A3 0 c3] ∧ UxS w (w1.alloc (.cells #[.slice A1 8 c1, .slice A2 8 c2, .slice A3 0 c3] 28)) P b w1.heap.size (.slice A1 8 c1) (.slice A2 8 c2) (.slice A3 0 c3) Un.new Un.new := by
  obtain ⟨A1, c1, A2, c2, A3, c3, rfl⟩ := hv.form Un.new_ok
  refine ⟨A1, c1, A2, c2, A3, c3, rfl, ?_⟩
  obtain ⟨_, _, _, g1, g2, g3, e0, ⟨n1, n2, n3⟩, h1, h2, h3⟩ := hv
  injection e0 with e0
  injection e0 with e0
  injection e0 with e1 e0
  injection e0 with e2 e0
  injection e0 with e3 _
  subst e1 e2 e3
  have hX : Fr [] w1 (w1.alloc (.cells #[.slice A1 8 c1, .slice A2 8 c2, .slice A3 0 c3] 28)) := (Fr.refl _ w1).alloc _
  have l1 := h1.lt (Un.OK.nb Un.new_ok)
  have l2 := h2.lt (Un.OK.ny Un.new_ok)
  have z1 := hf1.size
  have hlt : ∀ k, P k → k < w0.heap.size := fun k hk => (hs.hP k hk).2
  have z0 := hs.fr.size
  refine ⟨(hs.step hf1).step hX, heap_alloc_new w1 _, RowO.of1 (h1.fr hX (by simp)) ?_, RowO.of1 (h2.fr hX (by simp)) ?_, ⟨g3, .inl rfl, h3.fr hX (by simp)⟩, fun hp => ?_, by omega, Un.new_ok⟩
  · rintro (hp | hp)
    · have := hlt _ hp; omega
    · omega
  · rintro (hp | hp)
    · have := hlt _ hp; omega
    · omega
  · have := hlt _ hp; omega
theorem uerr_ok (w : World) (c : Int) (hg : ErrType w) : Calls Tryd.prog 13 #[errV c, .int .i64 c] w (OkT w) := error_yes c w hg
theorem uerr_ok0 (w : World) (hg : ErrType w) : Calls Tryd.prog 13 #[.nilIface, .int .i64 0] w (OkT w) := error_yes 0 w hg
end Go.Proofs.YtmhmbgkpojgbbabDoor
