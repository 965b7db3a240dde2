/- What the law ShadowPlays holds beside each other: the disk and the document's struct. -/
import Derived.Test.YtmhmbgkpojgbbaaDoorSdNew
import Derived.Test.YtmhmbgkpojgbbaaDoorErr2
import Derived.Test.YtmhmbgkpojgbbaaDoorRw2
namespace Go.Proofs.YtmhmbgkpojgbbaaDoor
open Go.RowKit

theorem Sl.form2 {w : World} {v : Value} {g : Nat} {xs : List Int} (h : Sl w v g xs) (h0 : 0 < xs.length) : ∃ o c, v = .slice (some ⟨g, o, none⟩) xs.length c ∧ xs.length ≤ c ∧ c ≤ maxLen ∧ ∀ i, i < xs.length → w.cell? ⟨g, o + i, none⟩ = some (.int .i64 (nth xs i)) := by
  rcases h with ⟨rfl, _⟩ | h
  · simp at h0
  · exact h
/-- The disk d (its block b), the struct x (its block X), in the world wr of a call that began at w. -/
structure SdS (w wr : World) (b X : Nat) (s o n : Value) (d x : Sh.D) : Prop where
  disk : ShD wr b d
  box : SdX wr X s o n
  slot : ∃ g, (g ≠ b ∧ g ≠ X) ∧ Sl wr s g x.slot
  old : ∃ g, (g ≠ b ∧ g ≠ X) ∧ Sl wr o g x.old
  now : ∃ g, (g ≠ b ∧ g ≠ X) ∧ Sl wr n g x.now
  ne : b ≠ X
  hb : w.heap.size ≤ b
  hX : w.heap.size ≤ X
  ok : Sh.OK d
  okx : Sh.OK x
  fr : Fr [] w wr
section
variable {w wr w' : World} {b X : Nat} {s o n : Value} {d d' x x' : Sh.D}
theorem SdS.step (h : SdS w wr b X s o n d x) (hf : Fr [] wr w') : SdS w w' b X s o n d x :=
  ⟨hf.get h.disk (by simp), hf.get h.box (by simp), row_fr h.slot hf (by simp), row_fr h.old hf (by simp), row_fr h.now hf (by simp), h.ne, h.hb, h.hX, h.ok, h.okx, h.fr.trans hf⟩
theorem SdS.nb {b X : Nat} : ∀ g, (g ≠ b ∧ g ≠ X) → g ∉ [b] := fun g h => by simpa using h.1
theorem SdS.nX {b X : Nat} : ∀ g, (g ≠ b ∧ g ≠ X) → g ∉ [X] := fun g h => by simpa using h.2
theorem SdS.turn (h : SdS w wr b X s o n d x) (hd : ShD w' b d') (hf : Fr [b] wr w') (hO : Sh.OK d') : SdS w w' b X s o n d' x :=
  ⟨hd, hf.get h.box (by simpa using Ne.symm h.ne), row_fr h.slot hf SdS.nb, row_fr h.old hf SdS.nb, row_fr h.now hf SdS.nb, h.ne, h.hb, h.hX, hO, h.okx, h.fr.step hf (fun y hy => .inr (by simp only [List.mem_singleton] at hy; subst hy; exact h.hb))⟩
theorem SdS.val (h : SdS w wr b X s o n d x) : SdV (fun g => g ≠ b ∧ g ≠ X) wr (.agg #[s, o, n]) x := by
  obtain ⟨g1, n1, h1⟩ := h.slot
  obtain ⟨g2, n2, h2⟩ := h.old
  obtain ⟨g3, n3, h3⟩ := h.now
  exact ⟨_, _, _, g1, g2, g3, rfl, ⟨n1, n2, n3⟩, h1, h2, h3⟩
theorem SdS.new (h : SdS w wr b X s o n d x) : ∀ k, wr.heap.size ≤ k → k ≠ b ∧ k ≠ X := fun k hk => by
  have h1 := lt_of_heap h.disk
  have h2 := lt_of_heap h.box
  exact ⟨by omega, by omega⟩
theorem SdS.one (wr : World) (X i : Nat) (v : Value) : Fr [X] wr (wr.setCell ⟨X, i, none⟩ v) := (Fr.refl _ wr).setCell (.inl (by simp)) _
theorem SdS.frX (h : SdS w wr b X s o n d x) (hf : Fr [X] wr w') : Fr [] w w' := h.fr.step hf (fun y hy => .inr (by simp only [List.mem_singleton] at hy; subst hy; exact h.hX))
theorem SdS.fin_ (h : SdS w wr b X s o n d x) : SdS w (wr.setCell ⟨X, 1, none⟩ n) b X s n n d (Sh.fin x) :=
  ⟨(SdS.one wr X 1 n).get h.disk (by simpa using h.ne), set_block h.box n, row_fr h.slot (SdS.one wr X 1 n) SdS.nX, row_fr h.now (SdS.one wr X 1 n) SdS.nX, row_fr h.now (SdS.one wr X 1 n) SdS.nX, h.ne, h.hb, h.hX, h.ok, Sh.fin_ok h.okx, h.frX (SdS.one wr X 1 n)⟩
theorem SdS.crash_ (h : SdS w wr b X s o n d x) : SdS w (wr.setCell ⟨X, 2, none⟩ o) b X s o o d (Sh.crash x) :=
  ⟨(SdS.one wr X 2 o).get h.disk (by simpa using h.ne), set_block h.box o, row_fr h.slot (SdS.one wr X 2 o) SdS.nX, row_fr h.old (SdS.one wr X 2 o) SdS.nX, row_fr h.old (SdS.one wr X 2 o) SdS.nX, h.ne, h.hb, h.hX, h.ok, Sh.crash_ok h.okx, h.frX (SdS.one wr X 2 o)⟩
theorem SdV.form {G : Nat → Prop} {w : World} {v : Value} {x : Sh.D} (h : SdV G w v x) (hO : Sh.OK x) : ∃ A1 c1 A2 c2 A3 c3, v = .agg #[.slice A1 16 c1, .slice A2 8 c2, .slice A3 8 c3] := by
  obtain ⟨s, o, n, g1, g2, g3, rfl, -, h1, h2, h3⟩ := h
  obtain ⟨A1, o1, c1, rfl, -, -, -⟩ := h1.form
  obtain ⟨A2, o2, c2, rfl, -, -, -⟩ := h2.form
  obtain ⟨A3, o3, c3, rfl, -, -, -⟩ := h3.form
  exact ⟨A1, c1, A2, c2, A3, c3, by rw [hO.slots, hO.told.len, hO.tnow.len]⟩
/-- The document's answer is stored. -/
theorem SdS.put (h : SdS w wr b X s o n d x) {s' o' n' : Value} {w2 : World} (hf : Fr [] wr w2) (hv : SdV (fun g => g ≠ b ∧ g ≠ X) w2 (.agg #[s', o', n']) x') (hO : Sh.OK x') :
    SdS w (((w2.setCell ⟨X, 0, none⟩ s').setCell ⟨X, 1, none⟩ o').setCell ⟨X, 2, none⟩ n') b X s' o' n' d x' := by
  obtain ⟨_, _, _, g1, g2, g3, e0, ⟨n1, n2, n3⟩, h1, h2, h3⟩ := hv
  injection e0 with e0
  injection e0 with e0
  injection e0 with e1 e0
  injection e0 with e2 e0
  injection e0 with e3 _
  subst e1 e2 e3
  have h' := h.step hf
  have hX : Fr [X] w2 (((w2.setCell ⟨X, 0, none⟩ s').setCell ⟨X, 1, none⟩ o').setCell ⟨X, 2, none⟩ n') := (((Fr.refl _ w2).setCell (.inl (by simp)) _).setCell (.inl (by simp)) _).setCell (.inl (by simp)) _
  have q1 : SdX (w2.setCell ⟨X, 0, none⟩ s') X s' o n := set_block h'.box _
  have q2 : SdX ((w2.setCell ⟨X, 0, none⟩ s').setCell ⟨X, 1, none⟩ o') X s' o' n := set_block q1 _
  exact ⟨hX.get h'.disk (by simpa using h'.ne), set_block q2 _, ⟨g1, n1, h1.fr hX (SdS.nX _ n1)⟩, ⟨g2, n2, h2.fr hX (SdS.nX _ n2)⟩, ⟨g3, n3, h3.fr hX (SdS.nX _ n3)⟩, h'.ne, h'.hb, h'.hX, h'.ok, hO, h'.frX hX⟩
theorem SdS.cells (h : SdS w wr b X s o n d x) : (wr.cell? ⟨X, 0, none⟩ = some s ∧ wr.cell? ⟨X, 1, none⟩ = some o ∧ wr.cell? ⟨X, 2, none⟩ = some n) ∧ ∀ i, wr.frozen? ⟨X, i, none⟩ = false := ⟨h.box.cells, fun i => free_block h.box i none⟩
end
theorem error_nil (w : World) (hg : ErrType w) : Calls Tryd.prog 12 #[.nilIface, .int .i64 0] w (OkT w) := error_yes 0 w hg
theorem error_one (w : World) (hg : ErrType w) : Calls Tryd.prog 12 #[.iface 73 (.int .i64 1), .int .i64 1] w (OkT w) := error_yes 1 w hg
/-- A new disk, a new struct. -/
theorem SdS.start {w w0 w1 : World} {b : Nat} {v : Value} (hd : ShD w0 b Sh.new) (hb : w.heap.size ≤ b) (hf : Fr [] w w0) (hv : SdV (w0.heap.size ≤ ·) w1 v Sh.new) (hf1 : Fr [] w0 w1) :
    ∃ A1 c1 A2 c2 A3 c3, v = .agg #[.slice A1 16 c1, .slice A2 8 c2, .slice A3 8 c3] ∧ SdS w (w1.alloc (.cells #[.slice A1 16 c1, .slice A2 8 c2, .slice A3 8 c3] 27)) b w1.heap.size (.slice A1 16 c1) (.slice A2 8 c2) (.slice A3 8 c3) Sh.new Sh.new := by
  obtain ⟨A1, c1, A2, c2, A3, c3, rfl⟩ := hv.form Sh.new_ok
  refine ⟨A1, c1, A2, c2, A3, c3, rfl, ?_⟩
  obtain ⟨_, _, _, g1, g2, g3, e0, ⟨n1, n2, n3⟩, h1, h2, h3⟩ := hv
  injection e0 with e0
  injection e0 with e0
  injection e0 with e1 e0
  injection e0 with e2 e0
  injection e0 with e3 _
  subst e1 e2 e3
  have z0 := hf.size
  have z1 := hf1.size
  have zb := lt_of_heap hd
  have l1 := sl_lt h1 (by decide)
  have l2 := sl_lt h2 (by decide)
  have l3 := sl_lt h3 (by decide)
  have hX : Fr [] w1 (w1.alloc (.cells #[.slice A1 16 c1, .slice A2 8 c2, .slice A3 8 c3] 27)) := (Fr.refl _ w1).alloc _
  exact ⟨hX.get (hf1.get hd (by simp)) (by simp), heap_alloc_new w1 _, ⟨g1, ⟨by omega, by omega⟩, h1.fr hX (by simp)⟩, ⟨g2, ⟨by omega, by omega⟩, h2.fr hX (by simp)⟩, ⟨g3, ⟨by omega, by omega⟩, h3.fr hX (by simp)⟩, by omega, hb, by omega, Sh.new_ok, Sh.new_ok, (hf.trans hf1).trans hX⟩
end Go.Proofs.YtmhmbgkpojgbbaaDoor
