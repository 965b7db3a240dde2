/- What the law SoftPlays holds beside each other: the disk and the document's struct. -/
import Derived.Test.YtcldaaebncclmaaDoorSxNew
import Derived.Test.YtcldaaebncclmaaDoorSxSync
import Derived.Test.YtcldaaebncclmaaDoorSxDo0
import Derived.Test.YtcldaaebncclmaaDoorSxDo1
import Derived.Test.YtcldaaebncclmaaDoorSxDo2
import Derived.Test.YtcldaaebncclmaaDoorSxDo3
namespace Go.Proofs.YtcldaaebncclmaaDoor
open Go.RowKit

theorem sx_Do (w : World) (G : Nat → Prop) (v : Value) (L : List Int) (n : Nat) (k a c : Int) (hk : 0 ≤ k ∧ k ≤ 3) (hv : SxV G w v (So4.of L)) (hO : So.OK L n) (hn : n ≤ 1000) (hG : ∀ k, w.heap.size ≤ k → G k) :
    Calls Tryd.prog 23 #[v, .int .i64 k, .int .i64 a, .int .i64 c] w (SxDn G (So4.of (So.act L k a c).1) (So.act L k a c).2 w) := by
  by_cases h0 : k = 0
  · subst h0
    exact sx_Do0 w G v L n a c hv hO hn hG
  · by_cases h1 : k = 1
    · subst h1
      exact sx_Do1 w G v L n a c hv hO hn hG
    · by_cases h2 : k = 2
      · subst h2
        exact sx_Do2 w G v L n a c hv hO hn hG
      · obtain rfl : k = 3 := by omega
        exact sx_Do3 w G v L n a c hv hO hn hG
theorem So4.crash_of {L : List Int} (h : L.length = 40) : So4.of (So.crash L) = ⟨(So4.of L).dc, (So4.of L).de, (So4.of L).dc, (So4.of L).de⟩ := by
  have hl : (So.crash L).length = 40 := by unfold So.crash; simp; omega
  have hp : ∀ o m q, o + m ≤ 40 → q + m ≤ 40 → (∀ j, j < m → nth (So.crash L) (o + j) = nth L (q + j)) → part (So.crash L) o m = part L q m := fun o m q h1 h2 hh =>
    eq_of_getD (by rw [part_len (by omega), part_len (by omega)]) (fun j hj => by
      rw [part_len (by omega)] at hj
      rw [part_nth hj, part_nth hj]
      exact hh j hj)
  unfold So4.of
  rw [hp 20 8 0 (by decide) (by decide) (fun j hj => by rw [So.crash_nth h, if_neg (by omega), if_pos (by omega)]; congr 1; omega), hp 28 12 8 (by decide) (by decide) (fun j hj => by rw [So.crash_nth h, if_neg (by omega), if_pos (by omega)]; congr 1; omega),
    hp 0 8 0 (by decide) (by decide) (fun j hj => by rw [So.crash_nth h, if_pos (by omega)]), hp 8 12 8 (by decide) (by decide) (fun j hj => by rw [So.crash_nth h, if_pos (by omega)])]
/-- The disk L (its block b), the struct that says M (its block X), in the world wr of a call that began at w. -/
structure SxS (w wr : World) (b X : Nat) (va vb vc vd : Value) (L M : List Int) (k : Nat) : Prop where
  disk : SoD wr b L
  box : SxX wr X va vb vc vd
  ra : ∃ g, (g ≠ b ∧ g ≠ X) ∧ Sl wr va g (So4.of M).c
  rb : ∃ g, (g ≠ b ∧ g ≠ X) ∧ Sl wr vb g (So4.of M).e
  rc : ∃ g, (g ≠ b ∧ g ≠ X) ∧ Sl wr vc g (So4.of M).dc
  rd : ∃ g, (g ≠ b ∧ g ≠ X) ∧ Sl wr vd g (So4.of M).de
  ok : So.OK L k
  okx : So.OK M k
  ne : b ≠ X
  hb : w.heap.size ≤ b
  hX : w.heap.size ≤ X
  fr : Fr [] w wr
section
variable {w wr w' : World} {b X : Nat} {va vb vc vd : Value} {L L' M M' : List Int} {k m : Nat}
theorem SxS.step (h : SxS w wr b X va vb vc vd L M k) (hf : Fr [] wr w') : SxS w w' b X va vb vc vd L M k :=
  ⟨h.disk.fr hf (by simp), hf.get h.box (by simp), sx_row h.ra hf (by simp), sx_row h.rb hf (by simp), sx_row h.rc hf (by simp), sx_row h.rd hf (by simp), h.ok, h.okx, h.ne, h.hb, h.hX, h.fr.trans hf⟩
theorem SxS.mono (h : SxS w wr b X va vb vc vd L M k) (hm : k ≤ m) : SxS w wr b X va vb vc vd L M m := ⟨h.disk, h.box, h.ra, h.rb, h.rc, h.rd, h.ok.mono hm, h.okx.mono hm, h.ne, h.hb, h.hX, h.fr⟩
theorem SxS.turn (h : SxS w wr b X va vb vc vd L M k) {v : Value} {e : Ending} (ha : SoAns b v L' wr e w') (hO : So.OK L' k) : e = .returned v ∧ SxS w w' b X va vb vc vd L' M k := by
  obtain ⟨h1, h2, h3⟩ := ha
  exact ⟨h1, h2, h3.get h.box (by simpa using h.ne.symm), sx_row h.ra h3 (fun g hg => by simpa using hg.1), sx_row h.rb h3 (fun g hg => by simpa using hg.1), sx_row h.rc h3 (fun g hg => by simpa using hg.1), sx_row h.rd h3 (fun g hg => by simpa using hg.1), hO, h.okx, h.ne, h.hb, h.hX, h.fr.step h3 (fun y hy => .inr (by simp only [List.mem_singleton] at hy; subst hy; exact h.hb))⟩
theorem SxS.val (h : SxS w wr b X va vb vc vd L M k) : SxV (fun g => g ≠ b ∧ g ≠ X) wr (.agg #[va, vb, vc, vd]) (So4.of M) := by
  obtain ⟨g1, n1, h1⟩ := h.ra
  obtain ⟨g2, n2, h2⟩ := h.rb
  obtain ⟨g3, n3, h3⟩ := h.rc
  obtain ⟨g4, n4, h4⟩ := h.rd
  exact ⟨_, _, _, _, g1, g2, g3, g4, rfl, ⟨n1, n2, n3, n4⟩, h1, h2, h3, h4⟩
theorem SxS.new (h : SxS w wr b X va vb vc vd L M k) : ∀ q, wr.heap.size ≤ q → q ≠ b ∧ q ≠ X := fun q hq => by
  have h1 := lt_of_heap h.disk
  have h2 := lt_of_heap h.box
  exact ⟨by omega, by omega⟩
theorem SxS.cells (h : SxS w wr b X va vb vc vd L M k) : (wr.cell? ⟨X, 0, none⟩ = some va ∧ wr.cell? ⟨X, 1, none⟩ = some vb ∧ wr.cell? ⟨X, 2, none⟩ = some vc ∧ wr.cell? ⟨X, 3, none⟩ = some vd) ∧ ∀ i, wr.frozen? ⟨X, i, none⟩ = false := ⟨h.box.cells, fun i => free_block h.box i none⟩
theorem SxS.nX {b X : Nat} : ∀ g, (g ≠ b ∧ g ≠ X) → g ∉ [X] := fun g h => by simpa using h.2
theorem SxS.frX (h : SxS w wr b X va vb vc vd L M k) (hf : Fr [X] wr w') : Fr [] w w' := h.fr.step hf (fun y hy => .inr (by simp only [List.mem_singleton] at hy; subst hy; exact h.hX))
/-- The document's answer is stored. -/
theorem SxS.put (h : SxS w wr b X va vb vc vd L M k) {a' b' c' d' : Value} {w2 : World} (hf : Fr [] wr w2) (hv : SxV (fun g => g ≠ b ∧ g ≠ X) w2 (.agg #[a', b', c', d']) (So4.of M')) (hO : So.OK M' k) :
    SxS w ((((w2.setCell ⟨X, 0, none⟩ a').setCell ⟨X, 1, none⟩ b').setCell ⟨X, 2, none⟩ c').setCell ⟨X, 3, none⟩ d') b X a' b' c' d' L M' k := by
  obtain ⟨_, _, _, _, g1, g2, g3, g4, e0, ⟨n1, n2, n3, n4⟩, h1, h2, h3, h4⟩ := hv
  injection e0 with e0
  injection e0 with e0
  injection e0 with e1 e0
  injection e0 with e2 e0
  injection e0 with e3 e0
  injection e0 with e4 _
  subst e1 e2 e3 e4
  have s := h.step hf
  obtain ⟨q1, hX⟩ := sx_store w2 X a' b' c' d' _ _ _ _ s.box
  exact ⟨s.disk.fr hX (by simpa using s.ne), q1, ⟨g1, n1, h1.fr hX (SxS.nX _ n1)⟩, ⟨g2, n2, h2.fr hX (SxS.nX _ n2)⟩, ⟨g3, n3, h3.fr hX (SxS.nX _ n3)⟩, ⟨g4, n4, h4.fr hX (SxS.nX _ n4)⟩, s.ok, hO, s.ne, s.hb, s.hX, s.frX hX⟩
/-- The disk's lists are laid into memory's place. -/
theorem SxS.crash_ (h : SxS w wr b X va vb vc vd L M k) : SxX (wr.setCell ⟨X, 0, none⟩ vc) X vc vb vc vd ∧ SxS w ((wr.setCell ⟨X, 0, none⟩ vc).setCell ⟨X, 1, none⟩ vd) b X vc vd vc vd L (So.crash M) k := by
  have q1 : SxX (wr.setCell ⟨X, 0, none⟩ vc) X vc vb vc vd := set_block h.box _
  have hX : Fr [X] wr ((wr.setCell ⟨X, 0, none⟩ vc).setCell ⟨X, 1, none⟩ vd) := ((Fr.refl _ wr).setCell (.inl (by simp)) _).setCell (.inl (by simp)) _
  have hc := So4.crash_of h.okx.shp.len
  have rc := sx_row h.rc hX SxS.nX
  have rd := sx_row h.rd hX SxS.nX
  refine ⟨q1, h.disk.fr hX (by simpa using h.ne), set_block q1 _, ?_, ?_, ?_, ?_, h.ok, So.crash_ok h.okx, h.ne, h.hb, h.hX, h.frX hX⟩ <;> rw [hc]
  · exact rc
  · exact rd
  · exact rc
  · exact rd
end
/-- A new disk, a new struct. -/
theorem SxS.start {w w0 w1 : World} {v : Value} (hd : SoD w0 w.heap.size So.new) (hf : Fr [] w w0) (hv : SxV (w0.heap.size ≤ ·) w1 v (So4.of So.new)) (hf1 : Fr [] w0 w1) :
    ∃ A1 c1 A2 c2 A3 c3 A4 c4, v = .agg #[.slice A1 8 c1, .slice A2 12 c2, .slice A3 8 c3, .slice A4 12 c4] ∧ SxS w (w1.alloc (.cells #[.slice A1 8 c1, .slice A2 12 c2, .slice A3 8 c3, .slice A4 12 c4] 50)) w.heap.size w1.heap.size (.slice A1 8 c1) (.slice A2 12 c2) (.slice A3 8 c3) (.slice A4 12 c4) So.new So.new 0 := by
  have hO := So4.of_ok (L := So.new) So.new_shp.len
  obtain ⟨A1, c1, A2, c2, A3, c3, A4, c4, rfl⟩ := hv.form hO
  refine ⟨A1, c1, A2, c2, A3, c3, A4, c4, rfl, ?_⟩
  obtain ⟨_, _, _, _, g1, g2, g3, g4, e0, ⟨n1, n2, n3, n4⟩, h1, h2, h3, h4⟩ := hv
  injection e0 with e0
  injection e0 with e0
  injection e0 with e1 e0
  injection e0 with e2 e0
  injection e0 with e3 e0
  injection e0 with e4 _
  subst e1 e2 e3 e4
  have l1 := h1.lt (fun e => by have := hO.c; rw [e] at this; cases this)
  have l2 := h2.lt (fun e => by have := hO.e; rw [e] at this; cases this)
  have l3 := h3.lt (fun e => by have := hO.dc; rw [e] at this; cases this)
  have l4 := h4.lt (fun e => by have := hO.de; rw [e] at this; cases this)
  have z0 := hf.size
  have z1 := hf1.size
  have zb := lt_of_heap hd
  have hX : Fr [] w1 (w1.alloc (.cells #[.slice A1 8 c1, .slice A2 12 c2, .slice A3 8 c3, .slice A4 12 c4] 50)) := (Fr.refl _ w1).alloc _
  exact ⟨hX.get (hf1.get hd (by simp)) (by simp), heap_alloc_new w1 _, ⟨g1, ⟨by omega, by omega⟩, h1.fr hX (by simp)⟩, ⟨g2, ⟨by omega, by omega⟩, h2.fr hX (by simp)⟩, ⟨g3, ⟨by omega, by omega⟩, h3.fr hX (by simp)⟩, ⟨g4, ⟨by omega, by omega⟩, h4.fr hX (by simp)⟩, So.new_ok, So.new_ok, by omega, Nat.le_refl _, by omega, (hf.trans hf1).trans hX⟩
theorem serr_ok (w : World) (c : Int) (hg : ErrType w) : Calls Tryd.prog 9 #[errV c, .int .i64 c] w (OkT w) := error_yes c w hg
end Go.Proofs.YtcldaaebncclmaaDoor
