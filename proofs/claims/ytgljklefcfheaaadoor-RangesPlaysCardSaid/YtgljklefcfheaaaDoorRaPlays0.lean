/- What the law RangesPlays holds beside each other: the table and the document's row. -/
import Derived.Test.YtgljklefcfheaaaDoorCLocks
import Derived.Test.YtgljklefcfheaaaDoorRefLk
namespace Go.Proofs.YtgljklefcfheaaaDoor
open Go.RowKit

/-- The table T (its block b), the row T2 (its variable X), in the world wr of a call that began at w. -/
structure RpS (w wr : World) (b X : Nat) (v : Value) (T T2 : List Int) : Prop where
  tab : RaSt w wr b T
  box : RkX wr X v
  row : RkV (fun g => g ≠ b ∧ g ≠ X) wr v T2
  ok : Ra.OK T2
  ne : b ≠ X
  hX : w.heap.size ≤ X
section
variable {w wr w' : World} {b X LB : Nat} {v u : Value} {T T2 T' T3 : List Int} {x y z : Int} {al : Bool}
theorem RkV.fr {G : Nat → Prop} {S : List Nat} (h : RkV G wr v T) (hf : Fr S wr w') (hS : ∀ g, G g → g ∉ S) : RkV G w' v T := by
  obtain ⟨g, hg, hs⟩ := h
  exact ⟨g, hg, hs.fr hf (hS g hg)⟩
theorem RpS.step (h : RpS w wr b X v T T2) (hf : Fr [] wr w') : RpS w w' b X v T T2 := ⟨h.tab.fr' hf, hf.get h.box (by simp), h.row.fr hf (by simp), h.ok, h.ne, h.hX⟩
theorem RpS.turn (h : RpS w wr b X v T T2) {e : Ending} (ha : RaAns b u T' wr e w') (hO : Ra.OK T') : e = .returned u ∧ RpS w w' b X v T' T2 :=
  ⟨ha.1, h.tab.ans ha hO, ha.2.2.get h.box (by simpa using Ne.symm h.ne), h.row.fr ha.2.2 (fun g hg => by simpa using hg.1), h.ok, h.ne, h.hX⟩
theorem RpS.put (h : RpS w wr b X v T T2) (hr : RkV (fun g => g ≠ b ∧ g ≠ X) wr u T3) (hO : Ra.OK T3) : RpS w (wr.setCell ⟨X, 0, none⟩ u) b X u T T3 := by
  have hf : Fr [X] wr (wr.setCell ⟨X, 0, none⟩ u) := (Fr.refl _ wr).setCell (.inl (by simp)) _
  exact ⟨⟨hf.get h.tab.disk (by simpa using h.ne), h.tab.ok, h.tab.fr.step hf (fun y hy => .inr (by simp only [List.mem_singleton] at hy; subst hy; exact h.hX)), h.tab.ge⟩, set_block h.box u, hr.fr hf (fun g hg => by simpa using hg.2), hO, h.ne, h.hX⟩
theorem RpS.new (h : RpS w wr b X v T T2) : ∀ k, wr.heap.size ≤ k → k ≠ b ∧ k ≠ X := fun k hk => by
  have h1 := lt_of_heap h.tab.disk
  have h2 := lt_of_heap h.box
  exact ⟨by omega, by omega⟩
/-- And a lock in a variable of its own (block LB). -/
structure RpL (w wr : World) (b X LB : Nat) (v : Value) (T T2 : List Int) (x y z : Int) (al : Bool) : Prop where
  s : RpS w wr b X v T T2
  lk : LkB wr LB x y z al
  nb : LB ≠ b
  nx : LB ≠ X
theorem RpL.step (h : RpL w wr b X LB v T T2 x y z al) (hf : Fr [] wr w') : RpL w w' b X LB v T T2 x y z al := ⟨h.s.step hf, hf.get h.lk (by simp), h.nb, h.nx⟩
theorem RpL.put (h : RpL w wr b X LB v T T2 x y z al) (hr : RkV (fun g => g ≠ b ∧ g ≠ X) wr u T3) (hO : Ra.OK T3) : RpL w (wr.setCell ⟨X, 0, none⟩ u) b X LB u T T3 x y z al :=
  ⟨h.s.put hr hO, ((Fr.refl [X] wr).setCell (.inl (by simp)) _).get h.lk (by simpa using h.nx), h.nb, h.nx⟩
theorem RpL.start (h : RpS w wr b X v T T2) (x y z : Int) (al : Bool) : RpL w (wr.alloc (.cells #[.int .i64 x, .int .i64 y, .int .i64 z, .bool al] 29)) b X wr.heap.size v T T2 x y z al := by
  have h1 := lt_of_heap h.tab.disk
  have h2 := lt_of_heap h.box
  exact ⟨h.step ((Fr.refl [] wr).alloc _), lkb_new wr x y z al, by omega, by omega⟩
theorem RpL.cells (h : RpL w wr b X LB v T T2 x y z al) : (wr.cell? ⟨LB, 0, none⟩ = some (.int .i64 x) ∧ wr.cell? ⟨LB, 1, none⟩ = some (.int .i64 y) ∧ wr.cell? ⟨LB, 2, none⟩ = some (.int .i64 z) ∧ wr.cell? ⟨LB, 3, none⟩ = some (.bool al)) ∧ wr.cell? ⟨X, 0, none⟩ = some v := ⟨h.lk.cells, h.s.box.cell⟩
end
/-- A new table, a new row. -/
theorem RpS.start {w w0 w1 : World} {e : Ending} (hd : RaD w0 w.heap.size Ra.new) (hf : Fr [] w w0) (ha : RfAns (w0.heap.size ≤ ·) Ra.new w0 e w1) :
    ∃ A c, e = .returned (.agg #[.slice A 256 c]) ∧ RpS w (w1.alloc (.cells #[.slice A 256 c] 47)) w.heap.size w1.heap.size (.slice A 256 c) Ra.new Ra.new := by
  obtain ⟨A, c, rfl, ⟨g, hg, hs⟩, hf1⟩ := ha
  have hX : Fr [] w1 (w1.alloc (.cells #[.slice A 256 c] 47)) := (Fr.refl _ w1).alloc _
  have z0 := hf.size
  have z1 := hf1.size
  have zb := lt_of_heap hd
  have lg : g < w1.heap.size := by
    obtain ⟨A', o', c', e, -, -, hc⟩ := hs.form
    exact block_lt_of_cell (hc 0 (by rw [show Ra.new.length = 256 from List.length_replicate]; decide))
  exact ⟨A, c, rfl, ⟨hX.get (hf1.get hd (by simp)) (by simp), Ra.new_ok, (hf.trans hf1).trans hX, Nat.le_refl _⟩, heap_alloc_new w1 _, ⟨g, ⟨by omega, by omega⟩, hs.fr hX (by simp)⟩, Ra.new_ok, by omega, by omega⟩
theorem rerr_ok (w : World) (c : Int) (hg : ErrType w) : Calls Tryd.prog 15 #[errV c, .int .i64 c] w (OkT w) := error_yes c w hg
end Go.Proofs.YtgljklefcfheaaaDoor
