/- What the law FdsPlays holds beside each other: the table and the reference's struct. -/
import Derived.Test.YtmgalnkcpolafaaDoorFdFine
import Derived.Test.YtmgalnkcpolafaaDoorFxRef4
import Derived.Test.YtmgalnkcpolafaaDoorFxNew
namespace Go.Proofs.YtmgalnkcpolafaaDoor
open Go.RowKit

/-- The blocks in which the reference's rows may lie. -/
def FdG (w : World) (b X : Nat) (fs : List Nat) (g : Nat) : Prop := w.heap.size ≤ g ∧ g ≠ b ∧ g ≠ X ∧ g ∉ fs
structure FdS (w wr : World) (b X : Nat) (t : Fd.T) (fs : List Nat) (v1 v2 v3 : Value) (x : Fx.X) : Prop where
  tab : FdT w.heap.size wr b t
  own : ∀ i o, Fd.nthO t.sl i = some o → o ∈ fs
  box : FxX wr X v1 v2 v3
  val : FxV (FdG w b X fs) wr (.agg #[v1, v2, v3]) x
  hX : w.heap.size ≤ X
  hXb : X ≠ b
  hXf : X ∉ fs
  hfs : ∀ o ∈ fs, w.heap.size ≤ o ∧ o < wr.heap.size
  fr : Fr [] w wr
theorem FdT.frP {B b : Nat} {t : Fd.T} {w w' : World} {P : Nat → Prop} (h : FdT B w b t) (hf : FrP P w w') (hb : ¬ P b) (ho : ∀ i o, Fd.nthO t.sl i = some o → ¬ P o) : FdT B w' b t :=
  ⟨h.ge, h.len, (hf.block b (lt_of_heap h.tab) hb).trans h.tab, fun i o hi => ⟨(h.open_ i o hi).1, (h.open_ i o hi).2.1, (hf.block o (lt_of_heap (h.open_ i o hi).2.2) (ho i o hi)).trans (h.open_ i o hi).2.2⟩⟩
theorem SlG.frP {G P : Nat → Prop} {w w' : World} {v : Value} {xs : List Int} (h : SlG G w v xs) (hf : FrP P w w') (hP : ∀ g, G g → ¬ P g) : SlG G w' v xs := by
  obtain ⟨g, h1, h2⟩ := h
  exact ⟨g, h1, h2.frP hf (h1.imp_right (hP g))⟩
theorem OwnG.frP {G P : Nat → Prop} {w w' : World} {v : Value} {xs : List Int} (h : OwnG G w v xs) (hf : FrP P w w') (hP : ∀ g, G g → ¬ P g) : OwnG G w' v xs := by
  refine ⟨h.1, ?_⟩
  have hG := h.1
  obtain ⟨h1, h2⟩ := h.2
  refine ⟨h1, ?_⟩
  rcases h2 with h2 | ⟨g, cap, cur, rfl, hb, hg, r⟩
  · exact .inl h2
  · exact .inr ⟨g, cap, cur, rfl, hb, (hf.block g (lt_of_heap hg) (hP g (hG g rfl))).trans hg, r⟩
theorem FxV.frP {G P : Nat → Prop} {w w' : World} {v : Value} {x : Fx.X} (h : FxV G w v x) (hf : FrP P w w') (hP : ∀ g, G g → ¬ P g) : FxV G w' v x := by
  obtain ⟨a, b, c, rfl, h1, h2, h3, h4⟩ := h
  exact ⟨a, b, c, rfl, h1.frP hf (fun g hg => hP g hg.1), h2.frP hf hP, h3.frP hf hP, h4⟩
theorem FrP.of_fr {S : List Nat} {w w' : World} (h : Fr S w w') : FrP (· ∈ S) w w' := (FrP.refl _ w).step h (fun _ hx => .inl hx)
/-- The rows' blocks lie below the world's size: what is made later is no row's. -/
theorem FxV.more {G : Nat → Prop} {w : World} {v : Value} {x : Fx.X} (h : FxV G w v x) {G' : Nat → Prop} (hG : ∀ g, G g → g < w.heap.size → G' g) : FxV G' w v x := by
  obtain ⟨a, b, c, rfl, ⟨g, h1, hs⟩, h2, h3, h4⟩ := h
  refine ⟨a, b, c, rfl, ?_, ⟨fun g hg => hG g (h2.1 g hg) (h2.2.ge g hg).2, h2.2⟩, ⟨fun g hg => hG g (h3.1 g hg) (h3.2.ge g hg).2, h3.2⟩, h4⟩
  by_cases h0 : 0 < x.of_.length
  · have h5 := h1.resolve_left (fun e => by rw [e] at h0; cases h0)
    exact ⟨g, .inr ⟨hG g h5.1 (sl_lt hs h0), h5.2⟩, hs⟩
  · exact ⟨g, .inl (List.eq_nil_of_length_eq_zero (by omega)), hs⟩
section
variable {w wr w' : World} {b X : Nat} {t t' : Fd.T} {fs fs' : List Nat} {v1 v2 v3 : Value} {x x' : Fx.X}
theorem FdS.lt (h : FdS w wr b X t fs v1 v2 v3 x) : X < wr.heap.size := lt_of_heap h.box
theorem FdS.new (h : FdS w wr b X t fs v1 v2 v3 x) : ∀ k, wr.heap.size ≤ k → FdG w b X fs k := fun k hk => by
  have h1 := h.lt
  have h2 := lt_of_heap h.tab.tab
  have h3 := h.fr.size
  exact ⟨by omega, by omega, by omega, fun hm => by have := (h.hfs k hm).2; omega⟩
theorem FdS.step (h : FdS w wr b X t fs v1 v2 v3 x) (hf : Fr [] wr w') : FdS w w' b X t fs v1 v2 v3 x :=
  ⟨h.tab.keep hf, h.own, hf.get h.box (by simp), h.val.fr hf, h.hX, h.hXb, h.hXf, fun o ho => ⟨(h.hfs o ho).1, Nat.lt_of_lt_of_le (h.hfs o ho).2 hf.size⟩, h.fr.trans hf⟩
/-- Another value is stored into the struct, its rows being in w2. -/
theorem FdS.put (h : FdS w wr b X t fs v1 v2 v3 x) {v : Value} {w2 : World} (hf : FrP (FdG w b X fs) wr w2) (hv : FxV (FdG w b X fs) w2 v x') :
    ∃ a b' c, v = .agg #[a, b', c] ∧ (∃ A n, a = .slice A x'.of_.length n) ∧ (∃ A n, b' = .slice A x'.sz.length n) ∧ (∃ A n, c = .slice A x'.pl.length n) ∧ FxX w2 X v1 v2 v3 ∧ Fr [] w w2 ∧
      FdS w (((w2.setCell ⟨X, 0, none⟩ a).setCell ⟨X, 1, none⟩ b').setCell ⟨X, 2, none⟩ c) b X t fs a b' c x' := by
  have hv0 := hv
  obtain ⟨a, b', c, rfl, h1, h2, h3, h4⟩ := hv
  have nb : ¬ FdG w b X fs b := fun h => h.2.1 rfl
  have nX : ¬ FdG w b X fs X := fun h => h.2.2.1 rfl
  have hbox : FxX w2 X v1 v2 v3 := (hf.block X h.lt nX).trans h.box
  have htab := h.tab.frP hf nb (fun i o ho hg => hg.2.2.2 (h.own i o ho))
  have hX : Fr [X] w2 (((w2.setCell ⟨X, 0, none⟩ a).setCell ⟨X, 1, none⟩ b').setCell ⟨X, 2, none⟩ c) := (((Fr.refl _ w2).setCell (.inl (by simp)) _).setCell (.inl (by simp)) _).setCell (.inl (by simp)) _
  have hfr : Fr [] w w2 := hf.fr h.fr (fun k hk => hk.1)
  have q1 : FxX (w2.setCell ⟨X, 0, none⟩ a) X a v2 v3 := set_block hbox a
  have q2 : FxX ((w2.setCell ⟨X, 0, none⟩ a).setCell ⟨X, 1, none⟩ b') X a b' v3 := set_block q1 b'
  refine ⟨a, b', c, rfl, h1.slice, h2.slice, h3.slice, hbox, hfr, htab.kept hX (fun y hy => ?_), h.own, set_block q2 c, hv0.frP (FrP.of_fr hX) (fun g hg hm => hg.2.2.1 (by simpa using hm)), h.hX, h.hXb, h.hXf, fun o ho => ⟨(h.hfs o ho).1, Nat.lt_of_lt_of_le (h.hfs o ho).2 (Nat.le_trans hf.size hX.size)⟩, hfr.step hX (fun y hy => .inr (by simp only [List.mem_singleton] at hy; subst hy; exact h.hX))⟩
  simp only [List.mem_singleton] at hy
  subst hy
  exact ⟨h.hXb, fun i hi => h.hXf (h.own i _ hi)⟩
/-- The table does something. -/
theorem FdS.turn (h : FdS w wr b X t fs v1 v2 v3 x) (hT : FdT w.heap.size w' b t') (hf : FrP (FdOwn b t) wr w') (ho : ∀ i o, Fd.nthO t'.sl i = some o → o ∈ fs') (hfs : ∀ o ∈ fs', o ∈ fs ∨ (wr.heap.size ≤ o ∧ o < w'.heap.size)) : FdS w w' b X t' fs' v1 v2 v3 x := by
  have hP : ∀ k, FdOwn b t k → k = b ∨ k ∈ fs := fun k hk => hk.imp_right (fun ⟨i, hi⟩ => h.own i k hi)
  have hlt := h.lt
  have hsz := hf.size
  have hwr := h.fr.size
  exact ⟨hT, ho, (hf.block X h.lt (fun hk => (hP X hk).elim h.hXb h.hXf)).trans h.box, ((h.val.more (G' := fun g => FdG w b X fs g ∧ FdG w b X fs' g) (fun g hg hl => ⟨hg, hg.1, hg.2.1, hg.2.2.1, fun hm => (hfs g hm).elim hg.2.2.2 (by omega)⟩)).frP hf (fun g hg hk => (hP g hk).elim hg.1.2.1 hg.1.2.2.2)).more (fun g hg _ => hg.2), h.hX, h.hXb, fun hm => (hfs X hm).elim h.hXf (by omega), fun o ho' => (hfs o ho').elim (fun hm => ⟨(h.hfs o hm).1, Nat.lt_of_lt_of_le (h.hfs o hm).2 hsz⟩) (fun hm => ⟨by omega, hm.2⟩), hf.fr h.fr (fun k hk => (hP k hk).elim (fun e => by rw [e]; exact h.tab.ge) (fun hm => (h.hfs k hm).1))⟩
/-- A new table, a new struct. -/
theorem FdS.start {w0 w1 : World} {v : Value} (hT : FdT w.heap.size w0 w.heap.size Fd.new) (hf : Fr [] w w0) (hv : FxV (w0.heap.size ≤ ·) w1 v Fx.new) (hf1 : Fr [] w0 w1) :
    ∃ A1 c1 A2 c2 A3 c3, v = .agg #[.slice A1 8 c1, .slice A2 0 c2, .slice A3 0 c3] ∧ FdS w (w1.alloc (.cells #[.slice A1 8 c1, .slice A2 0 c2, .slice A3 0 c3] 38)) w.heap.size w1.heap.size Fd.new [] (.slice A1 8 c1) (.slice A2 0 c2) (.slice A3 0 c3) Fx.new := by
  have hv0 := hv
  obtain ⟨a, b', c, rfl, h1, h2, h3, h4⟩ := hv
  obtain ⟨A1, c1, rfl⟩ := h1.slice
  obtain ⟨A2, c2, rfl⟩ := h2.slice
  obtain ⟨A3, c3, rfl⟩ := h3.slice
  have z0 := hf.size
  have z1 := hf1.size
  have zt := lt_of_heap hT.tab
  have hX : Fr [] w1 (w1.alloc (.cells #[.slice A1 8 c1, .slice A2 0 c2, .slice A3 0 c3] 38)) := (Fr.refl _ w1).alloc _
  refine ⟨A1, c1, A2, c2, A3, c3, rfl, (hT.keep hf1).keep hX, fun i o ho => ?_, heap_alloc_new w1 _, (hv0.more (fun g hg hl => ⟨by omega, by omega, by omega, by simp⟩)).fr hX, by omega, by omega, by simp, fun o ho => (by cases ho), (hf.trans hf1).trans hX⟩
  have hn : Fd.nthO Fd.new.sl i = none := by
    unfold Fd.nthO Fd.new
    simp only [List.getD_eq_getElem?_getD, List.getElem?_replicate]
    split <;> rfl
  rw [hn] at ho
  cases ho
end
end Go.Proofs.YtmgalnkcpolafaaDoor
