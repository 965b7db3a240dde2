/- What the law SparsePlays holds beside each other: the file and the reference's struct. -/
import Derived.Test.YtmgalnkcpolafaaDoorSpRef2
import Derived.Test.YtmgalnkcpolafaaDoorSpFacts
import Derived.Test.YtmgalnkcpolafaaDoorSpWrite
import Derived.Test.YtmgalnkcpolafaaDoorSpCut
import Derived.Test.YtmgalnkcpolafaaDoorSl2
namespace Go.Proofs.YtmgalnkcpolafaaDoor
open Go.RowKit

theorem SpF.frX {P : Nat → Prop} {w w' : World} {b N X : Nat} {f : Sp.F} (h : SpF P w b N f) (hf : Fr [X] w w') (hX : ¬ P X) : SpF P w' b N f := by
  obtain ⟨mb, n, o, hn, h1, h2⟩ := h
  exact ⟨mb, n, o, hn, h1.fr hf (by simp only [List.mem_singleton]; rintro rfl; exact hX h1.gb) (fun i hi h => by simp only [List.mem_singleton]; intro e; exact hX (e ▸ (h1.arr i hi h).1)), h2.fr hf (by simp only [List.mem_singleton]; rintro rfl; exact hX h1.gm)⟩
/-- The file (its block b), the reference's struct (its block X), in the world wr of a call that began at w. -/
structure SpS (w wr : World) (b X N : Nat) (vb vk : Value) (f x : Sp.F) (P : Nat → Prop) : Prop where
  file : SpF P wr b N f
  box : SpX wr X vb (.int .i64 x.size) vk
  byt : ∃ g, (¬ P g ∧ g ≠ X) ∧ Sl wr vb g x.byt
  blk : ∃ g, (¬ P g ∧ g ≠ X) ∧ Sl wr vk g x.blk
  hX : ¬ P X
  hP : ∀ j, P j → w.heap.size ≤ j ∧ j < wr.heap.size
  hXB : w.heap.size ≤ X
  ok : Sp.OK f
  okx : Sp.OK x
  fr : Fr [] w wr
section
variable {w wr w' : World} {b X N N' : Nat} {vb vk : Value} {f f' x x' : Sp.F} {P P' : Nat → Prop}
theorem SpS.lt (h : SpS w wr b X N vb vk f x P) : X < wr.heap.size := lt_of_heap h.box
theorem SpS.step (h : SpS w wr b X N vb vk f x P) (hf : Fr [] wr w') : SpS w w' b X N vb vk f x P := by
  obtain ⟨g1, n1, h1⟩ := h.byt
  obtain ⟨g2, n2, h2⟩ := h.blk
  exact ⟨h.file.keep hf, hf.get h.box (by simp), ⟨g1, n1, h1.fr hf (by simp)⟩, ⟨g2, n2, h2.fr hf (by simp)⟩, h.hX, fun j hj => ⟨(h.hP j hj).1, Nat.lt_of_lt_of_le (h.hP j hj).2 hf.size⟩, h.hXB, h.ok, h.okx, h.fr.trans hf⟩
theorem SpS.mono (h : SpS w wr b X N vb vk f x P) (hN : N ≤ N') : SpS w wr b X N' vb vk f x P := ⟨h.file.mono hN, h.box, h.byt, h.blk, h.hX, h.hP, h.hXB, h.ok, h.okx, h.fr⟩
theorem SpS.val (h : SpS w wr b X N vb vk f x P) : SpV (fun g => ¬ P g ∧ g ≠ X) wr (.agg #[vb, .int .i64 x.size, vk]) x := by
  obtain ⟨g1, n1, h1⟩ := h.byt
  obtain ⟨g2, n2, h2⟩ := h.blk
  exact ⟨_, _, _, _, rfl, ⟨n1, n2⟩, h1, h2⟩
theorem SpS.new (h : SpS w wr b X N vb vk f x P) : ∀ k, wr.heap.size ≤ k → ¬ P k ∧ k ≠ X := fun k hk => ⟨fun hp => by have := (h.hP k hp).2; omega, by have := h.lt; omega⟩
/-- The reference's answer is stored. -/
theorem SpS.put (h : SpS w wr b X N vb vk f x P) {v : Value} {w2 : World} (hf : Fr [] wr w2) (hv : SpV (fun g => ¬ P g ∧ g ≠ X) w2 v x') (hO : Sp.OK x') :
    ∃ A1 c1 A2 c2, v = .agg #[.slice A1 64 c1, .int .i64 x'.size, .slice A2 16 c2] ∧ SpS w (((w2.setCell ⟨X, 0, none⟩ (.slice A1 64 c1)).setCell ⟨X, 1, none⟩ (.int .i64 x'.size)).setCell ⟨X, 2, none⟩ (.slice A2 16 c2)) b X N (.slice A1 64 c1) (.slice A2 16 c2) f x' P := by
  obtain ⟨ub, uk, g1, g2, rfl, ⟨n1, n2⟩, h1, h2⟩ := hv
  have h' := h.step hf
  obtain ⟨A1, o1, c1, rfl, -, -, -⟩ := h1.form
  obtain ⟨A2, o2, c2, rfl, -, -, -⟩ := h2.form
  rw [hO.lenB] at *
  rw [hO.lenK] at *
  have hX : Fr [X] w2 (((w2.setCell ⟨X, 0, none⟩ (.slice A1 64 c1)).setCell ⟨X, 1, none⟩ (.int .i64 x'.size)).setCell ⟨X, 2, none⟩ (.slice A2 16 c2)) := (((Fr.refl _ w2).setCell (.inl (by simp)) _).setCell (.inl (by simp)) _).setCell (.inl (by simp)) _
  refine ⟨A1, c1, A2, c2, rfl, h'.file.frX hX h'.hX, ?_, ⟨g1, n1, h1.fr hX (by simpa using n1.2)⟩, ⟨g2, n2, h2.fr hX (by simpa using n2.2)⟩, h'.hX, fun j hj => ⟨(h'.hP j hj).1, Nat.lt_of_lt_of_le (h'.hP j hj).2 hX.size⟩, h'.hXB, h'.ok, hO, h'.fr.step hX (fun y hy => .inr (by simp only [List.mem_singleton] at hy; subst hy; exact h'.hXB))⟩
  have q1 : SpX (w2.setCell ⟨X, 0, none⟩ (.slice A1 64 c1)) X (.slice A1 64 c1) (.int .i64 x.size) vk := set_block h'.box _
  have q2 : SpX ((w2.setCell ⟨X, 0, none⟩ (.slice A1 64 c1)).setCell ⟨X, 1, none⟩ (.int .i64 x'.size)) X (.slice A1 64 c1) (.int .i64 x'.size) vk := set_block q1 (.int .i64 x'.size)
  exact set_block q2 _
/-- The file does something. -/
theorem SpS.turn (h : SpS w wr b X N vb vk f x P) (hF : SpF P' w' b N' f') (hf : FrP P wr w') (hP : ∀ j, P' j → P j ∨ wr.heap.size ≤ j) (hO : Sp.OK f') : SpS w w' b X N' vb vk f' x (fun j => P' j ∧ j < w'.heap.size) := by
  obtain ⟨g1, n1, h1⟩ := h.byt
  obtain ⟨g2, n2, h2⟩ := h.blk
  have l1 := sl_lt h1 (by rw [h.okx.lenB]; decide)
  have l2 := sl_lt h2 (by rw [h.okx.lenK]; decide)
  have nP : ∀ j, j < wr.heap.size → ¬ P j → ¬ (P' j ∧ j < w'.heap.size) := fun j hj hn hp => (hP j hp.1).elim hn (by omega)
  exact ⟨hF.tight, (hf.block X h.lt h.hX).trans h.box, ⟨g1, ⟨nP g1 l1 n1.1, n1.2⟩, h1.frP hf (.inr n1.1)⟩, ⟨g2, ⟨nP g2 l2 n2.1, n2.2⟩, h2.frP hf (.inr n2.1)⟩, nP X h.lt h.hX,
    fun j hj => ⟨(hP j hj.1).elim (fun hp => (h.hP j hp).1) (fun hp => Nat.le_trans h.fr.size hp), hj.2⟩, h.hXB, hO, h.okx, hf.fr h.fr (fun k hk => (h.hP k hk).1)⟩
end
/-- A new file, a new struct. -/
theorem SpS.start {w w0 w1 : World} {b : Nat} {v : Value} (hs : SpF (w.heap.size ≤ ·) w0 b 0 Sp.new) (hf : Fr [] w w0) (hv : SpV (w0.heap.size ≤ ·) w1 v Sp.new) (hf1 : Fr [] w0 w1) :
    ∃ A1 c1 A2 c2, v = .agg #[.slice A1 64 c1, .int .i64 0, .slice A2 16 c2] ∧ SpS w (w1.alloc (.cells #[.slice A1 64 c1, .int .i64 0, .slice A2 16 c2] 49)) b w1.heap.size 0 (.slice A1 64 c1) (.slice A2 16 c2) Sp.new Sp.new (fun j => w.heap.size ≤ j ∧ j < w0.heap.size) := by
  obtain ⟨ub, uk, g1, g2, rfl, ⟨n1, n2⟩, h1, h2⟩ := hv
  have l1 := sl_lt h1 (by rw [Sp.new_ok.lenB]; decide)
  have l2 := sl_lt h2 (by rw [Sp.new_ok.lenK]; decide)
  obtain ⟨A1, o1, c1, rfl, -, -, -⟩ := h1.form
  obtain ⟨A2, o2, c2, rfl, -, -, -⟩ := h2.form
  rw [Sp.new_ok.lenB] at *
  rw [Sp.new_ok.lenK] at *
  have z0 := hf.size
  have z1 := hf1.size
  have hX : Fr [] w1 (w1.alloc (.cells #[.slice A1 64 c1, .int .i64 0, .slice A2 16 c2] 49)) := (Fr.refl _ w1).alloc _
  exact ⟨A1, c1, A2, c2, rfl, (hs.tight.keep hf1).keep hX, heap_alloc_new w1 _, ⟨g1, ⟨by omega, by omega⟩, h1.fr hX (by simp)⟩, ⟨g2, ⟨by omega, by omega⟩, h2.fr hX (by simp)⟩, by omega, fun j hj => ⟨hj.1, by have := hX.size; omega⟩, by omega, Sp.new_ok, Sp.new_ok, (hf.trans hf1).trans hX⟩
/-- 'l[:n]'. -/
theorem Sl.take {w : World} {g o c : Nat} {xs : List Int} (hc : ∀ i, i < xs.length → w.cell? ⟨g, o + i, none⟩ = some (.int .i64 (nth xs i))) (h1 : xs.length ≤ c) (h2 : c ≤ maxLen) {n : Nat} (hn : n ≤ xs.length) : Sl w (.slice (some ⟨g, o, none⟩) n c) g (xs.take n) := by
  refine .inr ⟨o, c, by rw [List.length_take]; congr 1; omega, by rw [List.length_take]; omega, h2, fun i hi => ?_⟩
  rw [List.length_take] at hi
  rw [hc i (by omega)]
  have : i < n := by omega
  simp [nth, List.getD, this]
/-- 'l[a:b]'. -/
theorem Sl.cut {w : World} {g o c : Nat} {xs : List Int} (hc : ∀ i, i < xs.length → w.cell? ⟨g, o + i, none⟩ = some (.int .i64 (nth xs i))) (h1 : xs.length ≤ c) (h2 : c ≤ maxLen) {a n : Nat} (hn : a + n ≤ xs.length) : Sl w (.slice (some ⟨g, o + a, none⟩) n (c - a)) g ((xs.drop a).take n) := by
  have hl : ((xs.drop a).take n).length = n := by rw [List.length_take, List.length_drop]; omega
  refine .inr ⟨o + a, c - a, by rw [hl], by rw [hl]; omega, by omega, fun i hi => ?_⟩
  rw [hl] at hi
  rw [Nat.add_assoc, hc (a + i) (by omega)]
  simp [nth, List.getD, hi]
theorem Sp.read_all {f : Sp.F} (h : Sp.OK f) : Sp.readL f 0 64 = f.byt.take f.size := by
  unfold Sp.readL Sp.cutOut
  have := h.size
  rw [show min (0 + 64) f.size - 0 = f.size by omega]
  rfl
end Go.Proofs.YtmgalnkcpolafaaDoor
