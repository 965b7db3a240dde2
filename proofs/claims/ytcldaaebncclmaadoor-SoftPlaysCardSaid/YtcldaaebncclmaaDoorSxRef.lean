/- The document's answer for package soft: its struct in memory. Printed by wip/gen_sxref.py. -/
import Derived.Test.YtcldaaebncclmaaDoorSoDone
import Derived.Test.YtcldaaebncclmaaDoorSoWalk5
import Derived.Test.YtcldaaebncclmaaDoorRowE
import Derived.Test.YtcldaaebncclmaaDoorCSet
import Derived.Test.YtcldaaebncclmaaDoorCopy
namespace Go.Proofs.YtcldaaebncclmaaDoor
open Go.RowKit

theorem sx_part_in {L : List Int} {o n i : Nat} (x : Int) (hl : o + n ≤ L.length) (hi : i < n) : part (L.set (o + i) x) o n = (part L o n).set i x := by
  refine eq_of_getD (by rw [List.length_set, part_len (by simpa using hl), part_len hl]) (fun j hj => ?_)
  rw [part_len (by simpa using hl)] at hj
  rw [part_nth hj, So.nth_set _ _ _ _ (by omega), So.nth_set _ _ _ _ (by rw [part_len hl]; exact hi), part_nth hj]
  by_cases e : i = j
  · rw [if_pos e, if_pos (by omega)]
  · rw [if_neg e, if_neg (by omega)]
theorem sx_part_out {L : List Int} {o n q : Nat} (x : Int) (hl : o + n ≤ L.length) (hq : q < o ∨ o + n ≤ q) : part (L.set q x) o n = part L o n := by
  refine eq_of_getD (by rw [part_len (by simpa using hl), part_len hl]) (fun j hj => ?_)
  rw [part_len (by simpa using hl)] at hj
  rw [part_nth hj, part_nth hj]
  unfold nth
  simp only [List.getD_eq_getElem?_getD, List.getElem?_set]
  rw [if_neg (by omega)]
/-- Four lists: counts, entries, those of the disk. -/
structure So4 where
  c : List Int
  e : List Int
  dc : List Int
  de : List Int
def So4.of (L : List Int) : So4 := ⟨part L 20 8, part L 28 12, part L 0 8, part L 8 12⟩
structure So4.OK (s : So4) : Prop where
  c : s.c.length = 8
  e : s.e.length = 12
  dc : s.dc.length = 8
  de : s.de.length = 12
theorem So4.of_ok {L : List Int} (h : L.length = 40) : (So4.of L).OK := ⟨part_len (by omega), part_len (by omega), part_len (by omega), part_len (by omega)⟩
theorem So4.of_c {L : List Int} (h : L.length = 40) {i : Nat} (hi : i < 8) (x : Int) : So4.of (L.set (20 + i) x) = ⟨(part L 20 8).set i x, part L 28 12, part L 0 8, part L 8 12⟩ := by
  unfold So4.of
  rw [show part (L.set (20 + i) x) 20 8 = _ from sx_part_in x (by omega) hi, show part (L.set (20 + i) x) 28 12 = _ from sx_part_out x (by omega) (by omega), show part (L.set (20 + i) x) 0 8 = _ from sx_part_out x (by omega) (by omega), show part (L.set (20 + i) x) 8 12 = _ from sx_part_out x (by omega) (by omega)]
theorem So4.of_e {L : List Int} (h : L.length = 40) {i : Nat} (hi : i < 12) (x : Int) : So4.of (L.set (28 + i) x) = ⟨part L 20 8, (part L 28 12).set i x, part L 0 8, part L 8 12⟩ := by
  unfold So4.of
  rw [show part (L.set (28 + i) x) 20 8 = _ from sx_part_out x (by omega) (by omega), show part (L.set (28 + i) x) 28 12 = _ from sx_part_in x (by omega) hi, show part (L.set (28 + i) x) 0 8 = _ from sx_part_out x (by omega) (by omega), show part (L.set (28 + i) x) 8 12 = _ from sx_part_out x (by omega) (by omega)]
theorem So4.of_dc {L : List Int} (h : L.length = 40) {i : Nat} (hi : i < 8) (x : Int) : So4.of (L.set (0 + i) x) = ⟨part L 20 8, part L 28 12, (part L 0 8).set i x, part L 8 12⟩ := by
  unfold So4.of
  rw [show part (L.set (0 + i) x) 20 8 = _ from sx_part_out x (by omega) (by omega), show part (L.set (0 + i) x) 28 12 = _ from sx_part_out x (by omega) (by omega), show part (L.set (0 + i) x) 0 8 = _ from sx_part_in x (by omega) hi, show part (L.set (0 + i) x) 8 12 = _ from sx_part_out x (by omega) (by omega)]
theorem So4.of_de {L : List Int} (h : L.length = 40) {i : Nat} (hi : i < 12) (x : Int) : So4.of (L.set (8 + i) x) = ⟨part L 20 8, part L 28 12, part L 0 8, (part L 8 12).set i x⟩ := by
  unfold So4.of
  rw [show part (L.set (8 + i) x) 20 8 = _ from sx_part_out x (by omega) (by omega), show part (L.set (8 + i) x) 28 12 = _ from sx_part_out x (by omega) (by omega), show part (L.set (8 + i) x) 0 8 = _ from sx_part_out x (by omega) (by omega), show part (L.set (8 + i) x) 8 12 = _ from sx_part_in x (by omega) hi]
/-- A value of the document's type, and what it says; its rows lie in blocks of G. -/
def SxV (G : Nat → Prop) (w : World) (v : Value) (s : So4) : Prop := ∃ va vb vc vd g1 g2 g3 g4, v = .agg #[va, vb, vc, vd] ∧ (G g1 ∧ G g2 ∧ G g3 ∧ G g4) ∧ Sl w va g1 s.c ∧ Sl w vb g2 s.e ∧ Sl w vc g3 s.dc ∧ Sl w vd g4 s.de
/-- A variable of that type. -/
def SxX (w : World) (B : Nat) (va vb vc vd : Value) : Prop := w.heap[B]? = some (.cells #[va, vb, vc, vd] 50 (0, 0))
theorem SxX.cells {w : World} {B : Nat} {va vb vc vd : Value} (x : SxX w B va vb vc vd) : w.cell? ⟨B, 0, none⟩ = some va ∧ w.cell? ⟨B, 1, none⟩ = some vb ∧ w.cell? ⟨B, 2, none⟩ = some vc ∧ w.cell? ⟨B, 3, none⟩ = some vd := by
  refine ⟨?_, ?_, ?_, ?_⟩ <;> rw [cell_of_row w B _ _ _ _ x] <;> rfl
theorem SxX.load {w : World} {B : Nat} {va vb vc vd : Value} (x : SxX w B va vb vc vd) : (loadVar 50 ⟨B, 0, none⟩).run Tryd.prog w = .ok (.agg #[va, vb, vc, vd]) w := by
  have := run_load_part (P := Tryd.prog) w B 0 4 _ 50 _ _ _ x Tryd.underlying50 rfl (by kernel_rfl) (by simp)
  simpa using this
theorem sx_results {fn : Func} {tmps : Array Value} {w : World} {i j : Nat} {B : Nat} {va vb vc vd x : Value} (hr : fn.results = #[.cell i 50, .tmp j]) (ha : tmps.getD i undef = .pointer (some ⟨B, 0, none⟩)) (hb : tmps.getD j undef = x) (h : SxX w B va vb vc vd) :
    (results fn tmps).run Tryd.prog w = .ok (.tuple #[.agg #[va, vb, vc, vd], x]) w := by
  have ha' : tmps[i]?.getD undef = .pointer (some ⟨B, 0, none⟩) := by rw [← ha]; simp
  have hb' : tmps[j]?.getD undef = x := by rw [← hb]; simp
  unfold results
  rw [hr]
  simp [asAddr, Sem.run_bind, ha', hb', h.load]
/-- What its functions hand back. -/
def SxDn (G : Nat → Prop) (s : So4) (n : Int) (w : World) (e : Ending) (w' : World) : Prop := ∃ v, e = .returned (.tuple #[v, .int .i64 n]) ∧ SxV G w' v s ∧ Fr [] w w'
theorem sx_two (w : World) (o0 o1 : Obj) : ((w.alloc o0).alloc o1).heap.size = w.heap.size + 2 ∧ Fr [] w ((w.alloc o0).alloc o1) ∧
    ((w.alloc o0).alloc o1).heap[w.heap.size]? = some o0 ∧ ((w.alloc o0).alloc o1).heap[w.heap.size + 1]? = some o1 := by
  have h (a : World) (o p : Obj) {k : Nat} (hk : a.heap[k]? = some p) : (a.alloc o).heap[k]? = some p := ((Fr.refl [] a).alloc o).get hk (by simp)
  have n1 := heap_alloc_new (w.alloc o0) o1
  simp only [World.size_alloc] at n1
  exact ⟨by simp, ((Fr.refl [] w).alloc _).alloc _, h _ _ _ (heap_alloc_new w o0), n1⟩
/-- In a call that began at w: the receiver's variable X, the answer's X2, what the receiver says. -/
structure SxW (G : Nat → Prop) (w wr : World) (X X2 : Nat) (va vb vc vd : Value) (s : So4) : Prop where
  box : SxX wr X va vb vc vd
  out : SxX wr X2 (.slice none 0 0) (.slice none 0 0) (.slice none 0 0) (.slice none 0 0)
  ra : ∃ g, (G g ∧ g ≠ X ∧ g ≠ X2) ∧ Sl wr va g s.c
  rb : ∃ g, (G g ∧ g ≠ X ∧ g ≠ X2) ∧ Sl wr vb g s.e
  rc : ∃ g, (G g ∧ g ≠ X ∧ g ≠ X2) ∧ Sl wr vc g s.dc
  rd : ∃ g, (G g ∧ g ≠ X ∧ g ≠ X2) ∧ Sl wr vd g s.de
  fr : Fr [] w wr
  hG : ∀ k, w.heap.size ≤ k → G k
  ge : w.heap.size ≤ X ∧ w.heap.size ≤ X2
  ne : X ≠ X2
section
variable {G : Nat → Prop} {w wr w' : World} {X X2 : Nat} {va vb vc vd v : Value} {s : So4} {xs : List Int}
theorem SxW.lt (h : SxW G w wr X X2 va vb vc vd s) : X < wr.heap.size ∧ X2 < wr.heap.size := ⟨lt_of_heap h.box, lt_of_heap h.out⟩
theorem sx_row {P : Nat → Prop} {S : List Nat} (h : ∃ g, P g ∧ Sl wr v g xs) (hf : Fr S wr w') (hS : ∀ g, P g → g ∉ S) : ∃ g, P g ∧ Sl w' v g xs := by
  obtain ⟨g, hg, hs⟩ := h
  exact ⟨g, hg, hs.fr hf (hS g hg)⟩
theorem SxW.step (h : SxW G w wr X X2 va vb vc vd s) (hf : Fr [] wr w') : SxW G w w' X X2 va vb vc vd s :=
  ⟨hf.get h.box (by simp), hf.get h.out (by simp), sx_row h.ra hf (by simp), sx_row h.rb hf (by simp), sx_row h.rc hf (by simp), sx_row h.rd hf (by simp), h.fr.trans hf, h.hG, h.ge, h.ne⟩
theorem SxW.cells (h : SxW G w wr X X2 va vb vc vd s) : (wr.cell? ⟨X, 0, none⟩ = some va ∧ wr.cell? ⟨X, 1, none⟩ = some vb ∧ wr.cell? ⟨X, 2, none⟩ = some vc ∧ wr.cell? ⟨X, 3, none⟩ = some vd) ∧ ∀ i, wr.frozen? ⟨X, i, none⟩ = false := ⟨h.box.cells, fun i => free_block h.box i none⟩
theorem SxW.outs (h : SxW G w wr X X2 va vb vc vd s) : (wr.cell? ⟨X2, 0, none⟩ = some (.slice none 0 0) ∧ wr.cell? ⟨X2, 1, none⟩ = some (.slice none 0 0) ∧ wr.cell? ⟨X2, 2, none⟩ = some (.slice none 0 0) ∧ wr.cell? ⟨X2, 3, none⟩ = some (.slice none 0 0)) ∧ ∀ i, wr.frozen? ⟨X2, i, none⟩ = false := ⟨h.out.cells, fun i => free_block h.out i none⟩
theorem SxW.new (h : SxW G w wr X X2 va vb vc vd s) {k : Nat} (hk : wr.heap.size ≤ k) : G k ∧ k ≠ X ∧ k ≠ X2 := by
  have := h.lt
  have := h.fr.size
  exact ⟨h.hG k (by omega), by omega, by omega⟩
/-- A row that was made. -/
theorem SxW.row (h : SxW G w wr X X2 va vb vc vd s) {e : Ending} (hn : NewRow xs wr e w') (hx : xs ≠ []) : ∃ A k, e = .returned (.slice A xs.length k) ∧ SxW G w w' X X2 va vb vc vd s ∧ Fr [] wr w' ∧ ∃ g, (G g ∧ g ≠ X ∧ g ≠ X2) ∧ Sl w' (.slice A xs.length k) g xs := by
  obtain ⟨v, g, rfl, hg, hs, hf⟩ := hn
  obtain ⟨A, o, k, rfl, -, -, -⟩ := hs.form
  exact ⟨A, k, rfl, h.step hf, hf, g, h.new (hg.resolve_right hx), hs⟩
theorem SxW.one (wr : World) (X i : Nat) (v : Value) : Fr [X] wr (wr.setCell ⟨X, i, none⟩ v) := (Fr.refl _ wr).setCell (.inl (by simp)) _
theorem SxW.frX (h : SxW G w wr X X2 va vb vc vd s) (hf : Fr [X] wr w') : Fr [] w w' := h.fr.step hf (fun y hy => .inr (by simp only [List.mem_singleton] at hy; subst hy; exact h.ge.1))
theorem SxW.nX : ∀ g, (G g ∧ g ≠ X ∧ g ≠ X2) → g ∉ [X] := fun g h => by simpa using h.2.1
theorem SxW.setA (h : SxW G w wr X X2 va vb vc vd s) (hv : ∃ g, (G g ∧ g ≠ X ∧ g ≠ X2) ∧ Sl wr v g xs) : SxW G w (wr.setCell ⟨X, 0, none⟩ v) X X2 v vb vc vd ⟨xs, s.e, s.dc, s.de⟩ :=
  ⟨set_block h.box v, (SxW.one wr X 0 v).get h.out (by simpa using h.ne.symm), sx_row hv (SxW.one wr X 0 v) SxW.nX, sx_row h.rb (SxW.one wr X 0 v) SxW.nX, sx_row h.rc (SxW.one wr X 0 v) SxW.nX, sx_row h.rd (SxW.one wr X 0 v) SxW.nX, h.frX (SxW.one wr X 0 v), h.hG, h.ge, h.ne⟩
theorem SxW.setB (h : SxW G w wr X X2 va vb vc vd s) (hv : ∃ g, (G g ∧ g ≠ X ∧ g ≠ X2) ∧ Sl wr v g xs) : SxW G w (wr.setCell ⟨X, 1, none⟩ v) X X2 va v vc vd ⟨s.c, xs, s.dc, s.de⟩ :=
  ⟨set_block h.box v, (SxW.one wr X 1 v).get h.out (by simpa using h.ne.symm), sx_row h.ra (SxW.one wr X 1 v) SxW.nX, sx_row hv (SxW.one wr X 1 v) SxW.nX, sx_row h.rc (SxW.one wr X 1 v) SxW.nX, sx_row h.rd (SxW.one wr X 1 v) SxW.nX, h.frX (SxW.one wr X 1 v), h.hG, h.ge, h.ne⟩
theorem SxW.setC (h : SxW G w wr X X2 va vb vc vd s) (hv : ∃ g, (G g ∧ g ≠ X ∧ g ≠ X2) ∧ Sl wr v g xs) : SxW G w (wr.setCell ⟨X, 2, none⟩ v) X X2 va vb v vd ⟨s.c, s.e, xs, s.de⟩ :=
  ⟨set_block h.box v, (SxW.one wr X 2 v).get h.out (by simpa using h.ne.symm), sx_row h.ra (SxW.one wr X 2 v) SxW.nX, sx_row h.rb (SxW.one wr X 2 v) SxW.nX, sx_row hv (SxW.one wr X 2 v) SxW.nX, sx_row h.rd (SxW.one wr X 2 v) SxW.nX, h.frX (SxW.one wr X 2 v), h.hG, h.ge, h.ne⟩
theorem SxW.setD (h : SxW G w wr X X2 va vb vc vd s) (hv : ∃ g, (G g ∧ g ≠ X ∧ g ≠ X2) ∧ Sl wr v g xs) : SxW G w (wr.setCell ⟨X, 3, none⟩ v) X X2 va vb vc v ⟨s.c, s.e, s.dc, xs⟩ :=
  ⟨set_block h.box v, (SxW.one wr X 3 v).get h.out (by simpa using h.ne.symm), sx_row h.ra (SxW.one wr X 3 v) SxW.nX, sx_row h.rb (SxW.one wr X 3 v) SxW.nX, sx_row h.rc (SxW.one wr X 3 v) SxW.nX, sx_row hv (SxW.one wr X 3 v) SxW.nX, h.frX (SxW.one wr X 3 v), h.hG, h.ge, h.ne⟩
theorem SxW.val (h : SxW G w wr X X2 va vb vc vd s) : SxV (fun g => (G g ∧ g ≠ X ∧ g ≠ X2)) wr (.agg #[va, vb, vc, vd]) s := by
  obtain ⟨g1, n1, h1⟩ := h.ra
  obtain ⟨g2, n2, h2⟩ := h.rb
  obtain ⟨g3, n3, h3⟩ := h.rc
  obtain ⟨g4, n4, h4⟩ := h.rd
  exact ⟨_, _, _, _, g1, g2, g3, g4, rfl, ⟨n1, n2, n3, n4⟩, h1, h2, h3, h4⟩
theorem sx_store (w1 : World) (B : Nat) (va vb vc vd a0 b0 c0 d0 : Value) (h : SxX w1 B a0 b0 c0 d0) : SxX ((((w1.setCell ⟨B, 0, none⟩ va).setCell ⟨B, 1, none⟩ vb).setCell ⟨B, 2, none⟩ vc).setCell ⟨B, 3, none⟩ vd) B va vb vc vd ∧ Fr [B] w1 ((((w1.setCell ⟨B, 0, none⟩ va).setCell ⟨B, 1, none⟩ vb).setCell ⟨B, 2, none⟩ vc).setCell ⟨B, 3, none⟩ vd) := by
  have h1 : SxX (w1.setCell ⟨B, 0, none⟩ va) B va b0 c0 d0 := set_block h _
  have h2 : SxX ((w1.setCell ⟨B, 0, none⟩ va).setCell ⟨B, 1, none⟩ vb) B va vb c0 d0 := set_block h1 _
  have h3 : SxX (((w1.setCell ⟨B, 0, none⟩ va).setCell ⟨B, 1, none⟩ vb).setCell ⟨B, 2, none⟩ vc) B va vb vc d0 := set_block h2 _
  exact ⟨set_block h3 _, ((((Fr.refl _ w1).setCell (.inl (by simp)) _).setCell (.inl (by simp)) _).setCell (.inl (by simp)) _).setCell (.inl (by simp)) _⟩
/-- The answer is laid into its place. -/
theorem SxW.fin (h : SxW G w wr X X2 va vb vc vd s) : SxX ((((wr.setCell ⟨X2, 0, none⟩ va).setCell ⟨X2, 1, none⟩ vb).setCell ⟨X2, 2, none⟩ vc).setCell ⟨X2, 3, none⟩ vd) X2 va vb vc vd ∧ ∀ n, SxDn G s n w (.returned (.tuple #[.agg #[va, vb, vc, vd], .int .i64 n])) ((((wr.setCell ⟨X2, 0, none⟩ va).setCell ⟨X2, 1, none⟩ vb).setCell ⟨X2, 2, none⟩ vc).setCell ⟨X2, 3, none⟩ vd) := by
  obtain ⟨q1, hf⟩ := sx_store wr X2 va vb vc vd _ _ _ _ h.out
  obtain ⟨g1, n1, s1⟩ := h.ra
  obtain ⟨g2, n2, s2⟩ := h.rb
  obtain ⟨g3, n3, s3⟩ := h.rc
  obtain ⟨g4, n4, s4⟩ := h.rd
  exact ⟨q1, fun n => ⟨_, rfl, ⟨_, _, _, _, g1, g2, g3, g4, rfl, ⟨n1.1, n2.1, n3.1, n4.1⟩, s1.fr hf (by simpa using n1.2.2), s2.fr hf (by simpa using n2.2.2), s3.fr hf (by simpa using n3.2.2), s4.fr hf (by simpa using n4.2.2)⟩, h.fr.step hf (fun y hy => .inr (by simp only [List.mem_singleton] at hy; subst hy; exact h.ge.2))⟩⟩
end
/-- Where a call stands once its variables are laid. -/
theorem SxW.start {G : Nat → Prop} {w W : World} {X X2 : Nat} {va vb vc vd : Value} {s : So4} (hv : SxV G w (.agg #[va, vb, vc, vd]) s) (hO : s.OK) (hG : ∀ k, w.heap.size ≤ k → G k) (hf : Fr [] w W) (h1 : W.heap[X]? = some (.cells #[va, vb, vc, vd] 50))
    (h2 : W.heap[X2]? = some (.cells #[.slice none 0 0, .slice none 0 0, .slice none 0 0, .slice none 0 0] 50)) (hX : w.heap.size ≤ X) (hX2 : w.heap.size ≤ X2) (hn : X ≠ X2) : SxW G w W X X2 va vb vc vd s := by
  obtain ⟨_, _, _, _, g1, g2, g3, g4, e0, ⟨n1, n2, n3, n4⟩, s1, s2, s3, s4⟩ := hv
  injection e0 with e0
  injection e0 with e0
  injection e0 with e1 e0
  injection e0 with e2 e0
  injection e0 with e3 e0
  injection e0 with e4 _
  subst e1 e2 e3 e4
  have l1 := s1.lt (fun e => by have := hO.c; rw [e] at this; cases this)
  have l2 := s2.lt (fun e => by have := hO.e; rw [e] at this; cases this)
  have l3 := s3.lt (fun e => by have := hO.dc; rw [e] at this; cases this)
  have l4 := s4.lt (fun e => by have := hO.de; rw [e] at this; cases this)
  exact ⟨h1, h2, ⟨g1, ⟨n1, by omega, by omega⟩, s1.fr hf (by simp)⟩, ⟨g2, ⟨n2, by omega, by omega⟩, s2.fr hf (by simp)⟩, ⟨g3, ⟨n3, by omega, by omega⟩, s3.fr hf (by simp)⟩, ⟨g4, ⟨n4, by omega, by omega⟩, s4.fr hf (by simp)⟩, hf, hG, ⟨hX, hX2⟩, hn⟩
/-- The form of such a value. -/
theorem SxV.form {G : Nat → Prop} {w : World} {v : Value} {s : So4} (hv : SxV G w v s) (hO : s.OK) : ∃ A1 c1 A2 c2 A3 c3 A4 c4, v = .agg #[.slice A1 8 c1, .slice A2 12 c2, .slice A3 8 c3, .slice A4 12 c4] := by
  obtain ⟨va, vb, vc, vd, g1, g2, g3, g4, rfl, -, h1, h2, h3, h4⟩ := hv
  obtain ⟨A1, o1, c1, rfl, -, -, -⟩ := h1.form
  obtain ⟨A2, o2, c2, rfl, -, -, -⟩ := h2.form
  obtain ⟨A3, o3, c3, rfl, -, -, -⟩ := h3.form
  obtain ⟨A4, o4, c4, rfl, -, -, -⟩ := h4.form
  exact ⟨A1, c1, A2, c2, A3, c3, A4, c4, by rw [hO.c, hO.e, hO.dc, hO.de]⟩
end Go.Proofs.YtcldaaebncclmaaDoor
