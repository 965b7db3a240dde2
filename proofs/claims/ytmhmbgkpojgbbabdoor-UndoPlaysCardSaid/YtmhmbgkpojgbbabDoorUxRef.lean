/- The document's answer for package undo: its struct in memory. -/
import Derived.Test.YtmhmbgkpojgbbabDoorUnLeave
import Derived.Test.YtmhmbgkpojgbbabDoorUxPlain
import Derived.Test.YtmhmbgkpojgbbabDoorRowE
import Derived.Test.YtmhmbgkpojgbbabDoorR2In
import Derived.Test.YtmhmbgkpojgbbabDoorCSet
namespace Go.Proofs.YtmhmbgkpojgbbabDoor
open Go.RowKit

/-- A value of the document's type, and what it says; its rows lie in blocks of G. -/
def UxV (G : Nat → Prop) (w : World) (v : Value) (d : Un.D) : Prop := ∃ a c l g1 g2 g3, v = .agg #[a, c, l] ∧ (G g1 ∧ G g2 ∧ G g3) ∧ Sl w a g1 d.blk ∧ Sl w c g2 d.busy ∧ SlR enP w l g3 d.was
/-- A variable of that type. -/
def UxX (w : World) (B : Nat) (a c l : Value) : Prop := w.heap[B]? = some (.cells #[a, c, l] 28 (0, 0))
theorem UxX.cells {w : World} {B : Nat} {a c l : Value} (x : UxX w B a c l) : w.cell? ⟨B, 0, none⟩ = some a ∧ w.cell? ⟨B, 1, none⟩ = some c ∧ w.cell? ⟨B, 2, none⟩ = some l := by
  refine ⟨?_, ?_, ?_⟩ <;> rw [cell_of_row w B _ _ _ _ x] <;> rfl
theorem UxX.load {w : World} {B : Nat} {a c l : Value} (x : UxX w B a c l) : (loadVar 28 ⟨B, 0, none⟩).run Tryd.prog w = .ok (.agg #[a, c, l]) w := by
  have := run_load_part (P := Tryd.prog) w B 0 3 _ 28 _ _ _ x Tryd.underlying28 rfl (by kernel_rfl) (by simp)
  simpa using this
theorem ux_results {fn : Func} {tmps : Array Value} {w : World} {i j : Nat} {B : Nat} {a c l x : Value} (hr : fn.results = #[.cell i 28, .tmp j]) (ha : tmps.getD i undef = .pointer (some ⟨B, 0, none⟩)) (hb : tmps.getD j undef = x) (h : UxX w B a c l) :
    (results fn tmps).run Tryd.prog w = .ok (.tuple #[.agg #[a, c, l], x]) w := by
  have ha' : tmps[i]?.getD undef = .pointer (some ⟨B, 0, none⟩) := by rw [← ha]; simp
  have hb' : tmps[j]?.getD undef = x := by rw [← hb]; simp
  unfold results
  rw [hr]
  simp [asAddr, Sem.run_bind, ha', hb', h.load]
/-- What its functions hand back. -/
def UxDn (G : Nat → Prop) (d : Un.D) (c : Int) (w : World) (e : Ending) (w' : World) : Prop := ∃ v, e = .returned (.tuple #[v, .int .i64 c]) ∧ UxV G w' v d ∧ Fr [] w w'
/-- In a call that began at w: the receiver's variable X, the answer's X2, what the receiver says. -/
structure UxW (G : Nat → Prop) (w wr : World) (X X2 : Nat) (a c l : Value) (d : Un.D) : Prop where
  box : UxX wr X a c l
  out : UxX wr X2 (.slice none 0 0) (.slice none 0 0) (.slice none 0 0)
  ra : ∃ g, (G g ∧ g ≠ X ∧ g ≠ X2) ∧ Sl wr a g d.blk
  rc : ∃ g, (G g ∧ g ≠ X ∧ g ≠ X2) ∧ Sl wr c g d.busy
  rl : ∃ g, (G g ∧ g ≠ X ∧ g ≠ X2) ∧ SlR enP wr l g d.was
  fr : Fr [] w wr
  hG : ∀ k, w.heap.size ≤ k → G k
  ge : w.heap.size ≤ X ∧ w.heap.size ≤ X2
  ne : X ≠ X2
section
variable {G : Nat → Prop} {w wr w' : World} {X X2 : Nat} {a c l v : Value} {d d' : Un.D} {xs : List Int}
theorem UxW.lt (h : UxW G w wr X X2 a c l d) : X < wr.heap.size ∧ X2 < wr.heap.size := ⟨lt_of_heap h.box, lt_of_heap h.out⟩
theorem UxW.step (h : UxW G w wr X X2 a c l d) (hf : Fr [] wr w') : UxW G w w' X X2 a c l d := by
  obtain ⟨g1, n1, h1⟩ := h.ra
  obtain ⟨g2, n2, h2⟩ := h.rc
  obtain ⟨g3, n3, h3⟩ := h.rl
  exact ⟨hf.get h.box (by simp), hf.get h.out (by simp), ⟨g1, n1, h1.fr hf (by simp)⟩, ⟨g2, n2, h2.fr hf (by simp)⟩, ⟨g3, n3, h3.fr hf (by simp)⟩, h.fr.trans hf, h.hG, h.ge, h.ne⟩
theorem UxW.cells (h : UxW G w wr X X2 a c l d) : (wr.cell? ⟨X, 0, none⟩ = some a ∧ wr.cell? ⟨X, 1, none⟩ = some c ∧ wr.cell? ⟨X, 2, none⟩ = some l) ∧ ∀ i, wr.frozen? ⟨X, i, none⟩ = false := ⟨h.box.cells, fun i => free_block h.box i none⟩
theorem UxW.new (h : UxW G w wr X X2 a c l d) {k : Nat} (hk : wr.heap.size ≤ k) : G k ∧ k ≠ X ∧ k ≠ X2 := by
  have := h.lt
  have := h.fr.size
  exact ⟨h.hG k (by omega), by omega, by omega⟩
/-- A row that was made. -/
theorem UxW.row (h : UxW G w wr X X2 a c l d) {e : Ending} (hn : NewRow xs wr e w') (hx : xs ≠ []) : ∃ A k, e = .returned (.slice A xs.length k) ∧ UxW G w w' X X2 a c l d ∧ Fr [] wr w' ∧ ∃ g, (G g ∧ g ≠ X ∧ g ≠ X2) ∧ Sl w' (.slice A xs.length k) g xs := by
  obtain ⟨v, g, rfl, hg, hs, hf⟩ := hn
  obtain ⟨A, o, k, rfl, -, -, -⟩ := hs.form
  exact ⟨A, k, rfl, h.step hf, hf, g, h.new (hg.resolve_right hx), hs⟩
theorem UxW.one (wr : World) (X i : Nat) (v : Value) : Fr [X] wr (wr.setCell ⟨X, i, none⟩ v) := (Fr.refl _ wr).setCell (.inl (by simp)) _
theorem UxW.frX (h : UxW G w wr X X2 a c l d) (hf : Fr [X] wr w') : Fr [] w w' := h.fr.step hf (fun y hy => .inr (by simp only [List.mem_singleton] at hy; subst hy; exact h.ge.1))
theorem UxW.nX : ∀ {g : Nat}, (G g ∧ g ≠ X ∧ g ≠ X2) → g ∉ [X] := fun h => by simpa using h.2.1
theorem UxW.setA (h : UxW G w wr X X2 a c l d) (hv : ∃ g, (G g ∧ g ≠ X ∧ g ≠ X2) ∧ Sl wr v g xs) : UxW G w (wr.setCell ⟨X, 0, none⟩ v) X X2 v c l ⟨xs, d.was, d.busy⟩ := by
  obtain ⟨g1, n1, h1⟩ := hv
  obtain ⟨g2, n2, h2⟩ := h.rc
  obtain ⟨g3, n3, h3⟩ := h.rl
  have hf := UxW.one wr X 0 v
  exact ⟨set_block h.box v, hf.get h.out (by simpa using h.ne.symm), ⟨g1, n1, h1.fr hf (UxW.nX n1)⟩, ⟨g2, n2, h2.fr hf (UxW.nX n2)⟩, ⟨g3, n3, h3.fr hf (UxW.nX n3)⟩, h.frX hf, h.hG, h.ge, h.ne⟩
theorem UxW.setC (h : UxW G w wr X X2 a c l d) (hv : ∃ g, (G g ∧ g ≠ X ∧ g ≠ X2) ∧ Sl wr v g xs) : UxW G w (wr.setCell ⟨X, 1, none⟩ v) X X2 a v l ⟨d.blk, d.was, xs⟩ := by
  obtain ⟨g1, n1, h1⟩ := h.ra
  obtain ⟨g2, n2, h2⟩ := hv
  obtain ⟨g3, n3, h3⟩ := h.rl
  have hf := UxW.one wr X 1 v
  exact ⟨set_block h.box v, hf.get h.out (by simpa using h.ne.symm), ⟨g1, n1, h1.fr hf (UxW.nX n1)⟩, ⟨g2, n2, h2.fr hf (UxW.nX n2)⟩, ⟨g3, n3, h3.fr hf (UxW.nX n3)⟩, h.frX hf, h.hG, h.ge, h.ne⟩
theorem UxW.setL (h : UxW G w wr X X2 a c l d) {was : List Un.P} {B : Nat} (hr : OwnR enP wr B 36 v was) (hB : w.heap.size ≤ B ∧ X < B ∧ X2 < B) : UxW G w (wr.setCell ⟨X, 2, none⟩ v) X X2 a c v ⟨d.blk, was, d.busy⟩ := by
  obtain ⟨g1, n1, h1⟩ := h.ra
  obtain ⟨g2, n2, h2⟩ := h.rc
  obtain ⟨g3, n3, h3⟩ : ∃ g, (G g ∧ g ≠ X ∧ g ≠ X2) ∧ SlR enP wr v g was := by
    obtain ⟨g, hg, hs⟩ := hr.sl
    rcases hg with hg | hg
    · exact ⟨g, ⟨h.hG g (by omega), by omega, by omega⟩, hs⟩
    · exact ⟨g1, n1, hs.any hg g1⟩
  have hf := UxW.one wr X 2 v
  exact ⟨set_block h.box v, hf.get h.out (by simpa using h.ne.symm), ⟨g1, n1, h1.fr hf (UxW.nX n1)⟩, ⟨g2, n2, h2.fr hf (UxW.nX n2)⟩, ⟨g3, n3, h3.fr hf (UxW.nX n3)⟩, h.frX hf, h.hG, h.ge, h.ne⟩
theorem UxW.val (h : UxW G w wr X X2 a c l d) : UxV (fun g => G g ∧ g ≠ X ∧ g ≠ X2) wr (.agg #[a, c, l]) d := by
  obtain ⟨g1, n1, h1⟩ := h.ra
  obtain ⟨g2, n2, h2⟩ := h.rc
  obtain ⟨g3, n3, h3⟩ := h.rl
  exact ⟨_, _, _, g1, g2, g3, rfl, ⟨n1, n2, n3⟩, h1, h2, h3⟩
/-- The answer is laid into its place. -/
theorem UxW.fin (h : UxW G w wr X X2 a c l d) : UxX (((wr.setCell ⟨X2, 0, none⟩ a).setCell ⟨X2, 1, none⟩ c).setCell ⟨X2, 2, none⟩ l) X2 a c l ∧ ∀ n, UxDn G d n w (.returned (.tuple #[.agg #[a, c, l], .int .i64 n])) (((wr.setCell ⟨X2, 0, none⟩ a).setCell ⟨X2, 1, none⟩ c).setCell ⟨X2, 2, none⟩ l) := by
  have hf : Fr [X2] wr (((wr.setCell ⟨X2, 0, none⟩ a).setCell ⟨X2, 1, none⟩ c).setCell ⟨X2, 2, none⟩ l) := (((Fr.refl _ wr).setCell (.inl (by simp)) _).setCell (.inl (by simp)) _).setCell (.inl (by simp)) _
  have h1 : UxX (wr.setCell ⟨X2, 0, none⟩ a) X2 a (.slice none 0 0) (.slice none 0 0) := set_block h.out _
  have h2 : UxX ((wr.setCell ⟨X2, 0, none⟩ a).setCell ⟨X2, 1, none⟩ c) X2 a c (.slice none 0 0) := set_block h1 _
  obtain ⟨g1, n1, s1⟩ := h.ra
  obtain ⟨g2, n2, s2⟩ := h.rc
  obtain ⟨g3, n3, s3⟩ := h.rl
  exact ⟨set_block h2 _, fun n => ⟨_, rfl, ⟨_, _, _, g1, g2, g3, rfl, ⟨n1.1, n2.1, n3.1⟩, s1.fr hf (by simpa using n1.2.2), s2.fr hf (by simpa using n2.2.2), s3.fr hf (by simpa using n3.2.2)⟩, h.fr.step hf (fun y hy => .inr (by simp only [List.mem_singleton] at hy; subst hy; exact h.ge.2))⟩⟩
/-- The receiver's variable holds another struct. -/
theorem UxW.put (h : UxW G w wr X X2 a c l d) {a' c' l' : Value} (hf : Fr [] wr w') (hv : UxV (fun g => G g ∧ g ≠ X ∧ g ≠ X2) w' (.agg #[a', c', l']) d') :
    UxW G w (((w'.setCell ⟨X, 0, none⟩ a').setCell ⟨X, 1, none⟩ c').setCell ⟨X, 2, none⟩ l') X X2 a' c' l' d' := by
  obtain ⟨_, _, _, g1, g2, g3, e0, ⟨n1, n2, n3⟩, h1, h2, h3⟩ := hv
  injection e0 with e0
  injection e0 with e0
  injection e0 with e1 e0
  injection e0 with e2 e0
  injection e0 with e3 _
  subst e1 e2 e3
  have s := h.step hf
  have hX : Fr [X] w' (((w'.setCell ⟨X, 0, none⟩ a').setCell ⟨X, 1, none⟩ c').setCell ⟨X, 2, none⟩ l') := (((Fr.refl _ w').setCell (.inl (by simp)) _).setCell (.inl (by simp)) _).setCell (.inl (by simp)) _
  have q1 : UxX (w'.setCell ⟨X, 0, none⟩ a') X a' c l := set_block s.box _
  have q2 : UxX ((w'.setCell ⟨X, 0, none⟩ a').setCell ⟨X, 1, none⟩ c') X a' c' l := set_block q1 _
  exact ⟨set_block q2 _, hX.get s.out (by simpa using s.ne.symm), ⟨g1, n1, h1.fr hX (UxW.nX n1)⟩, ⟨g2, n2, h2.fr hX (UxW.nX n2)⟩, ⟨g3, n3, h3.fr hX (UxW.nX n3)⟩, s.frX hX, s.hG, s.ge, s.ne⟩
end
/-- Where a call stands once its variables are laid. -/
theorem UxW.start {G : Nat → Prop} {w W : World} {X X2 : Nat} {a c l : Value} {d : Un.D} (hv : UxV G w (.agg #[a, c, l]) d) (hO : Un.OK d) (hG : ∀ k, w.heap.size ≤ k → G k) (hf : Fr [] w W) (h1 : W.heap[X]? = some (.cells #[a, c, l] 28))
    (h2 : W.heap[X2]? = some (.cells #[.slice none 0 0, .slice none 0 0, .slice none 0 0] 28)) (hX : w.heap.size ≤ X) (hX2 : w.heap.size ≤ X2) (hn : X ≠ X2) : UxW G w W X X2 a c l d := by
  obtain ⟨_, _, _, g1, g2, g3, e0, ⟨n1, n2, n3⟩, s1, s2, s3⟩ := hv
  injection e0 with e0
  injection e0 with e0
  injection e0 with e1 e0
  injection e0 with e2 e0
  injection e0 with e3 _
  subst e1 e2 e3
  have l1 := s1.lt (fun e => by have := hO.blk; rw [e] at this; cases this)
  have l2 := s2.lt (fun e => by have := hO.busy; rw [e] at this; cases this)
  have q3 : ∃ g, (G g ∧ g ≠ X ∧ g ≠ X2) ∧ SlR enP w l g d.was := by
    by_cases hl : d.was = []
    · exact ⟨g1, ⟨n1, by omega, by omega⟩, s3.any hl g1⟩
    · have := s3.lt hl
      exact ⟨g3, ⟨n3, by omega, by omega⟩, s3⟩
  obtain ⟨g3', n3', s3'⟩ := q3
  exact ⟨h1, h2, ⟨g1, ⟨n1, by omega, by omega⟩, s1.fr hf (by simp)⟩, ⟨g2, ⟨n2, by omega, by omega⟩, s2.fr hf (by simp)⟩, ⟨g3', n3', s3'.fr hf (by simp)⟩, hf, hG, ⟨hX, hX2⟩, hn⟩
end Go.Proofs.YtmhmbgkpojgbbabDoor
