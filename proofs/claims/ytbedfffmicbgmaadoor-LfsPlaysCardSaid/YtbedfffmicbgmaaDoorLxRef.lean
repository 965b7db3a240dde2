/- The document's answer for package lfs: its struct in memory. -/
import Derived.Test.YtbedfffmicbgmaaDoorSpreadI
import Derived.Test.YtbedfffmicbgmaaDoorLxPlain
import Derived.Test.YtbedfffmicbgmaaDoorLfHeap
namespace Go.Proofs.YtbedfffmicbgmaaDoor
open Go.RowKit

theorem lx_sl_nil {w w' : World} {v : Value} {g g' : Nat} {xs : List Int} (h : Sl w v g xs) (hx : xs = []) : Sl w' v g' xs := by
  rcases h with ⟨_, A, c, rfl⟩ | ⟨o, c, rfl, _, _, _⟩
  · exact .inl ⟨hx, A, c, rfl⟩
  · exact .inl ⟨hx, some ⟨g, o, none⟩, c, by rw [hx]; rfl⟩
/-- A row that lies in a block of G, or has nothing. -/
def RowG (G : Nat → Prop) (w : World) (v : Value) (xs : List Int) : Prop := ∃ g, (G g ∨ xs = []) ∧ Sl w v g xs
section
variable {G G' : Nat → Prop} {w w' : World} {v : Value} {xs : List Int}
theorem RowG.fr {S : List Nat} (h : RowG G w v xs) (hf : Fr S w w') (hS : ∀ g ∈ S, ¬ G g) : RowG G w' v xs := by
  obtain ⟨g, hg, hs⟩ := h
  rcases hg with hg | hg
  · exact ⟨g, .inl hg, hs.fr hf (fun hm => hS g hm hg)⟩
  · exact ⟨g, .inr hg, lx_sl_nil hs hg⟩
theorem RowG.lt {g : Nat} (hs : Sl w v g xs) (hx : xs ≠ []) : g < w.heap.size := by
  obtain ⟨A, o, c, rfl, -, -, hc⟩ := hs.form
  exact block_lt_of_cell (hc 0 (by cases xs with | nil => exact absurd rfl hx | cons a l => simp))
theorem RowG.mono (h : RowG G w v xs) (hG : ∀ g, g < w.heap.size → G g → G' g) : RowG G' w v xs := by
  obtain ⟨g, hg, hs⟩ := h
  by_cases hx : xs = []
  · exact ⟨g, .inr hx, hs⟩
  · exact ⟨g, .inl (hG g (RowG.lt hs hx) (hg.resolve_right hx)), hs⟩
/-- Another world, in which the blocks of G are as they were. -/
theorem RowG.keep (h : RowG G w v xs) (hk : ∀ g, g < w.heap.size → G g → w'.heap[g]? = w.heap[g]?) : RowG G w' v xs := by
  obtain ⟨g, hg, hs⟩ := h
  by_cases hx : xs = []
  · exact ⟨g, .inr hx, lx_sl_nil hs hx⟩
  · have hgg := hg.resolve_right hx
    have hlt := RowG.lt hs hx
    refine ⟨g, .inl hgg, ?_⟩
    rcases hs with h1 | ⟨o, c, h0, h1, h2, h3⟩
    · exact .inl h1
    · exact .inr ⟨o, c, h0, h1, h2, fun i hi => (World.cell?_of_block (hk g hlt hgg)).trans (h3 i hi)⟩
theorem RowG.form (h : RowG G w v xs) : ∃ (A : Option Addr) (g o c : Nat), v = .slice A xs.length c ∧ xs.length ≤ 9223372036854775807 ∧ (0 < xs.length → A = some ⟨g, o, none⟩) ∧ ∀ W, Fr [] w W → ∀ i, i < xs.length → W.cell? ⟨g, o + i, none⟩ = some (.int .i64 (nth xs i)) := by
  obtain ⟨g, _, hs⟩ := h
  obtain ⟨A, o, c, rfl, hm, hA, hc⟩ := hs.form
  exact ⟨A, g, o, c, rfl, hm, hA, fun W hW i hi => hW.cell (hc i hi) (by simp)⟩
end
/-- A variable of the document's type. -/
def LxX (w : World) (B : Nat) (a b c d e : Value) (h : Nat) : Prop := w.heap[B]? = some (.cells #[a, b, c, d, e, .int .i64 (h : Int)] 27 (0, 0))
/-- The rows of a struct. -/
structure LxR (G : Nat → Prop) (w : World) (a b c d e : Value) (x : Lx.X) : Prop where
  ra : RowG G w a x.sg
  rb : RowG G w b x.at_
  rc : RowG G w c x.page
  rd : RowG G w d x.value
  re : RowG G w e x.many
/-- A value of the document's type, and what it says. -/
def LxV (G : Nat → Prop) (w : World) (v : Value) (x : Lx.X) : Prop := ∃ a b c d e, v = .agg #[a, b, c, d, e, .int .i64 (x.head : Int)] ∧ LxR G w a b c d e x
section
variable {G G' : Nat → Prop} {w w' wr : World} {a b c d e v : Value} {x : Lx.X} {B : Nat}
theorem LxX.cells {h : Nat} (x : LxX w B a b c d e h) : w.cell? ⟨B, 0, none⟩ = some a ∧ w.cell? ⟨B, 1, none⟩ = some b ∧ w.cell? ⟨B, 2, none⟩ = some c ∧ w.cell? ⟨B, 3, none⟩ = some d ∧ w.cell? ⟨B, 4, none⟩ = some e ∧ w.cell? ⟨B, 5, none⟩ = some (.int .i64 (h : Int)) := by
  refine ⟨?_, ?_, ?_, ?_, ?_, ?_⟩ <;> rw [cell_of_row w B _ _ _ _ x] <;> rfl
theorem LxX.load {h : Nat} (x : LxX w B a b c d e h) : (loadVar 27 ⟨B, 0, none⟩).run Tryd.prog w = .ok (.agg #[a, b, c, d, e, .int .i64 (h : Int)]) w := by
  have := run_load_part (P := Tryd.prog) w B 0 6 _ 27 _ _ _ x Tryd.underlying27 rfl (by kernel_rfl) (by simp)
  simpa using this
theorem LxR.fr {S : List Nat} (h : LxR G w a b c d e x) (hf : Fr S w w') (hS : ∀ g ∈ S, ¬ G g) : LxR G w' a b c d e x := ⟨h.ra.fr hf hS, h.rb.fr hf hS, h.rc.fr hf hS, h.rd.fr hf hS, h.re.fr hf hS⟩
theorem LxR.step (h : LxR G w a b c d e x) (hf : Fr [] w w') : LxR G w' a b c d e x := h.fr hf (by simp)
theorem LxR.mono (h : LxR G w a b c d e x) (hG : ∀ g, g < w.heap.size → G g → G' g) : LxR G' w a b c d e x := ⟨h.ra.mono hG, h.rb.mono hG, h.rc.mono hG, h.rd.mono hG, h.re.mono hG⟩
theorem LxR.keep (h : LxR G w a b c d e x) (hk : ∀ g, g < w.heap.size → G g → w'.heap[g]? = w.heap[g]?) : LxR G w' a b c d e x := ⟨h.ra.keep hk, h.rb.keep hk, h.rc.keep hk, h.rd.keep hk, h.re.keep hk⟩
theorem LxV.form (h : LxV G w v x) : ∃ A1 n1 c1 A2 n2 c2 A3 n3 c3 A4 n4 c4 A5 n5 c5, v = .agg #[.slice A1 n1 c1, .slice A2 n2 c2, .slice A3 n3 c3, .slice A4 n4 c4, .slice A5 n5 c5, .int .i64 (x.head : Int)] ∧ LxR G w (.slice A1 n1 c1) (.slice A2 n2 c2) (.slice A3 n3 c3) (.slice A4 n4 c4) (.slice A5 n5 c5) x := by
  obtain ⟨a, b, c, d, e, rfl, h⟩ := h
  have h0 := h
  obtain ⟨⟨g1, _, h1⟩, ⟨g2, _, h2⟩, ⟨g3, _, h3⟩, ⟨g4, _, h4⟩, ⟨g5, _, h5⟩⟩ := h
  obtain ⟨A1, o1, c1, rfl, -⟩ := h1.form
  obtain ⟨A2, o2, c2, rfl, -⟩ := h2.form
  obtain ⟨A3, o3, c3, rfl, -⟩ := h3.form
  obtain ⟨A4, o4, c4, rfl, -⟩ := h4.form
  obtain ⟨A5, o5, c5, rfl, -⟩ := h5.form
  exact ⟨_, _, _, _, _, _, _, _, _, _, _, _, _, _, _, rfl, h0⟩
theorem LxV.fr {S : List Nat} (h : LxV G w v x) (hf : Fr S w w') (hS : ∀ g ∈ S, ¬ G g) : LxV G w' v x := by
  obtain ⟨a, b, c, d, e, rfl, h⟩ := h
  exact ⟨a, b, c, d, e, rfl, h.fr hf hS⟩
end
theorem lx_results {fn : Func} {tmps : Array Value} {w : World} {i j : Nat} {B : Nat} {a b c d e y : Value} {h : Nat} (hr : fn.results = #[.cell i 27, .tmp j]) (ha : tmps.getD i undef = .pointer (some ⟨B, 0, none⟩)) (hb : tmps.getD j undef = y) (hx : LxX w B a b c d e h) :
    (results fn tmps).run Tryd.prog w = .ok (.tuple #[.agg #[a, b, c, d, e, .int .i64 (h : Int)], y]) w := by
  have ha' : tmps[i]?.getD undef = .pointer (some ⟨B, 0, none⟩) := by rw [← ha]; simp
  have hb' : tmps[j]?.getD undef = y := by rw [← hb]; simp
  unfold results
  rw [hr]
  simp [asAddr, Sem.run_bind, ha', hb', hx.load]
theorem lx_results3 {fn : Func} {tmps : Array Value} {w : World} {i j k : Nat} {B : Nat} {a b c d e y z : Value} {h : Nat} (hr : fn.results = #[.cell i 27, .tmp j, .tmp k]) (ha : tmps.getD i undef = .pointer (some ⟨B, 0, none⟩)) (hb : tmps.getD j undef = y) (hc : tmps.getD k undef = z) (hx : LxX w B a b c d e h) :
    (results fn tmps).run Tryd.prog w = .ok (.tuple #[.agg #[a, b, c, d, e, .int .i64 (h : Int)], y, z]) w := by
  have ha' : tmps[i]?.getD undef = .pointer (some ⟨B, 0, none⟩) := by rw [← ha]; simp
  have hb' : tmps[j]?.getD undef = y := by rw [← hb]; simp
  have hc' : tmps[k]?.getD undef = z := by rw [← hc]; simp
  unfold results
  rw [hr]
  simp [asAddr, Sem.run_bind, ha', hb', hc', hx.load]
/-- In a call that only reads: the receiver's variable X. -/
structure LxB (w wr : World) (X : Nat) (a b c d e : Value) (x : Lx.X) : Prop where
  box : LxX wr X a b c d e x.head
  rows : LxR (fun g => g ≠ X) wr a b c d e x
  fr : Fr [] w wr
  ge : w.heap.size ≤ X
theorem LxB.start {G : Nat → Prop} {w : World} {a b c d e : Value} {x : Lx.X} (h : LxR G w a b c d e x) : LxB w (w.alloc (.cells #[a, b, c, d, e, .int .i64 (x.head : Int)] 27)) w.heap.size a b c d e x := by
  have hf : Fr [] w (w.alloc (.cells #[a, b, c, d, e, .int .i64 (x.head : Int)] 27)) := (Fr.refl _ _).alloc _
  exact ⟨heap_alloc_new w _, (h.mono (fun g hg _ => show g ≠ w.heap.size by omega)).step hf, hf, Nat.le_refl _⟩
theorem LxB.step {w wr w' : World} {X : Nat} {a b c d e : Value} {x : Lx.X} (h : LxB w wr X a b c d e x) (hf : Fr [] wr w') : LxB w w' X a b c d e x := ⟨hf.get h.box (by simp), h.rows.step hf, h.fr.trans hf, h.ge⟩
theorem LxB.val {w wr : World} {X : Nat} {a b c d e : Value} {x : Lx.X} (h : LxB w wr X a b c d e x) : LxV (fun g => g ≠ X) wr (.agg #[a, b, c, d, e, .int .i64 (x.head : Int)]) x := ⟨_, _, _, _, _, rfl, h.rows⟩
end Go.Proofs.YtbedfffmicbgmaaDoor
