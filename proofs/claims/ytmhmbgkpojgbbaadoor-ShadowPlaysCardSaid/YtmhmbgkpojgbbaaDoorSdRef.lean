/- The document's answer for package shadow: its struct in memory; Write, Values. -/
import Derived.Test.YtmhmbgkpojgbbaaDoorShLaw0
import Derived.Test.YtmhmbgkpojgbbaaDoorCSet
import Derived.Test.YtmhmbgkpojgbbaaDoorCHas
import Derived.Test.YtmhmbgkpojgbbaaDoorOwn2
import Derived.Test.YtmhmbgkpojgbbaaDoorMkInts0
import Derived.Test.YtmhmbgkpojgbbaaDoorMix
import Derived.Test.YtmhmbgkpojgbbaaDoorCopy
namespace Go.Proofs.YtmhmbgkpojgbbaaDoor
open Go.RowKit

/-- A value of the document's type, and what it says; its rows lie in blocks of G. -/
def SdV (G : Nat → Prop) (w : World) (v : Value) (d : Sh.D) : Prop := ∃ s o n g1 g2 g3, v = .agg #[s, o, n] ∧ (G g1 ∧ G g2 ∧ G g3) ∧ Sl w s g1 d.slot ∧ Sl w o g2 d.old ∧ Sl w n g3 d.now
/-- A variable of that type. -/
def SdX (w : World) (B : Nat) (x y z : Value) : Prop := w.heap[B]? = some (.cells #[x, y, z] 27 (0, 0))
theorem SdX.cells {w : World} {B : Nat} {x y z : Value} (h : SdX w B x y z) : w.cell? ⟨B, 0, none⟩ = some x ∧ w.cell? ⟨B, 1, none⟩ = some y ∧ w.cell? ⟨B, 2, none⟩ = some z := by
  refine ⟨?_, ?_, ?_⟩ <;> rw [cell_of_row w B _ _ _ _ h] <;> rfl
theorem SdX.load {w : World} {B : Nat} {x y z : Value} (h : SdX w B x y z) : (loadVar 27 ⟨B, 0, none⟩).run Tryd.prog w = .ok (.agg #[x, y, z]) w := by
  have := run_load_part (P := Tryd.prog) w B 0 3 _ 27 _ _ _ h Tryd.underlying27 rfl (by kernel_rfl) (by simp)
  simpa using this
theorem sd_results {fn : Func} {tmps : Array Value} {w : World} {a b : Nat} {B : Nat} {x y z c : Value} (hr : fn.results = #[.cell a 27, .tmp b]) (ha : tmps.getD a undef = .pointer (some ⟨B, 0, none⟩)) (hb : tmps.getD b undef = c) (h : SdX w B x y z) :
    (results fn tmps).run Tryd.prog w = .ok (.tuple #[.agg #[x, y, z], c]) w := by
  have ha' : tmps[a]?.getD undef = .pointer (some ⟨B, 0, none⟩) := by rw [← ha]; simp
  have hb' : tmps[b]?.getD undef = c := by rw [← hb]; simp
  unfold results
  rw [hr]
  simp [asAddr, Sem.run_bind, ha', hb', h.load]
/-- What a call on the struct knows: its copy in block B, the answer's place behind it; the rows. -/
structure SdQ (G : Nat → Prop) (w wr : World) (B : Nat) (s o n : Value) (d : Sh.D) : Prop where
  box : SdX wr B s o n
  out : SdX wr (B + 1) (.slice none 0 0) (.slice none 0 0) (.slice none 0 0)
  slot : ∃ g, (g ≠ B ∧ g ≠ B + 1 ∧ G g) ∧ Sl wr s g d.slot
  old : ∃ g, (g ≠ B ∧ g ≠ B + 1 ∧ G g) ∧ Sl wr o g d.old
  now : ∃ g, (g ≠ B ∧ g ≠ B + 1 ∧ G g) ∧ Sl wr n g d.now
  lenS : d.slot.length = 16
  lenO : d.old.length = 8
  lenN : d.now.length = 8
  fr : Fr [] w wr
  ge : w.heap.size ≤ B
  hG : ∀ k, w.heap.size ≤ k → G k
section
variable {G : Nat → Prop} {w wr w' : World} {B : Nat} {s o n : Value} {d : Sh.D}
theorem SdQ.lt (h : SdQ G w wr B s o n d) : B + 1 < wr.heap.size := lt_of_heap h.out
theorem row_fr {S : List Nat} {wr w' : World} {v : Value} {xs : List Int} {p : Nat → Prop} (h : ∃ g, p g ∧ Sl wr v g xs) (hf : Fr S wr w') (hS : ∀ g, p g → g ∉ S) : ∃ g, p g ∧ Sl w' v g xs := by
  obtain ⟨g, h1, h2⟩ := h
  exact ⟨g, h1, h2.fr hf (hS g h1)⟩
theorem SdQ.step (h : SdQ G w wr B s o n d) (hf : Fr [] wr w') : SdQ G w w' B s o n d :=
  ⟨hf.get h.box (by simp), hf.get h.out (by simp), row_fr h.slot hf (by simp), row_fr h.old hf (by simp), row_fr h.now hf (by simp), h.lenS, h.lenO, h.lenN, h.fr.trans hf, h.ge, h.hG⟩
theorem SdQ.one (wr : World) (B i : Nat) (v : Value) : Fr [B] wr (wr.setCell ⟨B, i, none⟩ v) := (Fr.refl _ wr).setCell (.inl (by simp)) _
theorem SdQ.nB {B : Nat} {G : Nat → Prop} : ∀ g, (g ≠ B ∧ g ≠ B + 1 ∧ G g) → g ∉ [B] := fun g h => by simpa using h.1
theorem SdQ.frS (h : SdQ G w wr B s o n d) (hf : Fr [B] wr w') : Fr [] w w' := h.fr.step hf (fun x hx => .inr (by simp only [List.mem_singleton] at hx; subst hx; exact h.ge))
theorem SdQ.put0 (h : SdQ G w wr B s o n d) {v : Value} {g : Nat} {xs : List Int} (hs : Sl wr v g xs) (hg : B + 1 < g) (hl : xs.length = 16) : SdQ G w (wr.setCell ⟨B, 0, none⟩ v) B v o n ⟨xs, d.old, d.now⟩ :=
  ⟨set_block h.box v, (SdQ.one wr B 0 v).get h.out (by simp), ⟨g, ⟨by omega, by omega, h.hG g (by have := h.ge; omega)⟩, hs.fr (SdQ.one wr B 0 v) (by simp; omega)⟩, row_fr h.old (SdQ.one wr B 0 v) SdQ.nB, row_fr h.now (SdQ.one wr B 0 v) SdQ.nB, hl, h.lenO, h.lenN, h.frS (SdQ.one wr B 0 v), h.ge, h.hG⟩
theorem SdQ.put2 (h : SdQ G w wr B s o n d) {v : Value} {g : Nat} {xs : List Int} (hs : Sl wr v g xs) (hg : B + 1 < g) (hl : xs.length = 8) : SdQ G w (wr.setCell ⟨B, 2, none⟩ v) B s o v ⟨d.slot, d.old, xs⟩ :=
  ⟨set_block h.box v, (SdQ.one wr B 2 v).get h.out (by simp), row_fr h.slot (SdQ.one wr B 2 v) SdQ.nB, row_fr h.old (SdQ.one wr B 2 v) SdQ.nB, ⟨g, ⟨by omega, by omega, h.hG g (by have := h.ge; omega)⟩, hs.fr (SdQ.one wr B 2 v) (by simp; omega)⟩, h.lenS, h.lenO, hl, h.frS (SdQ.one wr B 2 v), h.ge, h.hG⟩
theorem SdQ.row0 (h : SdQ G w wr B s o n d) {xs : List Int} (hl : xs.length = 16) {e : Ending} {w2 : World} (hn : NewRow xs wr e w2) :
    ∃ A c, e = .returned (.slice A 16 c) ∧ SdQ G w w2 B s o n d ∧ SdQ G w (w2.setCell ⟨B, 0, none⟩ (.slice A 16 c)) B (.slice A 16 c) o n ⟨xs, d.old, d.now⟩ := by
  obtain ⟨v, g, rfl, hg, hs, hf⟩ := hn
  have hg2 : B + 1 < g := Nat.lt_of_lt_of_le h.lt <| hg.resolve_right (fun h => by rw [h] at hl; cases hl)
  obtain ⟨A, o', c, rfl, -, -, -⟩ := hs.form
  rw [hl] at hs ⊢
  exact ⟨A, c, rfl, h.step hf, (h.step hf).put0 hs hg2 hl⟩
theorem SdQ.row2 (h : SdQ G w wr B s o n d) {xs : List Int} (hl : xs.length = 8) {e : Ending} {w2 : World} (hn : NewRow xs wr e w2) :
    ∃ A c, e = .returned (.slice A 8 c) ∧ SdQ G w w2 B s o n d ∧ SdQ G w (w2.setCell ⟨B, 2, none⟩ (.slice A 8 c)) B s o (.slice A 8 c) ⟨d.slot, d.old, xs⟩ := by
  obtain ⟨v, g, rfl, hg, hs, hf⟩ := hn
  have hg2 : B + 1 < g := Nat.lt_of_lt_of_le h.lt <| hg.resolve_right (fun h => by rw [h] at hl; cases hl)
  obtain ⟨A, o', c, rfl, -, -, -⟩ := hs.form
  rw [hl] at hs ⊢
  exact ⟨A, c, rfl, h.step hf, (h.step hf).put2 hs hg2 hl⟩
/-- The end: the struct, stored into the answer's place. -/
theorem SdQ.fin (h : SdQ G w wr B s o n d) :
    SdX (((wr.setCell ⟨B + 1, 0, none⟩ s).setCell ⟨B + 1, 1, none⟩ o).setCell ⟨B + 1, 2, none⟩ n) (B + 1) s o n ∧
    SdV G (((wr.setCell ⟨B + 1, 0, none⟩ s).setCell ⟨B + 1, 1, none⟩ o).setCell ⟨B + 1, 2, none⟩ n) (.agg #[s, o, n]) d ∧
    Fr [] w (((wr.setCell ⟨B + 1, 0, none⟩ s).setCell ⟨B + 1, 1, none⟩ o).setCell ⟨B + 1, 2, none⟩ n) := by
  have hf : Fr [B + 1] wr (((wr.setCell ⟨B + 1, 0, none⟩ s).setCell ⟨B + 1, 1, none⟩ o).setCell ⟨B + 1, 2, none⟩ n) := (((Fr.refl _ wr).setCell (.inl (by simp)) _).setCell (.inl (by simp)) _).setCell (.inl (by simp)) _
  have hge := h.ge
  refine ⟨?_, ?_, h.fr.step hf (fun x hx => .inr (by simp only [List.mem_singleton] at hx; omega))⟩
  · have h1 : SdX (wr.setCell ⟨B + 1, 0, none⟩ s) (B + 1) s (.slice none 0 0) (.slice none 0 0) := set_block h.out s
    have h2 : SdX ((wr.setCell ⟨B + 1, 0, none⟩ s).setCell ⟨B + 1, 1, none⟩ o) (B + 1) s o (.slice none 0 0) := set_block h1 o
    exact set_block h2 n
  · obtain ⟨g1, n1, h1⟩ := h.slot
    obtain ⟨g2, n2, h2⟩ := h.old
    obtain ⟨g3, n3, h3⟩ := h.now
    exact ⟨_, _, _, g1, g2, g3, rfl, ⟨n1.2.2, n2.2.2, n3.2.2⟩, h1.fr hf (by simp; omega), h2.fr hf (by simp; omega), h3.fr hf (by simp; omega)⟩
end
theorem sl_lt {w : World} {v : Value} {g : Nat} {xs : List Int} (h : Sl w v g xs) (h0 : 0 < xs.length) : g < w.heap.size := by
  obtain ⟨A, o, c, rfl, -, -, hc⟩ := h.form
  exact block_lt_of_cell (hc 0 h0)
theorem SdQ.start {G : Nat → Prop} (w : World) {s o n : Value} {g1 g2 g3 : Nat} {d : Sh.D} (hg : G g1 ∧ G g2 ∧ G g3) (h1 : Sl w s g1 d.slot) (h2 : Sl w o g2 d.old) (h3 : Sl w n g3 d.now) (hO : Sh.OK d) (hG : ∀ k, w.heap.size ≤ k → G k) :
    SdQ G w ((w.alloc (.cells #[s, o, n] 27)).alloc (.cells #[.slice none 0 0, .slice none 0 0, .slice none 0 0] 27)) w.heap.size s o n d := by
  have l1 := sl_lt h1 (by rw [hO.slots]; decide)
  have l2 := sl_lt h2 (by rw [hO.told.len]; decide)
  have l3 := sl_lt h3 (by rw [hO.tnow.len]; decide)
  have hf : Fr [] w ((w.alloc (.cells #[s, o, n] 27)).alloc (.cells #[.slice none 0 0, .slice none 0 0, .slice none 0 0] 27)) := ((Fr.refl _ _).alloc _).alloc _
  refine ⟨((Fr.refl [] _).alloc _).get (heap_alloc_new w _) (by simp), ?_, ⟨g1, ⟨by omega, by omega, hg.1⟩, h1.fr hf (by simp)⟩, ⟨g2, ⟨by omega, by omega, hg.2.1⟩, h2.fr hf (by simp)⟩, ⟨g3, ⟨by omega, by omega, hg.2.2⟩, h3.fr hf (by simp)⟩, hO.slots, hO.told.len, hO.tnow.len, hf, Nat.le_refl _, hG⟩
  have := heap_alloc_new (w.alloc (.cells #[s, o, n] 27)) (.cells #[.slice none 0 0, .slice none 0 0, .slice none 0 0] 27)
  rw [show (w.alloc (.cells #[s, o, n] 27)).heap.size = w.heap.size + 1 by simp] at this
  exact this
end Go.Proofs.YtmhmbgkpojgbbaaDoor
