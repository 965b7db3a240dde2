/- The contracts of the reference's Sparse: NewSparse, Cut, Write. -/
import Derived.Test.YtmgalnkcpolafaaDoorSpPlain
import Derived.Test.YtmgalnkcpolafaaDoorCSet
import Derived.Test.YtmgalnkcpolafaaDoorR1
import Derived.Test.YtmgalnkcpolafaaDoorMkInts
import Derived.Test.YtmgalnkcpolafaaDoorMix
import Derived.Test.YtmgalnkcpolafaaDoorCopy
namespace Go.Proofs.YtmgalnkcpolafaaDoor
open Go.RowKit

theorem r2in_any (n lo hi : Int) (w : World) :
    Calls Tryd.prog 39 #[.int .i64 n, .int .i64 lo, .int .i64 hi] w fun e w' => e = .returned (.bool (decide (lo ≤ n ∧ n ≤ hi))) ∧ w = w' := by
  go_enter Tryd.func39, Tryd.ntmps39
  go_wp2
  all_goals (go_ret; refine ⟨?_, rfl⟩; congr; try simp; try omega)
theorem r2in_is (n lo hi : Int) (b : Bool) (w : World) (h : decide (lo ≤ n ∧ n ≤ hi) = b) :
    Calls Tryd.prog 39 #[.int .i64 n, .int .i64 lo, .int .i64 hi] w fun e w' => e = .returned (.bool b) ∧ w' = w :=
  (r2in_any n lo hi w).mono fun _ _ ⟨h1, h2⟩ => ⟨by rw [h1, h], h2.symm⟩
/-- A value of the reference's type, and what it says; its rows lie in blocks of G. -/
def SpV (G : Nat → Prop) (w : World) (v : Value) (f : Sp.F) : Prop := ∃ vb vk gb gk, v = .agg #[vb, .int .i64 f.size, vk] ∧ (G gb ∧ G gk) ∧ Sl w vb gb f.byt ∧ Sl w vk gk f.blk
/-- A variable of that type. -/
def SpX (w : World) (B : Nat) (x y z : Value) : Prop := w.heap[B]? = some (.cells #[x, y, z] 49 (0, 0))
theorem SpX.cells {w : World} {B : Nat} {x y z : Value} (h : SpX w B x y z) : w.cell? ⟨B, 0, none⟩ = some x ∧ w.cell? ⟨B, 1, none⟩ = some y ∧ w.cell? ⟨B, 2, none⟩ = some z := by
  refine ⟨?_, ?_, ?_⟩ <;> rw [cell_of_row w B _ _ _ _ h] <;> rfl
/-- What the rounds know: the struct in block B, the answer's place behind it; the rows. -/
structure SpQ (G : Nat → Prop) (w wr : World) (B : Nat) (vb vk : Value) (f : Sp.F) : Prop where
  box : SpX wr B vb (.int .i64 f.size) vk
  out : SpX wr (B + 1) (.slice none 0 0) (.int .i64 0) (.slice none 0 0)
  byt : ∃ g, (g ≠ B ∧ g ≠ B + 1 ∧ G g) ∧ Sl wr vb g f.byt
  blk : ∃ g, (g ≠ B ∧ g ≠ B + 1 ∧ G g) ∧ Sl wr vk g f.blk
  lenB : f.byt.length = 64
  lenK : f.blk.length = 16
  fr : Fr [] w wr
  ge : w.heap.size ≤ B
  hG : ∀ k, w.heap.size ≤ k → G k
section
variable {G : Nat → Prop} {w wr w' : World} {B : Nat} {vb vk : Value} {f : Sp.F}
theorem SpQ.lt (h : SpQ G w wr B vb vk f) : B + 1 < wr.heap.size := lt_of_heap h.out
theorem SpQ.step (h : SpQ G w wr B vb vk f) (hf : Fr [] wr w') : SpQ G w w' B vb vk f := by
  obtain ⟨g1, n1, h1⟩ := h.byt
  obtain ⟨g2, n2, h2⟩ := h.blk
  exact ⟨hf.get h.box (by simp), hf.get h.out (by simp), ⟨g1, n1, h1.fr hf (by simp)⟩, ⟨g2, n2, h2.fr hf (by simp)⟩, h.lenB, h.lenK, h.fr.trans hf, h.ge, h.hG⟩
theorem SpQ.frB (h : SpQ G w wr B vb vk f) (hf : Fr [B, B + 1] wr w') : (∃ g, (g ≠ B ∧ g ≠ B + 1 ∧ G g) ∧ Sl w' vb g f.byt) ∧ (∃ g, (g ≠ B ∧ g ≠ B + 1 ∧ G g) ∧ Sl w' vk g f.blk) ∧ Fr [] w w' := by
  obtain ⟨g1, n1, h1⟩ := h.byt
  obtain ⟨g2, n2, h2⟩ := h.blk
  have := h.ge
  exact ⟨⟨g1, n1, h1.fr hf (by simp; omega)⟩, ⟨g2, n2, h2.fr hf (by simp; omega)⟩, h.fr.step hf (fun x hx => .inr (by simp at hx; omega))⟩
theorem SpQ.one (wr : World) (B i : Nat) (v : Value) : Fr [B, B + 1] wr (wr.setCell ⟨B, i, none⟩ v) := (Fr.refl _ wr).setCell (.inl (by simp)) _
theorem SpQ.keepOut (h : SpQ G w wr B vb vk f) (i : Nat) (v : Value) : SpX (wr.setCell ⟨B, i, none⟩ v) (B + 1) (.slice none 0 0) (.int .i64 0) (.slice none 0 0) :=
  Fr.get (S := [B]) ((Fr.refl _ wr).setCell (.inl (by simp)) _) h.out (by simp)
theorem SpQ.put0 (h : SpQ G w wr B vb vk f) {v : Value} {g : Nat} {xs : List Int} (hs : Sl wr v g xs) (hg : B + 1 < g) (hl : xs.length = 64) : SpQ G w (wr.setCell ⟨B, 0, none⟩ v) B v vk ⟨f.size, xs, f.blk⟩ := by
  obtain ⟨_, q2, q3⟩ := h.frB (SpQ.one wr B 0 v)
  exact ⟨set_block h.box v, h.keepOut 0 v, ⟨g, ⟨by omega, by omega, h.hG g (by have := h.ge; omega)⟩, hs.fr (SpQ.one wr B 0 v) (by simp; omega)⟩, q2, hl, h.lenK, q3, h.ge, h.hG⟩
theorem SpQ.put2 (h : SpQ G w wr B vb vk f) {v : Value} {g : Nat} {xs : List Int} (hs : Sl wr v g xs) (hg : B + 1 < g) (hl : xs.length = 16) : SpQ G w (wr.setCell ⟨B, 2, none⟩ v) B vb v ⟨f.size, f.byt, xs⟩ := by
  obtain ⟨q1, _, q3⟩ := h.frB (SpQ.one wr B 2 v)
  exact ⟨set_block h.box v, h.keepOut 2 v, q1, ⟨g, ⟨by omega, by omega, h.hG g (by have := h.ge; omega)⟩, hs.fr (SpQ.one wr B 2 v) (by simp; omega)⟩, h.lenB, hl, q3, h.ge, h.hG⟩
theorem SpQ.put1 (h : SpQ G w wr B vb vk f) (s : Nat) : SpQ G w (wr.setCell ⟨B, 1, none⟩ (.int .i64 s)) B vb vk ⟨s, f.byt, f.blk⟩ := by
  obtain ⟨q1, q2, q3⟩ := h.frB (SpQ.one wr B 1 (.int .i64 s))
  exact ⟨set_block h.box _, h.keepOut 1 _, q1, q2, h.lenB, h.lenK, q3, h.ge, h.hG⟩
theorem SpQ.row0 (h : SpQ G w wr B vb vk f) {xs ys : List Int} (hl : xs.length = 64) (hx : xs = ys) {e : Ending} {w2 : World} (hn : NewRow xs wr e w2) :
    ∃ A c, e = .returned (.slice A 64 c) ∧ SpQ G w w2 B vb vk f ∧ SpQ G w (w2.setCell ⟨B, 0, none⟩ (.slice A 64 c)) B (.slice A 64 c) vk ⟨f.size, ys, f.blk⟩ := by
  subst hx
  obtain ⟨v, g, rfl, hg, hs, hf⟩ := hn
  have hg2 : B + 1 < g := Nat.lt_of_lt_of_le h.lt <| hg.resolve_right (fun h => by rw [h] at hl; cases hl)
  obtain ⟨A, o, c, rfl, -, -, -⟩ := hs.form
  rw [hl] at hs ⊢
  exact ⟨A, c, rfl, h.step hf, (h.step hf).put0 hs hg2 hl⟩
theorem SpQ.row2 (h : SpQ G w wr B vb vk f) {xs ys : List Int} (hl : xs.length = 16) (hx : xs = ys) {e : Ending} {w2 : World} (hn : NewRow xs wr e w2) :
    ∃ A c, e = .returned (.slice A 16 c) ∧ SpQ G w w2 B vb vk f ∧ SpQ G w (w2.setCell ⟨B, 2, none⟩ (.slice A 16 c)) B vb (.slice A 16 c) ⟨f.size, f.byt, ys⟩ := by
  subst hx
  obtain ⟨v, g, rfl, hg, hs, hf⟩ := hn
  have hg2 : B + 1 < g := Nat.lt_of_lt_of_le h.lt <| hg.resolve_right (fun h => by rw [h] at hl; cases hl)
  obtain ⟨A, o, c, rfl, -, -, -⟩ := hs.form
  rw [hl] at hs ⊢
  exact ⟨A, c, rfl, h.step hf, (h.step hf).put2 hs hg2 hl⟩
theorem SpQ.ans (h : SpQ G w wr B vb vk f) (hf : Fr [B, B + 1] wr w') : SpV G w' (.agg #[vb, .int .i64 f.size, vk]) f ∧ Fr [] w w' := by
  obtain ⟨⟨g1, n1, h1⟩, ⟨g2, n2, h2⟩, q3⟩ := h.frB hf
  exact ⟨⟨_, _, _, _, rfl, ⟨n1.2.2, n2.2.2⟩, h1, h2⟩, q3⟩
end
theorem SpX.load {w : World} {B : Nat} {x y z : Value} (h : SpX w B x y z) : (loadVar 49 ⟨B, 0, none⟩).run Tryd.prog w = .ok (.agg #[x, y, z]) w := by
  have := run_load_part (P := Tryd.prog) w B 0 3 _ 49 _ _ _ h Tryd.underlying49 rfl (by kernel_rfl) (by simp)
  simpa using this
theorem sp_results {fn : Func} {tmps : Array Value} {w : World} {a b : Nat} {B : Nat} {x y z c : Value} (hr : fn.results = #[.cell a 49, .tmp b]) (ha : tmps.getD a undef = .pointer (some ⟨B, 0, none⟩)) (hb : tmps.getD b undef = c) (h : SpX w B x y z) :
    (results fn tmps).run Tryd.prog w = .ok (.tuple #[.agg #[x, y, z], c]) w := by
  have ha' : tmps[a]?.getD undef = .pointer (some ⟨B, 0, none⟩) := by rw [← ha]; simp
  have hb' : tmps[b]?.getD undef = c := by rw [← hb]; simp
  unfold results
  rw [hr]
  simp [asAddr, Sem.run_bind, ha', hb', h.load]
/-- The end: the struct, stored into the answer's place. -/
theorem SpQ.fin {G : Nat → Prop} {w wr : World} {B : Nat} {vb vk : Value} {f : Sp.F} (h : SpQ G w wr B vb vk f) :
    SpX (((wr.setCell ⟨B + 1, 0, none⟩ vb).setCell ⟨B + 1, 1, none⟩ (.int .i64 f.size)).setCell ⟨B + 1, 2, none⟩ vk) (B + 1) vb (.int .i64 f.size) vk ∧
    SpV G (((wr.setCell ⟨B + 1, 0, none⟩ vb).setCell ⟨B + 1, 1, none⟩ (.int .i64 f.size)).setCell ⟨B + 1, 2, none⟩ vk) (.agg #[vb, .int .i64 f.size, vk]) f ∧
    Fr [] w (((wr.setCell ⟨B + 1, 0, none⟩ vb).setCell ⟨B + 1, 1, none⟩ (.int .i64 f.size)).setCell ⟨B + 1, 2, none⟩ vk) := by
  refine ⟨?_, h.ans ((((Fr.refl _ wr).setCell (.inl (by simp)) _).setCell (.inl (by simp)) _).setCell (.inl (by simp)) _)⟩
  have h1 : SpX (wr.setCell ⟨B + 1, 0, none⟩ vb) (B + 1) vb (.int .i64 0) (.slice none 0 0) := set_block h.out vb
  have h2 : SpX ((wr.setCell ⟨B + 1, 0, none⟩ vb).setCell ⟨B + 1, 1, none⟩ (.int .i64 f.size)) (B + 1) vb (.int .i64 f.size) (.slice none 0 0) := set_block h1 (.int .i64 f.size)
  exact set_block h2 vk
theorem sl_lt {w : World} {v : Value} {g : Nat} {xs : List Int} (h : Sl w v g xs) (h0 : 0 < xs.length) : g < w.heap.size := by
  obtain ⟨A, o, c, rfl, -, -, hc⟩ := h.form
  exact block_lt_of_cell (hc 0 h0)
theorem SpQ.start {G : Nat → Prop} (w : World) {vb vk : Value} {gb gk : Nat} {f : Sp.F} (hg : G gb ∧ G gk) (hb : Sl w vb gb f.byt) (hk : Sl w vk gk f.blk) (hO : Sp.OK f) (hG : ∀ k, w.heap.size ≤ k → G k) :
    SpQ G w ((w.alloc (.cells #[vb, .int .i64 f.size, vk] 49)).alloc (.cells #[.slice none 0 0, .int .i64 0, .slice none 0 0] 49)) w.heap.size vb vk f := by
  have h1 := sl_lt hb (by rw [hO.lenB]; decide)
  have h2 := sl_lt hk (by rw [hO.lenK]; decide)
  have hf : Fr [] w ((w.alloc (.cells #[vb, .int .i64 f.size, vk] 49)).alloc (.cells #[.slice none 0 0, .int .i64 0, .slice none 0 0] 49)) := ((Fr.refl _ _).alloc _).alloc _
  refine ⟨((Fr.refl [] _).alloc _).get (heap_alloc_new w _) (by simp), ?_, ⟨gb, ⟨by omega, by omega, hg.1⟩, hb.fr hf (by simp)⟩, ⟨gk, ⟨by omega, by omega, hg.2⟩, hk.fr hf (by simp)⟩, hO.lenB, hO.lenK, hf, Nat.le_refl _, hG⟩
  have := heap_alloc_new (w.alloc (.cells #[vb, .int .i64 f.size, vk] 49)) (.cells #[.slice none 0 0, .int .i64 0, .slice none 0 0] 49)
  rw [show (w.alloc (.cells #[vb, .int .i64 f.size, vk] 49)).heap.size = w.heap.size + 1 by simp] at this
  exact this
set_option maxRecDepth 100000 in
theorem sr_New (w : World) : Calls Tryd.prog 24 #[] w fun e w' => ∃ v, e = .returned v ∧ SpV (w.heap.size ≤ ·) w' v Sp.new ∧ Fr [] w w' := by
  have h64 := mk_z 64 (by decide) 64 rfl
  have h16 := mk_z 16 (by decide) 16 rfl
  go_enter Tryd.func24, Tryd.ntmps24
  go_wp2
  go_region_with (fail)
  · have HF : Hid (Fr [] w (((w.alloc (.cells #[.slice (some ⟨w.heap.size + 1, 0, none⟩) 64 64, .int .i64 0, .slice (some ⟨w.heap.size + 1 + 1, 0, none⟩) 16 16] 49)).alloc (.cells (mkz 64) 3)).alloc (.cells (mkz 16) 3)).drew) := ((((Fr.refl _ _).alloc _).alloc _).alloc _).drew
    have H1 := mkz_sl (w.alloc (.cells #[.slice (some ⟨w.heap.size + 1, 0, none⟩) 64 64, .int .i64 0, .slice (some ⟨w.heap.size + 1 + 1, 0, none⟩) 16 16] 49)) 64 (by decide) ((((Fr.refl [] _).alloc (.cells (mkz 16) 3))).drew)
    have H2 := mkz_sl ((w.alloc (.cells #[.slice (some ⟨w.heap.size + 1, 0, none⟩) 64 64, .int .i64 0, .slice (some ⟨w.heap.size + 1 + 1, 0, none⟩) 16 16] 49)).alloc (.cells (mkz 64) 3)) 16 (by decide) (((Fr.refl [] _)).drew)
    rw [show (w.alloc (.cells #[.slice (some ⟨w.heap.size + 1, 0, none⟩) 64 64, .int .i64 0, .slice (some ⟨w.heap.size + 1 + 1, 0, none⟩) 16 16] 49)).heap.size = w.heap.size + 1 by simp] at H1
    rw [show ((w.alloc (.cells #[.slice (some ⟨w.heap.size + 1, 0, none⟩) 64 64, .int .i64 0, .slice (some ⟨w.heap.size + 1 + 1, 0, none⟩) 16 16] 49)).alloc (.cells (mkz 64) 3)).heap.size = w.heap.size + 1 + 1 by simp] at H2
    have HX1 := Lib.hid H1
    have HX2 := Lib.hid H2
    clear h64 h16 H1 H2
    go_wp2
    exact bodyPost_ret (v := .agg #[.slice (some ⟨w.heap.size + 1, 0, none⟩) 64 64, .int .i64 0, .slice (some ⟨w.heap.size + 1 + 1, 0, none⟩) 16 16]) (by simp [results, Tryd.results24, go_sem]) rfl ⟨_, rfl, ⟨_, _, _, _, rfl, ⟨by omega, by omega⟩, HX1.out, HX2.out⟩, HF.out⟩
  · have HF : Hid (Fr [] w (((w.alloc (.cells #[.slice (some ⟨w.heap.size + 1 + 1, 0, none⟩) 64 64, .int .i64 0, .slice (some ⟨w.heap.size + 1, 0, none⟩) 16 16] 49)).alloc (.cells (mkz 16) 3)).alloc (.cells (mkz 64) 3)).drew) := ((((Fr.refl _ _).alloc _).alloc _).alloc _).drew
    have H1 := mkz_sl (w.alloc (.cells #[.slice (some ⟨w.heap.size + 1 + 1, 0, none⟩) 64 64, .int .i64 0, .slice (some ⟨w.heap.size + 1, 0, none⟩) 16 16] 49)) 16 (by decide) ((((Fr.refl [] _).alloc (.cells (mkz 64) 3))).drew)
    have H2 := mkz_sl ((w.alloc (.cells #[.slice (some ⟨w.heap.size + 1 + 1, 0, none⟩) 64 64, .int .i64 0, .slice (some ⟨w.heap.size + 1, 0, none⟩) 16 16] 49)).alloc (.cells (mkz 16) 3)) 64 (by decide) (((Fr.refl [] _)).drew)
    rw [show (w.alloc (.cells #[.slice (some ⟨w.heap.size + 1 + 1, 0, none⟩) 64 64, .int .i64 0, .slice (some ⟨w.heap.size + 1, 0, none⟩) 16 16] 49)).heap.size = w.heap.size + 1 by simp] at H1
    rw [show ((w.alloc (.cells #[.slice (some ⟨w.heap.size + 1 + 1, 0, none⟩) 64 64, .int .i64 0, .slice (some ⟨w.heap.size + 1, 0, none⟩) 16 16] 49)).alloc (.cells (mkz 16) 3)).heap.size = w.heap.size + 1 + 1 by simp] at H2
    have HX1 := Lib.hid H1
    have HX2 := Lib.hid H2
    clear h64 h16 H1 H2
    go_wp2
    exact bodyPost_ret (v := .agg #[.slice (some ⟨w.heap.size + 1 + 1, 0, none⟩) 64 64, .int .i64 0, .slice (some ⟨w.heap.size + 1, 0, none⟩) 16 16]) (by simp [results, Tryd.results24, go_sem]) rfl ⟨_, rfl, ⟨_, _, _, _, rfl, ⟨by omega, by omega⟩, HX2.out, HX1.out⟩, HF.out⟩
/-- What a call on the reference's file hands back. -/
def SpA (G : Nat → Prop) (f : Sp.F) (c : Int) (w : World) (e : Ending) (w' : World) : Prop := ∃ v, e = .returned (.tuple #[v, .int .i64 c]) ∧ SpV G w' v f ∧ Fr [] w w'
namespace Sp
/-- The reference's cut, as its rounds have it. -/
def rcB (byt : List Int) (s : Nat) : Nat → List Int
  | 0 => byt
  | k + 1 => (rcB byt s k).set (s + k) 0
def rcK (blk : List Int) (s : Nat) : Nat → List Int
  | 0 => blk
  | k + 1 => if (s + k) % 4 = 0 then (rcK blk s k).set ((s + k) / 4) 0 else rcK blk s k
theorem rcB_len (byt : List Int) (s : Nat) : ∀ k, (rcB byt s k).length = byt.length
  | 0 => rfl
  | k + 1 => by unfold rcB; rw [List.length_set]; exact rcB_len byt s k
theorem rcK_len (blk : List Int) (s : Nat) : ∀ k, (rcK blk s k).length = blk.length
  | 0 => rfl
  | k + 1 => by unfold rcK; split <;> simp [rcK_len blk s k]
theorem rcB_nth (byt : List Int) (s p : Nat) : ∀ k, s + k ≤ byt.length → nth (rcB byt s k) p = if s ≤ p ∧ p < s + k then 0 else nth byt p
  | 0, _ => by unfold rcB; rw [if_neg (by omega)]
  | k + 1, h => by
    unfold rcB
    rw [nth_set _ _ _ _ (by rw [rcB_len]; omega), rcB_nth byt s p k (by omega)]
    by_cases e : s + k = p
    · rw [if_pos e, if_pos (by omega)]
    · rw [if_neg e]
      by_cases h1 : s ≤ p ∧ p < s + k
      · rw [if_pos h1, if_pos (by omega)]
      · rw [if_neg h1, if_neg (by omega)]
theorem rcK_nth (blk : List Int) (s i : Nat) : ∀ k, s + k ≤ 4 * blk.length → nth (rcK blk s k) i = if s ≤ 4 * i ∧ 4 * i < s + k then 0 else nth blk i
  | 0, _ => by unfold rcK; rw [if_neg (by omega)]
  | k + 1, h => by
    unfold rcK
    split
    · rename_i h4
      rw [nth_set _ _ _ _ (by rw [rcK_len]; omega), rcK_nth blk s i k (by omega)]
      by_cases e : (s + k) / 4 = i
      · rw [if_pos e, if_pos (by omega)]
      · rw [if_neg e]
        by_cases h1 : s ≤ 4 * i ∧ 4 * i < s + k
        · rw [if_pos h1, if_pos (by omega)]
        · rw [if_neg h1, if_neg (by omega)]
    · rename_i h4
      rw [rcK_nth blk s i k (by omega)]
      by_cases h1 : s ≤ 4 * i ∧ 4 * i < s + k
      · rw [if_pos h1, if_pos (by omega)]
      · rw [if_neg h1, if_neg (by omega)]
theorem rc_end {f : F} (h : OK f) {s : Nat} (hs : s ≤ 64) : rcB f.byt s (64 - s) = cutB f.byt s ∧ rcK f.blk s (64 - s) = cutK f.blk s := by
  constructor
  · refine eq_of_nth (by rw [rcB_len, h.lenB]; simp [cutB]) (fun p hp => ?_)
    rw [rcB_len, h.lenB] at hp
    rw [rcB_nth _ _ _ _ (by rw [h.lenB]; omega), cutB_nth _ _ _ h.lenB]
    by_cases hps : p < s
    · rw [if_neg (by omega), if_pos hps]
    · rw [if_pos (by omega), if_neg hps]
  · refine eq_of_nth (by rw [rcK_len, h.lenK]; simp [cutK]) (fun i hi => ?_)
    rw [rcK_len, h.lenK] at hi
    rw [rcK_nth _ _ _ _ (by rw [h.lenK]; omega), cutK_nth _ _ _ h.lenK]
    by_cases his : 4 * i < s
    · rw [if_neg (by omega), if_pos his]
    · rw [if_pos (by omega), if_neg his]
/-- What the reference's cut says. -/
def cutC (s : Int) : Int := if 0 ≤ s ∧ s ≤ 64 then 0 else 1
/-- The size, as the reference's rounds of a writing have it. -/
def szT (f : F) (a : Nat) : Nat → Nat
  | 0 => f.size
  | k + 1 => if szT f a k ≤ a + k then a + k + 1 else szT f a k
theorem szT_eq (f : F) (a : Nat) : ∀ k, szT f a k = if 0 < k then max f.size (a + k) else f.size
  | 0 => rfl
  | k + 1 => by
    unfold szT
    rw [szT_eq f a k, if_pos (Nat.succ_pos k)]
    by_cases hk : 0 < k
    · rw [if_pos hk]
      split <;> omega
    · rw [if_neg hk]
      obtain rfl : k = 0 := by omega
      split <;> omega
end Sp
set_option maxRecDepth 100000 in
set_option maxHeartbeats 2000000 in
theorem sr_Cut (w : World) (G : Nat → Prop) (v : Value) (f : Sp.F) (s : Int) (hv : SpV G w v f) (hO : Sp.OK f) (hG : ∀ k, w.heap.size ≤ k → G k) :
    Calls Tryd.prog 25 #[v, .int .i64 s] w (SpA G (Sp.cut f s) (Sp.cutC s) w) := by
  obtain ⟨vb, vk, gb, gk, rfl, hgg, hb, hk⟩ := hv
  have hQ0 := Lib.hid (SpQ.start w hgg hb hk hO hG)
  clear hG hgg
  have HO := Lib.hid hO
  obtain ⟨Ab, ob, cb, rfl, -, -, -⟩ := hb.form
  obtain ⟨Ak, ok, ck, rfl, -, -, -⟩ := hk.form
  clear hb hk hO
  by_cases hs : 0 ≤ s ∧ s ≤ 64
  · obtain ⟨n, rfl⟩ : ∃ n : Nat, s = n := ⟨s.toNat, by omega⟩
    have e1 := decide_eq_true hs
    have hn64 : n ≤ 64 := by omega
    have er := Lib.hid (show Sp.cutC n = 0 from if_pos hs)
    have ec := Lib.hid (show Sp.cut f n = Sp.ct f n from by unfold Sp.cut; rw [if_pos hs]; rfl)
    clear hs
    go_enter Tryd.func25, Tryd.ntmps25
    go_wp2_with fail
    revert hQ0
    generalize (w.alloc (.cells #[.slice Ab f.byt.length cb, .int .i64 f.size, .slice Ak f.blk.length ck] 49)).alloc (.cells #[.slice none 0 0, .int .i64 0, .slice none 0 0] 49) = w1
    intro hQ0
    generalize w.heap.size = B at *
    refine useC (r2in_is n 0 64 true w1 e1) ?_
    rintro e w1 ⟨rfl, rfl⟩
    go_wp2
    go_loopw [6] (fun i wr => ∃ j : Nat, n ≤ j ∧ j ≤ 64 ∧ i = .int .i64 j ∧ ∃ vb vk, Hid (SpQ G w wr B vb vk ⟨f.size, Sp.rcB f.byt n (j - n), Sp.rcK f.blk n (j - n)⟩)) (fun i _ => 64 - (intOf i).toNat)
    case atStart => exact ⟨n, Nat.le_refl _, hn64, rfl, _, _, by rw [Nat.sub_self]; exact hQ0⟩
    case round =>
      clear hQ0
      obtain ⟨j, hj0, hj1, rfl, vb, vk, hQ⟩ := hrel
      obtain ⟨c0, c1, c2⟩ := hQ.out.box.cells
      have hfz := fun i => free_block hQ.out.box i none
      by_cases hlt : j < 64
      · have HSB : Hid ((Sp.rcB f.byt n (j - n)).set j 0 = Sp.rcB f.byt n (j + 1 - n)) := by
          show (Sp.rcB f.byt n (j - n)).set j 0 = Sp.rcB f.byt n (j + 1 - n)
          rw [show j + 1 - n = (j - n) + 1 by omega, Sp.rcB, show n + (j - n) = j by omega]
        have HSK : Hid (Sp.rcK f.blk n (j + 1 - n) = if j % 4 = 0 then (Sp.rcK f.blk n (j - n)).set (j / 4) 0 else Sp.rcK f.blk n (j - n)) := by
          show Sp.rcK f.blk n (j + 1 - n) = _
          rw [show j + 1 - n = (j - n) + 1 by omega, Sp.rcK, show n + (j - n) = j by omega]
        have HC1 : Hid (Calls Tryd.prog 20 #[vb, .int .i64 j, .int .i64 0] wr fun e w2 => ∃ A c, e = .returned (.slice A 64 c) ∧ SpQ G w w2 B vb vk ⟨f.size, Sp.rcB f.byt n (j - n), Sp.rcK f.blk n (j - n)⟩ ∧ SpQ G w (w2.setCell ⟨B, 0, none⟩ (.slice A 64 c)) B (.slice A 64 c) vk ⟨f.size, Sp.rcB f.byt n (j + 1 - n), Sp.rcK f.blk n (j - n)⟩) := by
          obtain ⟨g1, _, hs1⟩ := hQ.out.byt
          have hl := hQ.out.lenB
          exact (set_any wr vb g1 _ j 0 hs1 (by rw [hl]; exact hlt) (by rw [hl]; decide)).mono fun _ _ h => hQ.out.row0 (by rw [List.length_set]; exact hl) HSB.out h
        clear HSB hQ
        by_cases h4 : j % 4 = 0
        · have h4' : ((j : Int) % 4 == 0) = true := by rw [beq_iff_eq]; omega
          obtain ⟨q, hq⟩ : ∃ q : Nat, q = j / 4 := ⟨_, rfl⟩
          have hq' : (j : Int) / 4 = (q : Int) := by omega
          have hq16 : q < 16 := by omega
          have HSK2 : Hid ((Sp.rcK f.blk n (j - n)).set q 0 = Sp.rcK f.blk n (j + 1 - n)) := by
            show _ = Sp.rcK f.blk n (j + 1 - n)
            rw [HSK.out, if_pos h4, hq]
          clear HSK hq h4
          go_wp2_with (first
            | (go_at_call 20; (with_reducible refine useC HC1.out ?_); rintro e w2 ⟨A2, cc2, rfl, hQ2, hQ3⟩; have HQ3 := Lib.hid hQ3; clear hQ3 c0 c1 c2 hfz; obtain ⟨d0, d1, d2⟩ := hQ2.box.cells; have hfz2 := free_block hQ2.box 0 none
               have HC2 : Hid (Calls Tryd.prog 20 #[vk, .int .i64 q, .int .i64 0] (w2.setCell ⟨B, 0, none⟩ (.slice A2 64 cc2)) fun e w3 => ∃ A c, e = .returned (.slice A 16 c) ∧ SpQ G w w3 B (.slice A2 64 cc2) vk ⟨f.size, Sp.rcB f.byt n (j + 1 - n), Sp.rcK f.blk n (j - n)⟩ ∧ SpQ G w (w3.setCell ⟨B, 2, none⟩ (.slice A 16 c)) B (.slice A2 64 cc2) (.slice A 16 c) ⟨f.size, Sp.rcB f.byt n (j + 1 - n), Sp.rcK f.blk n (j + 1 - n)⟩) := by
                 obtain ⟨g1, _, hs1⟩ := HQ3.out.blk
                 have hl := HQ3.out.lenK
                 exact (set_any _ vk g1 _ q 0 hs1 (by rw [hl]; exact hq16) (by rw [hl]; decide)).mono fun _ _ h => HQ3.out.row2 (by rw [List.length_set]; exact hl) HSK2.out h
               clear hQ2)
            | (go_at_call 20; (with_reducible refine useC HC2.out ?_); rintro e w3 ⟨A3, cc3, rfl, hQ4, hQ5⟩; have HQ5 := Lib.hid hQ5; clear hQ5 d0 d1 d2 hfz2; obtain ⟨d0, d1, d2⟩ := hQ4.box.cells; have hfz2 := free_block hQ4.box 2 none; clear hQ4))
          go_roundw
          case rel => exact ⟨j + 1, by omega, by omega, by go_num, _, _, HQ5⟩
          case measure => simp [intOf]; omega
        · have h4' : ((j : Int) % 4 == 0) = false := by rw [beq_eq_false_iff_ne]; omega
          rw [if_neg h4] at HSK
          clear h4
          go_wp2_with (go_at_call 20; (with_reducible refine useC HC1.out ?_); rintro e w2 ⟨A2, cc2, rfl, hQ2, hQ3⟩; rw [← HSK.out] at hQ3; have HQ3 := Lib.hid hQ3; clear hQ3 c0 c1 c2 hfz; obtain ⟨d0, d1, d2⟩ := hQ2.box.cells; have hfz2 := free_block hQ2.box 0 none; clear hQ2)
          go_roundw
          case rel => exact ⟨j + 1, by omega, by omega, by go_num, _, _, HQ3⟩
          case measure => simp [intOf]; omega
      · obtain rfl : j = 64 := by omega
        obtain ⟨h1, h2⟩ := Sp.rc_end HO.out hn64
        have hQ1 := hQ.out.put1 n
        rw [h1, h2] at hQ1
        have HQ1 := Lib.hid hQ1
        have hfo := fun i => free_block hQ.out.out i none
        obtain ⟨o0, o1, o2⟩ := hQ.out.out.cells
        obtain ⟨gb', -, hsb⟩ := hQ.out.byt
        obtain ⟨gk', -, hsk⟩ := hQ.out.blk
        obtain ⟨A5, ob5, cb5, rfl, -, -, -⟩ := hsb.form
        obtain ⟨A6, ob6, cb6, rfl, -, -, -⟩ := hsk.form
        clear hsb hsk hQ h1 h2 hQ1
        rw [Sp.rcB_len, Sp.rcK_len] at *
        have HE := Lib.hid HQ1.out.fin
        go_wp2
        exact bodyPost_ret (v := .tuple #[.agg #[.slice A5 f.byt.length cb5, .int .i64 n, .slice A6 f.blk.length cb6], .int .i64 0]) (sp_results Tryd.results25 rfl rfl HE.out.1) rfl ⟨_, by rw [er.out], by rw [ec.out]; exact HE.out.2.1, HE.out.2.2⟩
  · have e1 := decide_eq_false hs
    have er := Lib.hid (show Sp.cutC s = 1 from if_neg hs)
    have ec := Lib.hid (show Sp.cut f s = f from by unfold Sp.cut; rw [if_neg hs])
    clear hs
    go_enter Tryd.func25, Tryd.ntmps25
    go_wp2_with fail
    revert hQ0
    generalize (w.alloc (.cells #[.slice Ab f.byt.length cb, .int .i64 f.size, .slice Ak f.blk.length ck] 49)).alloc (.cells #[.slice none 0 0, .int .i64 0, .slice none 0 0] 49) = w1
    intro hQ0
    generalize w.heap.size = B at *
    refine useC (r2in_is s 0 64 false w1 e1) ?_
    rintro e w1 ⟨rfl, rfl⟩
    obtain ⟨c0, c1, c2⟩ := hQ0.out.box.cells
    have hfo := fun i => free_block hQ0.out.out i none
    obtain ⟨o0, o1, o2⟩ := hQ0.out.out.cells
    have HE := Lib.hid hQ0.out.fin
    go_wp2
    exact bodyPost_ret (v := .tuple #[.agg #[.slice Ab f.byt.length cb, .int .i64 f.size, .slice Ak f.blk.length ck], .int .i64 1]) (sp_results Tryd.results25 rfl rfl HE.out.1) rfl ⟨_, by rw [er.out], by rw [ec.out]; exact HE.out.2.1, HE.out.2.2⟩
theorem Sp.okL_r1 (l : List Int) : Sp.okL l = allIn l 0 255 := rfl
theorem Sp.wrong_r1 {a : Int} {l : List Int} (h : r1bytes l 64 ≠ 0) : Sp.wrong a l = r1bytes l 64 := by
  unfold r1bytes at h ⊢
  unfold Sp.wrong
  rw [Sp.okL_r1]
  split
  · rfl
  · rename_i h1
    rw [if_neg h1] at h
    split
    · rfl
    · rename_i h2
      rw [if_neg h2] at h
      exact absurd rfl h
theorem Sp.wrong_at {a : Int} {l : List Int} (h : r1bytes l 64 = 0) : Sp.wrong a l = if ¬ (0 ≤ a ∧ a ≤ 64) then 1 else if 64 < a + l.length then 4 else 0 := by
  unfold r1bytes at h
  unfold Sp.wrong
  rw [Sp.okL_r1]
  split at h
  · cases h
  · rename_i h1
    rw [if_neg h1]
    split at h
    · cases h
    · rename_i h2
      rw [if_neg h2]
set_option maxRecDepth 100000 in
set_option maxHeartbeats 2000000 in
theorem sr_Write_no (w : World) (G : Nat → Prop) (v u : Value) (g : Nat) (f : Sp.F) (a : Int) (l : List Int) (hv : SpV G w v f) (hO : Sp.OK f) (hG : ∀ k, w.heap.size ≤ k → G k) (hs : Sl w u g l) (hw : Sp.wrong a l ≠ 0) :
    Calls Tryd.prog 27 #[v, .int .i64 a, u] w (SpA G (Sp.write f a l) (Sp.wrong a l) w) := by
  obtain ⟨vb, vk, gb, gk, rfl, hgg, hb, hk⟩ := hv
  have hQ0 := Lib.hid (SpQ.start w hgg hb hk hO hG)
  clear hG hgg
  have ec := Lib.hid (show Sp.write f a l = f from by unfold Sp.write; rw [if_neg hw])
  have HB := Lib.hid (fun W (hW : Fr [] w W) => r1Bytes W u g l 64 (hs.fr hW (by simp)))
  obtain ⟨Ab, ob, cb, rfl, -, -, -⟩ := hb.form
  obtain ⟨Ak, ok, ck, rfl, -, -, -⟩ := hk.form
  obtain ⟨Al, ol, cl, rfl, -, -, -⟩ := hs.form
  clear hb hk hO hs
  by_cases hb : r1bytes l 64 = 0
  · have er0 := Lib.hid (Sp.wrong_at (a := a) hb)
    have hl : l.length ≤ 64 := by
      unfold r1bytes at hb
      split at hb
      · cases hb
      · omega
    by_cases ha : 0 ≤ a ∧ a ≤ 64
    · have e1 := decide_eq_true ha
      have h4 : 64 < a + l.length := by
        rw [er0.out, if_neg (by omega)] at hw
        split at hw
        · assumption
        · exact absurd rfl hw
      have er := Lib.hid (show Sp.wrong a l = 4 from by rw [er0.out, if_neg (by omega), if_pos h4])
      obtain ⟨a1, a2⟩ := ha
      clear hw
      go_enter Tryd.func27, Tryd.ntmps27
      go_wp2_with fail
      revert hQ0
      generalize (w.alloc (.cells #[.slice Ab f.byt.length cb, .int .i64 f.size, .slice Ak f.blk.length ck] 49)).alloc (.cells #[.slice none 0 0, .int .i64 0, .slice none 0 0] 49) = w1
      intro hQ0
      generalize w.heap.size = B at *
      refine useC (HB.out w1 hQ0.out.fr) ?_
      rw [hb]
      rintro e w1 ⟨rfl, rfl⟩
      obtain ⟨c0, c1, c2⟩ := hQ0.out.box.cells
      have hfo := fun i => free_block hQ0.out.out i none
      obtain ⟨o0, o1, o2⟩ := hQ0.out.out.cells
      have HE := Lib.hid hQ0.out.fin
      clear hb
      go_wp2_with (go_at_call 39; (with_reducible refine useC (r2in_is a _ _ true _ e1) ?_); rintro e w1 ⟨rfl, rfl⟩)
      exact bodyPost_ret (v := .tuple #[.agg #[.slice Ab f.byt.length cb, .int .i64 f.size, .slice Ak f.blk.length ck], .int .i64 4]) (sp_results Tryd.results27 rfl rfl HE.out.1) rfl ⟨_, by rw [er.out], by rw [ec.out]; exact HE.out.2.1, HE.out.2.2⟩
    · have e1 := decide_eq_false ha
      have er := Lib.hid (show Sp.wrong a l = 1 from by rw [er0.out, if_pos ha])
      clear hw ha
      go_enter Tryd.func27, Tryd.ntmps27
      go_wp2_with fail
      revert hQ0
      generalize (w.alloc (.cells #[.slice Ab f.byt.length cb, .int .i64 f.size, .slice Ak f.blk.length ck] 49)).alloc (.cells #[.slice none 0 0, .int .i64 0, .slice none 0 0] 49) = w1
      intro hQ0
      generalize w.heap.size = B at *
      refine useC (HB.out w1 hQ0.out.fr) ?_
      rw [hb]
      rintro e w1 ⟨rfl, rfl⟩
      obtain ⟨c0, c1, c2⟩ := hQ0.out.box.cells
      have hfo := fun i => free_block hQ0.out.out i none
      obtain ⟨o0, o1, o2⟩ := hQ0.out.out.cells
      have HE := Lib.hid hQ0.out.fin
      clear hb
      go_wp2_with (go_at_call 39; (with_reducible refine useC (r2in_is a _ _ false _ e1) ?_); rintro e w1 ⟨rfl, rfl⟩)
      exact bodyPost_ret (v := .tuple #[.agg #[.slice Ab f.byt.length cb, .int .i64 f.size, .slice Ak f.blk.length ck], .int .i64 1]) (sp_results Tryd.results27 rfl rfl HE.out.1) rfl ⟨_, by rw [er.out], by rw [ec.out]; exact HE.out.2.1, HE.out.2.2⟩
  · have er := Lib.hid (Sp.wrong_r1 (a := a) hb)
    clear hw
    go_enter Tryd.func27, Tryd.ntmps27
    go_wp2_with fail
    revert hQ0
    generalize (w.alloc (.cells #[.slice Ab f.byt.length cb, .int .i64 f.size, .slice Ak f.blk.length ck] 49)).alloc (.cells #[.slice none 0 0, .int .i64 0, .slice none 0 0] 49) = w1
    intro hQ0
    generalize w.heap.size = B at *
    refine useC (HB.out w1 hQ0.out.fr) ?_
    clear HB
    generalize r1bytes l 64 = c at *
    rintro e w1 ⟨rfl, rfl⟩
    obtain ⟨c0, c1, c2⟩ := hQ0.out.box.cells
    have hfo := fun i => free_block hQ0.out.out i none
    obtain ⟨o0, o1, o2⟩ := hQ0.out.out.cells
    have HE := Lib.hid hQ0.out.fin
    go_wp2
    exact bodyPost_ret (v := .tuple #[.agg #[.slice Ab f.byt.length cb, .int .i64 f.size, .slice Ak f.blk.length ck], .int .i64 c]) (sp_results Tryd.results27 rfl rfl HE.out.1) rfl ⟨_, by rw [er.out], by rw [ec.out]; exact HE.out.2.1, HE.out.2.2⟩
end Go.Proofs.YtmgalnkcpolafaaDoor
