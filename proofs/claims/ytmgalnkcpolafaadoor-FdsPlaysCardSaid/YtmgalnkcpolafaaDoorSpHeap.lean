/- A file with holes in memory: what a store, a new block, a struck one make of it. -/
import Derived.Test.YtmgalnkcpolafaaDoorCommon
import Derived.Test.YtmgalnkcpolafaaDoorSpPlain
import Derived.Test.YtmgalnkcpolafaaDoorPMap
namespace Go.Proofs.YtmgalnkcpolafaaDoor
open Go.RowKit

/-- From w to w' nothing has turned but blocks of which P holds, and what is new. -/
structure FrP (P : Nat → Prop) (w w' : World) : Prop where
  os : w'.os = w.os
  tape : w'.tape = w.tape
  output : w'.output = w.output
  size : w.heap.size ≤ w'.heap.size
  block : ∀ k, k < w.heap.size → ¬ P k → w'.heap[k]? = w.heap[k]?
theorem FrP.refl (P : Nat → Prop) (w : World) : FrP P w w := ⟨rfl, rfl, rfl, Nat.le_refl _, fun _ _ _ => rfl⟩
theorem FrP.step {P : Nat → Prop} {S : List Nat} {a b c : World} (h : FrP P a b) (k : Fr S b c) (hS : ∀ x ∈ S, P x ∨ a.heap.size ≤ x) : FrP P a c :=
  ⟨k.os.trans h.os, k.tape.trans h.tape, k.output.trans h.output, Nat.le_trans h.size k.size, fun i hi hn =>
    (k.block i (Nat.lt_of_lt_of_le hi h.size) (fun hx => (hS i hx).elim hn (fun h' => absurd hi (Nat.not_lt.2 h')))).trans (h.block i hi hn)⟩
theorem FrP.trans {P Q : Nat → Prop} {a b c : World} (h : FrP P a b) (k : FrP Q b c) (hQ : ∀ x, Q x → P x ∨ a.heap.size ≤ x) : FrP P a c :=
  ⟨k.os.trans h.os, k.tape.trans h.tape, k.output.trans h.output, Nat.le_trans h.size k.size, fun i hi hn =>
    (k.block i (Nat.lt_of_lt_of_le hi h.size) (fun hx => (hQ i hx).elim hn (fun h' => absurd hi (Nat.not_lt.2 h')))).trans (h.block i hi hn)⟩
theorem FrP.below {B : Nat} {w w' : World} (h : FrP (B ≤ ·) w w') (hB : B ≤ w.heap.size) : Below B w w' := ⟨h.os, h.tape, h.output, h.size, fun k hk => h.block k (by omega) (by omega)⟩
theorem FrP.fr {P : Nat → Prop} {a w w' : World} (h0 : Fr [] a w) (h : FrP P w w') (hP : ∀ k, P k → a.heap.size ≤ k) : Fr [] a w' :=
  ⟨h.os.trans h0.os, h.tape.trans h0.tape, h.output.trans h0.output, Nat.le_trans h0.size h.size, fun k hk _ => (h.block k (Nat.lt_of_lt_of_le hk h0.size) (fun hp => by have := hP k hp; omega)).trans (h0.block k hk (by simp))⟩
theorem FrP.cell {P : Nat → Prop} {w w' : World} (h : FrP P w w') {p : Addr} {v : Value} (hk : w.cell? p = some v) (hn : ¬ P p.block) : w'.cell? p = some v :=
  (World.cell?_of_block (h.block p.block (block_lt_of_cell hk) hn)).trans hk
theorem Sl.frP {P : Nat → Prop} {w w' : World} {v : Value} {g : Nat} {xs : List Int} (h : Sl w v g xs) (hf : FrP P w w') (hg : xs = [] ∨ ¬ P g) : Sl w' v g xs := by
  rcases h with h | ⟨o, c, h0, h1, h2, h3⟩
  · exact .inl h
  · rcases hg with rfl | hg
    · exact .inr ⟨o, c, h0, h1, h2, fun i hi => absurd hi (by simp)⟩
    · exact .inr ⟨o, c, h0, h1, h2, fun i hi => hf.cell (h3 i hi) hg⟩

theorem zero_ptr (w : World) : (zeroValue 78).run Tryd.prog w = .ok (.pointer none) w := by kernel_rfl
/-- What the map of blocks says. -/
def spM (blk : List Int) (o : Nat → Nat) (x : Int) : Option Nat := if (0 ≤ x ∧ x < 16) ∧ nth blk x.toNat = 1 then some (o x.toNat) else none
theorem spM_yes {blk : List Int} {i : Nat} (o : Nat → Nat) (hi : i < 16) (h : nth blk i = 1) : spM blk o i = some (o i) := by unfold spM; rw [Int.toNat_natCast, if_pos ⟨by omega, h⟩]
theorem spM_no {blk : List Int} {i : Nat} (o : Nat → Nat) (h : nth blk i ≠ 1) : spM blk o i = none := by unfold spM; rw [Int.toNat_natCast, if_neg (fun hh => h hh.2)]
theorem spM_some {blk : List Int} {o : Nat → Nat} {x : Int} {q : Nat} (h : spM blk o x = some q) : ∃ i : Nat, x = i ∧ i < 16 ∧ nth blk i = 1 ∧ q = o i := by
  unfold spM at h
  split at h
  · rename_i hh
    injection h with h
    exact ⟨x.toNat, by omega, by omega, hh.2, h.symm⟩
  · cases h
/-- The parts of a file in memory, but for the map: its own block b, the map's block mb, its blocks o; of all of which P holds. -/
structure SpB (P : Nat → Prop) (w : World) (b mb : Nat) (s : Int) (byt blk : List Int) (o : Nat → Nat) : Prop where
  gb : P b
  gm : P mb
  ne : b ≠ mb
  mlt : mb < w.heap.size
  file : w.heap[b]? = some (.cells #[.int .i64 s, .map (some mb)] 77 (0, 0))
  arr : ∀ i, i < 16 → nth blk i = 1 → P (o i) ∧ o i ≠ b ∧ o i ≠ mb ∧ w.heap[o i]? = some (.cells (ints (Sp.cutOut byt (4 * i) 4)) 79 (0, 0))
  inj : ∀ i j, i < 16 → j < 16 → nth blk i = 1 → nth blk j = 1 → o i = o j → i = j
theorem file_cells {w : World} {b : Nat} {x y : Value} (h : w.heap[b]? = some (.cells #[x, y] 77 (0, 0))) : w.cell? ⟨b, 0, none⟩ = some x ∧ w.cell? ⟨b, 1, none⟩ = some y := by
  constructor <;> rw [cell_of_row w b _ _ _ _ h] <;> rfl
namespace Sp
theorem cutOut_set_in (byt : List Int) (i j : Nat) (x : Int) (hl : byt.length = 64) (hi : i < 16) (hj : j < 4) : cutOut (byt.set (4 * i + j) x) (4 * i) 4 = (cutOut byt (4 * i) 4).set j x := by
  apply List.ext_getElem?
  intro q
  unfold cutOut
  rw [List.getElem?_take, List.getElem?_drop, List.getElem?_set, List.getElem?_set, List.getElem?_take, List.getElem?_drop, List.length_take, List.length_drop, hl]
  by_cases hq : q < 4
  · rw [if_pos hq, if_pos hq]
    by_cases e : j = q
    · subst e; rw [if_pos rfl, if_pos rfl, if_pos (by omega), if_pos (by omega)]
    · rw [if_neg (by omega), if_neg e]
  · rw [if_neg hq, if_neg hq, if_neg (by omega)]
theorem cutOut_set_out (byt : List Int) (i j p : Nat) (x : Int) (hj : j < 4) (hp : p ≠ i) : cutOut (byt.set (4 * i + j) x) (4 * p) 4 = cutOut byt (4 * p) 4 := by
  apply List.ext_getElem?
  intro q
  unfold cutOut
  rw [List.getElem?_take, List.getElem?_drop, List.getElem?_set, List.getElem?_take, List.getElem?_drop]
  by_cases hq : q < 4
  · rw [if_pos hq, if_pos hq, if_neg (by omega)]
  · rw [if_neg hq, if_neg hq]
theorem cutOut_zero (byt : List Int) (i : Nat) (hl : byt.length = 64) (hi : i < 16) (h : ∀ j, j < 4 → nth byt (4 * i + j) = 0) : cutOut byt (4 * i) 4 = [0, 0, 0, 0] := by
  have hlen : (cutOut byt (4 * i) 4).length = 4 := cutOut_len _ _ _ (by omega)
  apply List.ext_getElem
  · rw [hlen]; rfl
  · intro q h1 h2
    have hq : q < 4 := by omega
    have e1 := cutOut_nth byt (4 * i) 4 q hq
    rw [h q hq] at e1
    simp only [nth, List.getD, List.getElem?_eq_getElem h1, Option.getD_some] at e1
    rw [e1]
    rcases (show q = 0 ∨ q = 1 ∨ q = 2 ∨ q = 3 by omega) with rfl | rfl | rfl | rfl <;> rfl
end Sp
section
variable {P P' : Nat → Prop} {w w' : World} {b mb : Nat} {s : Int} {byt blk : List Int} {o : Nat → Nat}
theorem SpB.fr {S : List Nat} (h : SpB P w b mb s byt blk o) (hf : Fr S w w') (hb : b ∉ S) (hS : ∀ i, i < 16 → nth blk i = 1 → o i ∉ S) : SpB P w' b mb s byt blk o :=
  ⟨h.gb, h.gm, h.ne, Nat.lt_of_lt_of_le h.mlt hf.size, hf.get h.file hb, fun i hi h1 => by
    obtain ⟨q1, q2, q3, q4⟩ := h.arr i hi h1
    exact ⟨q1, q2, q3, hf.get q4 (hS i hi h1)⟩, h.inj⟩
theorem SpB.imp (h : SpB P w b mb s byt blk o) (hp : ∀ k, P k → P' k) : SpB P' w b mb s byt blk o :=
  ⟨hp _ h.gb, hp _ h.gm, h.ne, h.mlt, h.file, fun i hi h1 => by
    obtain ⟨q1, q2⟩ := h.arr i hi h1
    exact ⟨hp _ q1, q2⟩, h.inj⟩
theorem SpB.keep (h : SpB P w b mb s byt blk o) (hf : Fr [] w w') : SpB P w' b mb s byt blk o := h.fr hf (by simp) (by simp)
theorem SpB.lt (h : SpB P w b mb s byt blk o) {i : Nat} (hi : i < 16) (h1 : nth blk i = 1) : o i < w.heap.size := lt_of_heap (h.arr i hi h1).2.2.2
theorem SpB.byte (h : SpB P w b mb s byt blk o) (hl : byt.length = 64) {i j : Nat} (hi : i < 16) (hj : j < 4) (h1 : nth blk i = 1) : w.cell? ⟨o i, j, none⟩ = some (.int .i64 (nth byt (4 * i + j))) := by
  rw [cell_ints (h.arr i hi h1).2.2.2 (by rw [Sp.cutOut_len _ _ _ (by omega)]; exact hj), Sp.cutOut_nth _ _ _ _ hj]
theorem SpB.free (h : SpB P w b mb s byt blk o) {i : Nat} (j : Nat) (hi : i < 16) (h1 : nth blk i = 1) : w.frozen? ⟨o i, j, none⟩ = false := free_block (h.arr i hi h1).2.2.2 j none
theorem SpB.put (h : SpB P w b mb s byt blk o) (hl : byt.length = 64) {i j : Nat} (hi : i < 16) (hj : j < 4) (h1 : nth blk i = 1) (x : Int) : SpB P (w.setCell ⟨o i, j, none⟩ (.int .i64 x)) b mb s (byt.set (4 * i + j) x) blk o := by
  obtain ⟨q1, q2, q3, q4⟩ := h.arr i hi h1
  refine ⟨h.gb, h.gm, h.ne, by have := h.mlt; simpa [World.setCell] using this, by rw [heap_setCell_other _ _ _ _ (Ne.symm q2)]; exact h.file, fun p hp hp1 => ?_, h.inj⟩
  obtain ⟨r1, r2, r3, r4⟩ := h.arr p hp hp1
  refine ⟨r1, r2, r3, ?_⟩
  by_cases e : p = i
  · subst e
    rw [set_ints r4, Sp.cutOut_set_in _ _ _ _ hl hi hj]
  · rw [heap_setCell_other _ _ _ _ (fun e2 => e (h.inj p i hp hi hp1 h1 e2)), r4, Sp.cutOut_set_out _ _ _ _ _ hj e]
theorem SpB.size (h : SpB P w b mb s byt blk o) (x : Int) : SpB P (w.setCell ⟨b, 0, none⟩ (.int .i64 x)) b mb x byt blk o :=
  ⟨h.gb, h.gm, h.ne, by have := h.mlt; simpa [World.setCell] using this, set_block h.file _, fun i hi h1 => by
    obtain ⟨q1, q2, q3, q4⟩ := h.arr i hi h1
    exact ⟨q1, q2, q3, by rw [heap_setCell_other _ _ _ _ q2]; exact q4⟩, h.inj⟩
/-- A new block q for a place that had none. -/
theorem SpB.new (h : SpB P w b mb s byt blk o) (hk : blk.length = 16) {i q : Nat} (hi : i < 16) (hB : P q) (hb : q ≠ b) (hm : q ≠ mb) (hq : w.heap[q]? = some (.cells (ints (Sp.cutOut byt (4 * i) 4)) 79 (0, 0))) (hf : ∀ j, j < 16 → nth blk j = 1 → o j ≠ q) :
    SpB P w b mb s byt (blk.set i 1) (fun j => if j = i then q else o j) := by
  refine ⟨h.gb, h.gm, h.ne, h.mlt, h.file, fun j hj hj1 => ?_, fun j p hj hp hj1 hp1 e => ?_⟩
  · rw [Sp.nth_set _ _ _ _ (by omega)] at hj1
    by_cases e : j = i
    · subst e; simp only [if_true]; exact ⟨hB, hb, hm, hq⟩
    · rw [if_neg (by omega)] at hj1
      simp only [e, if_false]
      exact h.arr j hj hj1
  · rw [Sp.nth_set _ _ _ _ (by omega)] at hj1 hp1
    by_cases e1 : j = i
    · by_cases e2 : p = i
      · omega
      · rw [if_neg (by omega)] at hp1
        simp only [e1, if_true, e2, if_false] at e
        exact absurd e.symm (hf p hp hp1)
    · rw [if_neg (by omega)] at hj1
      by_cases e2 : p = i
      · simp only [e2, if_true, e1, if_false] at e
        exact absurd e (hf j hj hj1)
      · rw [if_neg (by omega)] at hp1
        simp only [e1, e2, if_false] at e
        exact h.inj j p hj hp hj1 hp1 e
theorem spM_new (blk : List Int) (hk : blk.length = 16) {i : Nat} (hi : i < 16) (q : Nat) : (fun x : Int => if x = (i : Int) then some q else spM blk o x) = spM (blk.set i 1) (fun j => if j = i then q else o j) := by
  funext x
  show (if x = (i : Int) then some q else if (0 ≤ x ∧ x < 16) ∧ nth blk x.toNat = 1 then some (o x.toNat) else none) = if (0 ≤ x ∧ x < 16) ∧ nth (blk.set i 1) x.toNat = 1 then some (if x.toNat = i then q else o x.toNat) else none
  rw [Sp.nth_set blk i 1 x.toNat (by omega)]
  by_cases e : x = i
  · subst e
    rw [if_pos rfl, Int.toNat_natCast, if_pos rfl, if_pos rfl, if_pos ⟨by omega, rfl⟩]
  · rw [if_neg e]
    by_cases hx : 0 ≤ x ∧ x < 16
    · have e2 : x.toNat ≠ i := by omega
      rw [if_neg (show ¬ i = x.toNat from fun h => e2 h.symm), if_neg e2]
    · rw [if_neg (fun h => hx h.1), if_neg (fun h => hx h.1)]
/-- A block struck. -/
theorem SpB.del (h : SpB P w b mb s byt blk o) (hk : blk.length = 16) {i : Nat} (hi : i < 16) : SpB P w b mb s byt (blk.set i 0) o := by
  have hx : ∀ j, nth (blk.set i 0) j = 1 → nth blk j = 1 := fun j hj => by
    rw [Sp.nth_set _ _ _ _ (by omega)] at hj
    split at hj
    · cases hj
    · exact hj
  exact ⟨h.gb, h.gm, h.ne, h.mlt, h.file, fun j hj hj1 => h.arr j hj (hx j hj1), fun j p hj hp hj1 hp1 e => h.inj j p hj hp (hx j hj1) (hx p hp1) e⟩
theorem spM_del (blk : List Int) (hk : blk.length = 16) {i : Nat} (hi : i < 16) : (fun x : Int => if x = (i : Int) then none else spM blk o x) = spM (blk.set i 0) o := by
  funext x
  show (if x = (i : Int) then none else if (0 ≤ x ∧ x < 16) ∧ nth blk x.toNat = 1 then some (o x.toNat) else none) = if (0 ≤ x ∧ x < 16) ∧ nth (blk.set i 0) x.toNat = 1 then some (o x.toNat) else none
  rw [Sp.nth_set blk i 0 x.toNat (by omega)]
  by_cases e : x = i
  · subst e
    rw [if_pos rfl, Int.toNat_natCast, if_pos rfl, if_neg (by simp)]
  · rw [if_neg e]
    by_cases hx : 0 ≤ x ∧ x < 16
    · have e2 : x.toNat ≠ i := by omega
      rw [if_neg (show ¬ i = x.toNat from fun h => e2 h.symm)]
    · rw [if_neg (fun h => hx h.1), if_neg (fun h => hx h.1)]
end
/-- A file in memory: its own block b; the map has had at most N entries. -/
def SpF (P : Nat → Prop) (w : World) (b N : Nat) (f : Sp.F) : Prop := ∃ mb n o, n ≤ N ∧ SpB P w b mb f.size f.byt f.blk o ∧ PMap Tryd.prog 3 w mb n (spM f.blk o)
theorem SpF.keep {P : Nat → Prop} {w w' : World} {b N : Nat} {f : Sp.F} (h : SpF P w b N f) (hf : Fr [] w w') : SpF P w' b N f := by
  obtain ⟨mb, n, o, h0, h1, h2⟩ := h
  exact ⟨mb, n, o, h0, h1.keep hf, h2.fr hf (by simp)⟩
theorem SpF.mono {P : Nat → Prop} {w : World} {b N M : Nat} {f : Sp.F} (h : SpF P w b N f) (hM : N ≤ M) : SpF P w b M f := by
  obtain ⟨mb, n, o, h0, h1, h2⟩ := h
  exact ⟨mb, n, o, by omega, h1, h2⟩
theorem SpF.imp {P P' : Nat → Prop} {w : World} {b N : Nat} {f : Sp.F} (h : SpF P w b N f) (hp : ∀ k, P k → P' k) : SpF P' w b N f := by
  obtain ⟨mb, n, o, h0, h1, h2⟩ := h
  exact ⟨mb, n, o, h0, h1.imp hp, h2⟩
/-- All parts are old ones. -/
theorem SpF.tight {P : Nat → Prop} {w : World} {b N : Nat} {f : Sp.F} (h : SpF P w b N f) : SpF (fun k => P k ∧ k < w.heap.size) w b N f := by
  obtain ⟨mb, n, o, h0, h1, h2⟩ := h
  exact ⟨mb, n, o, h0, ⟨⟨h1.gb, lt_of_heap h1.file⟩, ⟨h1.gm, h1.mlt⟩, h1.ne, h1.mlt, h1.file, fun i hi hi1 => by
    obtain ⟨q1, q2⟩ := h1.arr i hi hi1
    exact ⟨⟨q1, h1.lt hi hi1⟩, q2⟩, h1.inj⟩, h2⟩
end Go.Proofs.YtmgalnkcpolafaaDoor
