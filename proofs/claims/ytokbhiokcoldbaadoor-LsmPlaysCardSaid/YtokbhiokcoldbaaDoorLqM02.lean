/- What all the walks of this seat share: Within, small words on lists of numbers, the forms of answers. -/
import Derived.Test.YtokbhiokcoldbaaDoorRows
import Derived.Deep.AppendLies
import Derived.Test.YtokbhiokcoldbaaDoorLqM01
namespace Go.Proofs.YtokbhiokcoldbaaDoor
open Go.RowKit

theorem within_any (n lo hi : Int) (w : World) :
    Calls Tryd.prog 63 #[.int .i64 n, .int .i64 lo, .int .i64 hi] w fun e w' => e = .returned (.bool (decide (lo ≤ n ∧ n ≤ hi))) ∧ w = w' := by
  go_enter Tryd.func63, Tryd.ntmps63
  go_wp2
  all_goals (go_ret; refine ⟨?_, rfl⟩; congr; try simp; try omega)
theorem within_is (n lo hi : Int) (b : Bool) (w : World) (h : decide (lo ≤ n ∧ n ≤ hi) = b) :
    Calls Tryd.prog 63 #[.int .i64 n, .int .i64 lo, .int .i64 hi] w fun e w' => e = .returned (.bool b) ∧ w' = w :=
  (within_any n lo hi w).mono fun _ _ ⟨h1, h2⟩ => ⟨by rw [h1, h], h2.symm⟩
theorem getD_mem {xs : List Int} {k : Nat} (h : k < xs.length) : nth xs k ∈ xs := by
  simp [nth, List.getD, h]
theorem not_mem_of {xs : List Int} {x : Int} (h : ∀ j, j < xs.length → nth xs j ≠ x) : x ∉ xs := fun hm => by
  obtain ⟨k, hk, e⟩ := List.getElem_of_mem hm
  exact h k hk (by simp [nth, List.getD, hk, e])
/-- Two lists, held against each other. -/
theorem eq_of_getD {xs ys : List Int} (hl : xs.length = ys.length) (h : ∀ j, j < xs.length → nth xs j = nth ys j) : xs = ys := by
  apply List.ext_getElem hl
  intro i h1 h2
  have := h i h1
  simpa [nth, List.getD, h1, h2] using this
def SameAs (b : Bool) (w : World) (e : Ending) (w' : World) : Prop := e = .returned (.bool b) ∧ Dr w w'
/-- An error of the project's own: 0 is nil. -/
def errV (c : Int) : Value := if c = 0 then .nilIface else .iface 88 (.int .i64 c)
theorem errV_no {c : Int} (h : c ≠ 0) : errV c = .iface 88 (.int .i64 c) := by unfold errV; rw [if_neg h]
/-- The answer b, and nothing that was there has turned. -/
def OkB (b : Bool) (w : World) (e : Ending) (w' : World) : Prop := e = .returned (.bool b) ∧ Fr [] w w'
/-- The answer true, and nothing that was there has turned. -/
def OkT (w : World) (e : Ending) (w' : World) : Prop := e = .returned (.bool true) ∧ Fr [] w w'
end Go.Proofs.YtokbhiokcoldbaaDoor
/- What the walks over rows of integers share. -/
namespace Go.Proofs.YtokbhiokcoldbaaDoor
open Go.RowKit
theorem Tryd.info_int : (Tryd.prog.info? 3).map (fun i => (i.zero, i.size, i.bytes)) = some (some (.int .i64 0), 1, 8) := by kernel_rfl
theorem Tryd.intT : IntT Tryd.prog 25 3 := ⟨Tryd.underlying25, Tryd.info_int⟩
/-- What a call hands back that makes a row: the integers xs, in new memory. -/
def NewRow (xs : List Int) (w : World) (e : Ending) (w' : World) : Prop := ∃ v g, e = .returned v ∧ (w.heap.size ≤ g ∨ xs = []) ∧ Sl w' v g xs ∧ Fr [] w w'
end Go.Proofs.YtokbhiokcoldbaaDoor

/- Rows of integers that only read: each lies in a block of which G holds, or has nothing. No program in sight. -/
namespace Go.Proofs.YtokbhiokcoldbaaDoor
open Go.RowKit

theorem sl_nil_any {w w' : World} {v : Value} {g g' : Nat} {xs : List Int} (h : Sl w v g xs) (hx : xs = []) : Sl w' v g' xs := by
  rcases h with ⟨_, A, c, rfl⟩ | ⟨o, c, rfl, _, _, _⟩
  · exact .inl ⟨hx, A, c, rfl⟩
  · exact .inl ⟨hx, some ⟨g, o, none⟩, c, by rw [hx]; rfl⟩
/-- A row that lies in a block of G, or has nothing. -/
def RowH (G : Nat → Prop) (w : World) (v : Value) (xs : List Int) : Prop := ∃ g, (G g ∨ xs = []) ∧ Sl w v g xs
section
variable {G G' : Nat → Prop} {w w' : World} {v : Value} {xs : List Int}
theorem RowH.fr {S : List Nat} (h : RowH G w v xs) (hf : Fr S w w') (hS : ∀ g ∈ S, ¬ G g) : RowH G w' v xs := by
  obtain ⟨g, hg, hs⟩ := h
  rcases hg with hg | hg
  · exact ⟨g, .inl hg, hs.fr hf (fun hm => hS g hm hg)⟩
  · exact ⟨g, .inr hg, sl_nil_any hs hg⟩
theorem RowH.lt {g : Nat} (hs : Sl w v g xs) (hx : xs ≠ []) : g < w.heap.size := by
  obtain ⟨A, o, c, rfl, -, -, hc⟩ := hs.form
  exact block_lt_of_cell (hc 0 (by cases xs with | nil => exact absurd rfl hx | cons a l => simp))
theorem RowH.mono (h : RowH G w v xs) (hG : ∀ g, g < w.heap.size → G g → G' g) : RowH G' w v xs := by
  obtain ⟨g, hg, hs⟩ := h
  by_cases hx : xs = []
  · exact ⟨g, .inr hx, hs⟩
  · exact ⟨g, .inl (hG g (RowH.lt hs hx) (hg.resolve_right hx)), hs⟩
theorem RowH.form (h : RowH G w v xs) : ∃ (A : Option Addr) (g o c : Nat), v = .slice A xs.length c ∧ xs.length ≤ 9223372036854775807 ∧ (0 < xs.length → A = some ⟨g, o, none⟩) ∧ ∀ W, Fr [] w W → ∀ i, i < xs.length → W.cell? ⟨g, o + i, none⟩ = some (.int .i64 (nth xs i)) := by
  obtain ⟨g, _, hs⟩ := h
  obtain ⟨A, o, c, rfl, hm, hA, hc⟩ := hs.form
  exact ⟨A, g, o, c, rfl, hm, hA, fun W hW i hi => hW.cell (hc i hi) (by simp)⟩
theorem RowH.step (h : RowH G w v xs) (hf : Fr [] w w') : RowH G w' v xs := h.fr hf (by simp)
end
/-- A new row lies in a block that was not there. -/
theorem RowH.ofNew {w w' : World} {v : Value} {g : Nat} {xs : List Int} (hg : w.heap.size ≤ g ∨ xs = []) (hs : Sl w' v g xs) : RowH (w.heap.size ≤ ·) w' v xs := ⟨g, hg, hs⟩
end Go.Proofs.YtokbhiokcoldbaaDoor

/- Rows of structs: elements of k cells each. What the call owns and grows; what it reads. No program in sight. -/
namespace Go.Proofs.YtokbhiokcoldbaaDoor
open Go.RowKit

/-- How an element lies in cells. -/
structure Enc (α : Type) where
  k : Nat
  enc : α → List Value
  len : ∀ a, (enc a).length = k
  one : ∀ a, ∀ v ∈ enc a, v.oneCell' = true
  pos : 0 < k
section
variable {α : Type} (E : Enc α)
def Enc.cells (l : List α) : List Value := l.flatMap E.enc
theorem Enc.cells_len (l : List α) : (E.cells l).length = l.length * E.k := by
  induction l with
  | nil => simp [Enc.cells]
  | cons a l ih =>
    have e : E.cells (a :: l) = E.enc a ++ E.cells l := rfl
    rw [e, List.length_append, E.len, ih, List.length_cons, Nat.add_mul, Nat.one_mul, Nat.add_comm]
theorem Enc.cells_append (l m : List α) : E.cells (l ++ m) = E.cells l ++ E.cells m := by simp [Enc.cells]
theorem Enc.cells_get : ∀ (l : List α) (i r : Nat) (h : i < l.length), r < E.k → (E.cells l)[i * E.k + r]? = (E.enc l[i])[r]?
  | [], i, r, h, _ => by simp at h
  | a :: l, 0, r, h, hr => by
    have e : E.cells (a :: l) = E.enc a ++ E.cells l := rfl
    rw [e, Nat.zero_mul, Nat.zero_add, List.getElem?_append_left (by rw [E.len]; exact hr)]
    rfl
  | a :: l, i + 1, r, h, hr => by
    have e : E.cells (a :: l) = E.enc a ++ E.cells l := rfl
    rw [e, List.getElem?_append_right (by rw [E.len, Nat.add_mul]; omega), E.len, show (i + 1) * E.k + r - E.k = i * E.k + r by rw [Nat.add_mul]; omega]
    exact Enc.cells_get l i r (by simpa using h) hr
theorem Enc.cells_set : ∀ (l : List α) (i : Nat) (_ : i < l.length) (x : α), (E.cells l).take (i * E.k) ++ E.enc x ++ (E.cells l).drop (i * E.k + E.k) = E.cells (l.set i x)
  | [], i, h, _ => by simp at h
  | a :: l, 0, h, x => by
    have e : E.cells (a :: l) = E.enc a ++ E.cells l := rfl
    rw [e, Nat.zero_mul, Nat.zero_add, List.take_zero, List.nil_append, List.drop_append, E.len, Nat.sub_self, List.drop_zero, List.drop_of_length_le (by rw [E.len]; exact Nat.le_refl _)]
    rfl
  | a :: l, i + 1, h, x => by
    have e : E.cells (a :: l) = E.enc a ++ E.cells l := rfl
    have ih := Enc.cells_set l i (by simpa using h) x
    rw [List.set_cons_succ]
    show _ = E.enc a ++ E.cells (l.set i x)
    rw [← ih, e, List.take_append, List.drop_append, E.len, show (i + 1) * E.k - E.k = i * E.k by rw [Nat.add_mul]; omega, show (i + 1) * E.k + E.k - E.k = i * E.k + E.k by rw [Nat.add_mul]; omega,
      List.take_of_length_le (l := E.enc a) (by rw [E.len, Nat.add_mul]; omega), List.drop_of_length_le (l := E.enc a) (by rw [E.len, Nat.add_mul]; omega)]
    simp
/-- What the call owns as a row of such elements that grows. -/
def OwnR (w : World) (B e : Nat) (v : Value) (l : List α) : Prop := w.ownsRow B e E.k v l.length (E.cells l)
/-- What reads so, wherever it lies (in block g). -/
def SlR (w : World) (v : Value) (g : Nat) (l : List α) : Prop :=
  (l = [] ∧ ∃ A c, v = .slice A 0 c) ∨ ∃ o c, v = .slice (some ⟨g, o, none⟩) l.length c ∧ l.length ≤ c ∧ c ≤ maxLen ∧ ∀ i (h : i < l.length) r, r < E.k → w.cell? ⟨g, o + i * E.k + r, none⟩ = (E.enc l[i])[r]?
variable {E} {w w' : World} {B e : Nat} {v : Value} {l : List α}
theorem OwnR.nil : OwnR E w B e (.slice none 0 0) [] := World.ownsRow_nil w B e E.k
theorem OwnR.alloc (h : OwnR E w B e v l) (o : Obj) : OwnR E (w.alloc o) B e v l := World.ownsRow.alloc h o
theorem OwnR.ge (h : OwnR E w B e v l) : ∀ g, v.ownBlock = some g → B ≤ g ∧ g < w.heap.size := World.ownsRow.lt h
theorem OwnR.kept {S : List Nat} (h : OwnR E w B e v l) (hf : Fr S w w') (hS : ∀ g ∈ S, v.ownBlock ≠ some g) : OwnR E w' B e v l := by
  obtain ⟨h1, h2⟩ := h
  refine ⟨h1, ?_⟩
  rcases h2 with h2 | ⟨g, cap, cur, rfl, hb, hg, r⟩
  · exact .inl h2
  · exact .inr ⟨g, cap, cur, rfl, hb, hf.get hg (fun hm => hS g hm rfl), r⟩
theorem OwnR.sl (h : OwnR E w B e v l) : ∃ g, (B ≤ g ∨ l = []) ∧ SlR E w v g l := by
  obtain ⟨h1, h2⟩ := h
  rcases h2 with ⟨rfl, hn⟩ | ⟨g, cap, cur, rfl, hb, hg, hc, hm, hs, ht⟩
  · have := List.eq_nil_of_length_eq_zero hn
    exact ⟨0, .inr this, .inl ⟨this, none, 0, rfl⟩⟩
  · refine ⟨g, .inl hb, .inr ⟨0, cap, rfl, hc, hm, fun i hi r hr => ?_⟩⟩
    have hlt : i * E.k + r < l.length * E.k := by
      have := Nat.mul_le_mul_right E.k (Nat.succ_le_of_lt hi)
      rw [Nat.succ_mul] at this
      omega
    rw [Nat.zero_add, cell_of_row w g _ cur e _ hg, ← E.cells_get l i r hi hr, ← ht, List.getElem?_take, if_pos hlt]
    simp
theorem SlR.fr {S : List Nat} {g : Nat} (h : SlR E w v g l) (hf : Fr S w w') (hg : g ∉ S) : SlR E w' v g l := by
  rcases h with h | ⟨o, c, h0, h1, h2, h3⟩
  · exact .inl h
  · refine .inr ⟨o, c, h0, h1, h2, fun i hi r hr => ?_⟩
    have h4 := h3 i hi r hr
    have hlt : r < (E.enc l[i]).length := by rw [E.len]; exact hr
    rw [List.getElem?_eq_getElem hlt] at h4 ⊢
    exact hf.cell h4 hg
theorem SlR.form {g : Nat} (h : SlR E w v g l) : ∃ (A : Option Addr) (o c : Nat), v = .slice A l.length c ∧ l.length ≤ 9223372036854775807 ∧ (0 < l.length → A = some ⟨g, o, none⟩) ∧ ∀ i (h : i < l.length) r, r < E.k → w.cell? ⟨g, o + i * E.k + r, none⟩ = (E.enc l[i])[r]? := by
  rcases h with ⟨rfl, A, c, rfl⟩ | ⟨o, c, rfl, h1, h2, h3⟩
  · exact ⟨A, 0, c, rfl, by simp, by simp, by simp⟩
  · exact ⟨_, o, c, rfl, by unfold maxLen at h2; omega, fun _ => rfl, h3⟩
/-- 'out = append(out, x)', x laid in a block of its own just ahead: one element more. -/
theorem wpList_push_enc {P : Program} {ops : Array Oper} {rest : List Oper} {o : Oper} {a : Act} {Q : Exit → Act → World → Prop} {wr w1 : World} {y : α} {t : TypeId} {z : Value} {bytes : Nat} (ht : P.underlying t = some (.slice e))
    (hi : (P.info? e).map (fun i => (i.zero, i.size, i.bytes)) = some (some z, E.k, bytes)) (hz : z.cells.size = E.k) (hby : bytes ≤ 1000) (hgd : o.guard = none) (s x : Operand)
    (ho : o.op = .call { callee := .builtin .append, args := #[s, x], argTypes := #[t, t] })
    (B : Nat) (v : Value) (l : List α) (hs : a.eval s = v) (hw : w1 = wr.alloc (.cells (E.enc y).toArray e)) (hown : OwnR E wr B e v l) (hx : a.eval x = .slice (some ⟨wr.heap.size, 0, none⟩) 1 1) (hl : l.length < 1000000) (hB : B ≤ wr.heap.size)
    (h : ∀ v' w', OwnR E w' B e v' (l ++ [y]) → wr.grownBy w' v.ownBlock → Below B wr w' → wpList P ops Q rest (a.put o.dst v') w') : wpList P ops Q (o :: rest) a w1 := by
  subst hw
  obtain ⟨i0, hi, hz0, hz1, hz2⟩ := info_parts hi
  refine wpList_append_own _ hgd s x t ho B e i0 z E.k bytes ht hi hz0 hz1 hz2 hz E.pos v l.length _ hs (World.ownsRow.alloc hown _) ⟨wr.heap.size, 0, none⟩ 1 1 (E.enc y) hx (by rw [E.len, Nat.one_mul]) ?_ (E.one y) (by unfold maxLen; omega) ?_ (by simp; omega) ?_
  · have := World.news_of_block (cs := (E.enc y).toArray) (t := e) (fr := (0, 0)) (heap_alloc_new wr _)
    simpa using this
  · have := Nat.mul_le_mul (show l.length + 1 ≤ 1000000 by omega) hby
    omega
  · intro v' w' h1 h2 _
    have hg : wr.grownBy w' v.ownBlock := ⟨h2.os, h2.tape, h2.output, Nat.le_trans (by simp) h2.size, fun k hk hn => (h2.block k (by simp; omega) hn).trans (Below.heap_alloc wr _ k hk)⟩
    refine h v' w' ?_ hg ?_
    · unfold OwnR
      rw [E.cells_append, List.length_append]
      have e1 : E.cells [y] = E.enc y := by simp [Enc.cells]
      rw [e1]
      exact h1
    · exact ⟨hg.os, hg.tape, hg.output, hg.size, fun k hk => hg.block k (by omega) (fun e => by have := hown.ge k e.symm; omega)⟩
/-- A cell of an own row's element is another one: the element is y then. -/
theorem OwnR.setCell {g cap n : Nat} {A : Value} (h : OwnR E w B e A l) (hA : A = .slice (some ⟨g, 0, none⟩) n cap) (i r : Nat) (hi : i < l.length) (hr : r < E.k) (y : α) (u : Value) (hy : (E.enc l[i]).set r u = E.enc y) :
    OwnR E (w.setCell ⟨g, i * E.k + r, none⟩ u) B e A (l.set i y) := by
  obtain ⟨h1, h2⟩ := h
  rcases h2 with ⟨rfl, hn⟩ | ⟨g', cap', cur, e0, hb, hg, hc, hm, hs, ht⟩
  · omega
  · rw [hA] at e0
    injection e0 with e1 e2 e3
    injection e1 with e1
    injection e1 with e1 _ _
    subst e1 e3 e2
    refine ⟨by rw [E.cells_len, List.length_set], .inr ⟨g, cap, _, by rw [hA, List.length_set], hb, set_block hg u, by rw [List.length_set]; exact hc, hm, by simp [hs], ?_⟩⟩
    rw [List.length_set]
    have hlt : i * E.k + r < l.length * E.k := by
      have := Nat.mul_le_mul_right E.k (Nat.succ_le_of_lt hi)
      rw [Nat.succ_mul] at this
      omega
    rw [Array.toList_setIfInBounds, List.take_set, ht]
    apply List.ext_getElem?
    intro j
    rw [List.getElem?_set]
    have hcs := E.cells_set l i hi y
    rw [← hcs]
    have hl1 : ((E.cells l).take (i * E.k)).length = i * E.k := by rw [List.length_take, E.cells_len]; omega
    have hmul : (i + 1) * E.k ≤ l.length * E.k := Nat.mul_le_mul_right E.k (Nat.succ_le_of_lt hi)
    rw [Nat.succ_mul] at hmul
    by_cases hj1 : j < i * E.k
    · rw [if_neg (by omega), List.append_assoc, List.getElem?_append_left (by omega), List.getElem?_take, if_pos hj1]
    · by_cases hj2 : j < i * E.k + E.k
      · rw [List.append_assoc, List.getElem?_append_right (by omega), hl1, List.getElem?_append_left (by rw [E.len]; omega), ← hy, List.getElem?_set]
        have hgj := E.cells_get l i (j - i * E.k) hi (by omega)
        rw [show i * E.k + (j - i * E.k) = j by omega] at hgj
        by_cases hjr : i * E.k + r = j
        · rw [if_pos hjr, if_pos (by rw [E.cells_len]; omega), if_pos (by omega), if_pos (by rw [E.len]; omega)]
        · rw [if_neg hjr, if_neg (by omega), hgj]
      · rw [if_neg (by omega), List.getElem?_append_right (by rw [List.length_append, hl1, E.len]; omega), List.length_append, hl1, E.len, List.getElem?_drop, show i * E.k + E.k + (j - (i * E.k + E.k)) = j by omega]
end
end Go.Proofs.YtokbhiokcoldbaaDoor

/- Slices as elements of a row. No program in sight. -/
namespace Go.Proofs.YtokbhiokcoldbaaDoor
open Go.RowKit

/-- A slice, by its parts. -/
structure SlV where
  A : Option Addr
  n : Nat
  c : Nat
def SlV.val (s : SlV) : Value := .slice s.A s.n s.c
/-- A slice as an element of a row. -/
def slE : Enc SlV where
  k := 1
  enc := fun s => [s.val]
  len := fun _ => rfl
  one := fun e v hv => by simp only [List.mem_cons, List.not_mem_nil, or_false] at hv; rcases hv with rfl; rfl
  pos := by decide
end Go.Proofs.YtokbhiokcoldbaaDoor

/- Tables of rows that only read (package lsm's document). No program in sight. -/
namespace Go.Proofs.YtokbhiokcoldbaaDoor
open Go.RowKit

/-- Rows in memory; of all their blocks G holds. -/
structure TbS (G : Nat → Prop) (w : World) (g c : Nat) (vs : List SlV) (xs : List (List Int)) : Prop where
  gg : G g
  pos : 0 < xs.length
  cap : xs.length ≤ c ∧ c ≤ maxLen
  len : vs.length = xs.length
  cell : ∀ j (h : j < vs.length), w.cell? ⟨g, j, none⟩ = some vs[j].val
  row : ∀ j (h : j < vs.length), RowH G w vs[j].val (xs.getD j [])
def TbH (G : Nat → Prop) (w : World) (v : Value) (xs : List (List Int)) : Prop := ∃ g c vs, v = .slice (some ⟨g, 0, none⟩) xs.length c ∧ TbS G w g c vs xs
section
variable {G G' : Nat → Prop} {w w' : World} {v : Value} {xs : List (List Int)} {g c : Nat} {vs : List SlV}
theorem TbS.fr {S : List Nat} (h : TbS G w g c vs xs) (hf : Fr S w w') (hS : ∀ g ∈ S, ¬ G g) : TbS G w' g c vs xs :=
  ⟨h.gg, h.pos, h.cap, h.len, fun j hj => hf.cell (h.cell j hj) (fun hm => hS g hm h.gg), fun j hj => (h.row j hj).fr hf hS⟩
theorem TbS.lt (h : TbS G w g c vs xs) : g < w.heap.size := block_lt_of_cell (h.cell 0 (by rw [h.len]; exact h.pos))
theorem TbS.mono (h : TbS G w g c vs xs) (hG : ∀ g, g < w.heap.size → G g → G' g) : TbS G' w g c vs xs :=
  ⟨hG g h.lt h.gg, h.pos, h.cap, h.len, h.cell, fun j hj => (h.row j hj).mono hG⟩
theorem TbH.fr {S : List Nat} (h : TbH G w v xs) (hf : Fr S w w') (hS : ∀ g ∈ S, ¬ G g) : TbH G w' v xs := by
  obtain ⟨g, c, vs, e, h⟩ := h
  exact ⟨g, c, vs, e, h.fr hf hS⟩
theorem TbH.step (h : TbH G w v xs) (hf : Fr [] w w') : TbH G w' v xs := h.fr hf (by simp)
theorem TbH.mono (h : TbH G w v xs) (hG : ∀ g, g < w.heap.size → G g → G' g) : TbH G' w v xs := by
  obtain ⟨g, c, vs, e, h⟩ := h
  exact ⟨g, c, vs, e, h.mono hG⟩
theorem TbS.slR (h : TbS G w g c vs xs) : SlR slE w (.slice (some ⟨g, 0, none⟩) xs.length c) g vs := by
  refine .inr ⟨0, c, by rw [h.len], by rw [h.len]; exact h.cap.1, h.cap.2, fun i hi r hr => ?_⟩
  have hr0 : r = 0 := by have : r < 1 := hr; omega
  subst hr0
  have : (0 + i * slE.k + 0) = i := by show 0 + i * 1 + 0 = i; omega
  rw [this, h.cell i hi]
  rfl
/-- A row of the tables, as it is read. -/
theorem TbS.at (h : TbS G w g c vs xs) {j : Nat} (hj : j < xs.length) : ∃ A' c', w.cell? ⟨g, j, none⟩ = some (.slice A' (xs.getD j []).length c') ∧ RowH G w (.slice A' (xs.getD j []).length c') (xs.getD j []) := by
  have hj' : j < vs.length := by rw [h.len]; exact hj
  have hr := h.row j hj'
  obtain ⟨A, g2, o, c2, e, -⟩ := hr.form
  refine ⟨A, c2, ?_, by rw [← e]; exact hr⟩
  rw [h.cell j hj', e]
/-- A row of slices that the call owns. -/
theorem TbH.ofOwn {B t : Nat} (ho : OwnR slE w B t v vs) (hl : vs.length = xs.length) (hp : 0 < xs.length) (hG : ∀ g, B ≤ g → G g) (hr : ∀ j (h : j < vs.length), RowH G w vs[j].val (xs.getD j [])) : TbH G w v xs := by
  rcases ho.2 with ⟨rfl, hn⟩ | ⟨g, cap, cur, rfl, hb, hg, hc, hm, hs, ht⟩
  · omega
  · refine ⟨g, cap, vs, by rw [hl], hG g hb, hp, ⟨by omega, hm⟩, hl, fun j hj => ?_, hr⟩
    rw [cell_of_row _ g j cur _ _ hg]
    have h5 := slE.cells_get vs j 0 hj (by decide)
    rw [← ht, List.getElem?_take] at h5
    rw [show j * slE.k + 0 = j from by show j * 1 + 0 = j; omega] at h5
    split at h5
    · simpa [slE] using h5
    · simp [slE] at h5
/-- A literal of one row. -/
theorem own_lit1 (w : World) (t : Nat) (s : SlV) : OwnR slE (w.alloc (.cells #[s.val] t)) w.heap.size t (.slice (some ⟨w.heap.size, 0, none⟩) 1 1) [s] :=
  ⟨by simp [Enc.cells, slE], .inr ⟨w.heap.size, 1, #[s.val], rfl, Nat.le_refl _, heap_alloc_new w _, by simp, by decide, by simp [slE], by simp [Enc.cells, slE]⟩⟩
end
end Go.Proofs.YtokbhiokcoldbaaDoor

/- 'out = append(out, xs...)' for a row of structs that the call owns. No program in sight. -/
namespace Go.Proofs.YtokbhiokcoldbaaDoor
open Go.RowKit
section
variable {α : Type} {E : Enc α} {P : Program} {w : World} {e : TypeId}
theorem run_append_empty (base : Nat) (t ty : TypeId) (i : TypeInfo) (size : Nat) (ht : P.underlying t = some (.slice e)) (hi : P.info? e = some i)
    (v : Value) (n : Nat) (xs : List Value) (hown : w.ownsRow base e size v n xs) (A : Option Addr) (c : Nat) :
    (Builtin.append_ #[t, t] ty #[v, .slice A 0 c]).run P w = .ok v w := by
  rcases hown.2 with ⟨rfl, rfl⟩ | ⟨g, cap, cur, rfl, _, _, hnc, _⟩
  · cases A <;> simp [Builtin.append_, run_underlying ht, sizeOf, typeInfo, hi, Builtin.lenOf, Builtin.firstCells, loadCells, loadCellsFrom]
  · cases A <;> simp [Builtin.append_, run_underlying ht, sizeOf, typeInfo, hi, Builtin.lenOf, Builtin.firstCells, hnc, storeCells, loadCells, loadCellsFrom]
theorem wpList_spread_enc {ops : Array Oper} {rest : List Oper} {o : Oper} {a : Act} {Q : Exit → Act → World → Prop} {t : TypeId} {z : Value} {bytes : Nat} (ht : P.underlying t = some (.slice e))
    (hi : (P.info? e).map (fun i => (i.zero, i.size, i.bytes)) = some (some z, E.k, bytes)) (hz : z.cells.size = E.k) (hby : bytes ≤ 1000) (hgd : o.guard = none) (s x : Operand)
    (ho : o.op = .call { callee := .builtin .append, args := #[s, x], argTypes := #[t, t] })
    (B : Nat) (v u : Value) (l m : List α) (g : Nat) (hs : a.eval s = v) (hown : OwnR E w B e v l) (hx : a.eval x = u) (hm : SlR E w u g m) (hl : l.length + m.length < 1000000) (hB : B ≤ w.heap.size)
    (h : ∀ v' w', OwnR E w' B e v' (l ++ m) → w.grownBy w' v.ownBlock → Below B w w' → wpList P ops Q rest (a.put o.dst v') w') : wpList P ops Q (o :: rest) a w := by
  obtain ⟨i0, hi, hz0, hz1, hz2⟩ := info_parts hi
  rcases hm with ⟨rfl, A, c, rfl⟩ | ⟨oo, c, rfl, h1, h2, h3⟩
  · refine wpList_plain hgd fun _ hK => ?_
    have hr := run_append_empty (P := P) B t o.type i0 E.k ht hi v l.length _ hown A c
    unfold Oper.wp execOp
    simp only [ho, resolve, invoke, builtin, Sem.run_bind, Sem.run_pure, Result.andThen_ok, List.map_toArray, List.map_cons, List.map_nil, hs, hx, hr]
    refine hK _ _ (h v w (by rw [List.append_nil]; exact hown) ⟨rfl, rfl, rfl, Nat.le_refl _, fun _ _ _ => rfl⟩ (Below.refl _ _))
  · refine wpList_append_own _ hgd s x t ho B e i0 z E.k bytes ht hi hz0 hz1 hz2 hz E.pos v l.length _ hs hown ⟨g, oo, none⟩ m.length c (E.cells m) hx (E.cells_len m) ?_ ?_ (by unfold maxLen; omega) ?_ hB ?_
    · intro j y hj
      have hjl : j < m.length * E.k := by
        rw [← E.cells_len m]
        exact (List.getElem?_eq_some_iff.1 hj).1
      have hk := E.pos
      have hdiv : j / E.k < m.length := Nat.div_lt_of_lt_mul (by rw [Nat.mul_comm]; exact hjl)
      have hmod := Nat.mod_lt j hk
      have hdm : j / E.k * E.k + j % E.k = j := by rw [Nat.mul_comm]; exact Nat.div_add_mod j E.k
      have hc := h3 (j / E.k) hdiv (j % E.k) hmod
      rw [← E.cells_get m (j / E.k) (j % E.k) hdiv hmod, hdm, hj] at hc
      rw [← hc]
      have hadd : (⟨g, oo, none⟩ : Addr).add j = ⟨g, oo + j, none⟩ := by unfold Addr.add; split <;> simp_all
      rw [hadd, Nat.add_assoc, hdm]
    · intro y hy
      obtain ⟨x, hx, hy⟩ := List.mem_flatMap.1 hy
      exact E.one x y hy
    · have := Nat.mul_le_mul (show l.length + m.length ≤ 1000000 by omega) hby
      omega
    · intro v' w' h1 h2 _
      refine h v' w' ?_ h2 ⟨h2.os, h2.tape, h2.output, h2.size, fun k hk => h2.block k (by omega) (fun e => by have := hown.ge k e.symm; omega)⟩
      unfold OwnR
      rw [E.cells_append, List.length_append]
      exact h1
end
end Go.Proofs.YtokbhiokcoldbaaDoor
