/- What all the walks of this seat share: Within, small words on lists of numbers, the forms of answers. -/
import Derived.Test.YtokbhiokcoldbaaDoorRows
import Derived.Deep.AppendLies
import Derived.WalkKit
import Derived.Test.YtokbhiokcoldbaaDoorBq01
namespace Go.Proofs.YtokbhiokcoldbaaDoor
open Go.RowKit

theorem within_any (n lo hi : Int) (w : World) :
    Calls Tryd.prog 63 #[.int .i64 n, .int .i64 lo, .int .i64 hi] w fun e w' => e = .returned (.bool (decide (lo ≤ n ∧ n ≤ hi))) ∧ w = w' := by
  go_enter Tryd.func63, Tryd.ntmps63
  go_wp2
  all_goals (go_ret; refine ⟨?_, rfl⟩; congr; try simp; try omega)
theorem within_is (n lo hi : Int) (b : Bool) (w : World) (h : decide (lo ≤ n ∧ n ≤ hi) = b) :
    Calls Tryd.prog 63 #[.int .i64 n, .int .i64 lo, .int .i64 hi] w fun e w' => e = .returned (.bool b) ∧ w' = w :=
  (within_any n lo hi w).mono fun _ _ ⟨h1, h2⟩ => ⟨by rw [h1, h], h2.symm⟩
theorem getD_mem {xs : List Int} {k : Nat} (h : k < xs.length) : nth xs k ∈ xs := by
  simp [nth, List.getD, h]
theorem not_mem_of {xs : List Int} {x : Int} (h : ∀ j, j < xs.length → nth xs j ≠ x) : x ∉ xs := fun hm => by
  obtain ⟨k, hk, e⟩ := List.getElem_of_mem hm
  exact h k hk (by simp [nth, List.getD, hk, e])
/-- Two lists, held against each other. -/
theorem eq_of_getD {xs ys : List Int} (hl : xs.length = ys.length) (h : ∀ j, j < xs.length → nth xs j = nth ys j) : xs = ys := by
  apply List.ext_getElem hl
  intro i h1 h2
  have := h i h1
  simpa [nth, List.getD, h1, h2] using this
def SameAs (b : Bool) (w : World) (e : Ending) (w' : World) : Prop := e = .returned (.bool b) ∧ Dr w w'
/-- An error of the project's own: 0 is nil. -/
def errV (c : Int) : Value := if c = 0 then .nilIface else .iface 88 (.int .i64 c)
theorem errV_no {c : Int} (h : c ≠ 0) : errV c = .iface 88 (.int .i64 c) := by unfold errV; rw [if_neg h]
/-- The answer b, and nothing that was there has turned. -/
def OkB (b : Bool) (w : World) (e : Ending) (w' : World) : Prop := e = .returned (.bool b) ∧ Fr [] w w'
/-- The answer true, and nothing that was there has turned. -/
def OkT (w : World) (e : Ending) (w' : World) : Prop := e = .returned (.bool true) ∧ Fr [] w w'
end Go.Proofs.YtokbhiokcoldbaaDoor
/- What the walks over rows of integers share. -/
namespace Go.Proofs.YtokbhiokcoldbaaDoor
open Go.RowKit
theorem Tryd.info_int : (Tryd.prog.info? 3).map (fun i => (i.zero, i.size, i.bytes)) = some (some (.int .i64 0), 1, 8) := by kernel_rfl
theorem Tryd.intT : IntT Tryd.prog 25 3 := ⟨Tryd.underlying25, Tryd.info_int⟩
/-- What a call hands back that makes a row: the integers xs, in new memory. -/
def NewRow (xs : List Int) (w : World) (e : Ending) (w' : World) : Prop := ∃ v g, e = .returned v ∧ (w.heap.size ≤ g ∨ xs = []) ∧ Sl w' v g xs ∧ Fr [] w w'
end Go.Proofs.YtokbhiokcoldbaaDoor

/- Rows of integers that only read: each lies in a block of which G holds, or has nothing. No program in sight. -/
namespace Go.Proofs.YtokbhiokcoldbaaDoor
open Go.RowKit

theorem sl_nil_any {w w' : World} {v : Value} {g g' : Nat} {xs : List Int} (h : Sl w v g xs) (hx : xs = []) : Sl w' v g' xs := by
  rcases h with ⟨_, A, c, rfl⟩ | ⟨o, c, rfl, _, _, _⟩
  · exact .inl ⟨hx, A, c, rfl⟩
  · exact .inl ⟨hx, some ⟨g, o, none⟩, c, by rw [hx]; rfl⟩
/-- A row that lies in a block of G, or has nothing. -/
def RowH (G : Nat → Prop) (w : World) (v : Value) (xs : List Int) : Prop := ∃ g, (G g ∨ xs = []) ∧ Sl w v g xs
section
variable {G G' : Nat → Prop} {w w' : World} {v : Value} {xs : List Int}
theorem RowH.fr {S : List Nat} (h : RowH G w v xs) (hf : Fr S w w') (hS : ∀ g ∈ S, ¬ G g) : RowH G w' v xs := by
  obtain ⟨g, hg, hs⟩ := h
  rcases hg with hg | hg
  · exact ⟨g, .inl hg, hs.fr hf (fun hm => hS g hm hg)⟩
  · exact ⟨g, .inr hg, sl_nil_any hs hg⟩
theorem RowH.lt {g : Nat} (hs : Sl w v g xs) (hx : xs ≠ []) : g < w.heap.size := by
  obtain ⟨A, o, c, rfl, -, -, hc⟩ := hs.form
  exact block_lt_of_cell (hc 0 (by cases xs with | nil => exact absurd rfl hx | cons a l => simp))
theorem RowH.mono (h : RowH G w v xs) (hG : ∀ g, g < w.heap.size → G g → G' g) : RowH G' w v xs := by
  obtain ⟨g, hg, hs⟩ := h
  by_cases hx : xs = []
  · exact ⟨g, .inr hx, hs⟩
  · exact ⟨g, .inl (hG g (RowH.lt hs hx) (hg.resolve_right hx)), hs⟩
theorem RowH.form (h : RowH G w v xs) : ∃ (A : Option Addr) (g o c : Nat), v = .slice A xs.length c ∧ xs.length ≤ 9223372036854775807 ∧ (0 < xs.length → A = some ⟨g, o, none⟩) ∧ ∀ W, Fr [] w W → ∀ i, i < xs.length → W.cell? ⟨g, o + i, none⟩ = some (.int .i64 (nth xs i)) := by
  obtain ⟨g, _, hs⟩ := h
  obtain ⟨A, o, c, rfl, hm, hA, hc⟩ := hs.form
  exact ⟨A, g, o, c, rfl, hm, hA, fun W hW i hi => hW.cell (hc i hi) (by simp)⟩
theorem RowH.step (h : RowH G w v xs) (hf : Fr [] w w') : RowH G w' v xs := h.fr hf (by simp)
end
/-- A new row lies in a block that was not there. -/
theorem RowH.ofNew {w w' : World} {v : Value} {g : Nat} {xs : List Int} (hg : w.heap.size ≤ g ∨ xs = []) (hs : Sl w' v g xs) : RowH (w.heap.size ≤ ·) w' v xs := ⟨g, hg, hs⟩
end Go.Proofs.YtokbhiokcoldbaaDoor

/- Rows of structs: elements of k cells each. What the call owns and grows; what it reads. No program in sight. -/
namespace Go.Proofs.YtokbhiokcoldbaaDoor
open Go.RowKit

/-- How an element lies in cells. -/
structure Enc (α : Type) where
  k : Nat
  enc : α → List Value
  len : ∀ a, (enc a).length = k
  one : ∀ a, ∀ v ∈ enc a, v.oneCell' = true
  pos : 0 < k
section
variable {α : Type} (E : Enc α)
def Enc.cells (l : List α) : List Value := l.flatMap E.enc
theorem Enc.cells_len (l : List α) : (E.cells l).length = l.length * E.k := by
  induction l with
  | nil => simp [Enc.cells]
  | cons a l ih =>
    have e : E.cells (a :: l) = E.enc a ++ E.cells l := rfl
    rw [e, List.length_append, E.len, ih, List.length_cons, Nat.add_mul, Nat.one_mul, Nat.add_comm]
theorem Enc.cells_append (l m : List α) : E.cells (l ++ m) = E.cells l ++ E.cells m := by simp [Enc.cells]
theorem Enc.cells_get : ∀ (l : List α) (i r : Nat) (h : i < l.length), r < E.k → (E.cells l)[i * E.k + r]? = (E.enc l[i])[r]?
  | [], i, r, h, _ => by simp at h
  | a :: l, 0, r, h, hr => by
    have e : E.cells (a :: l) = E.enc a ++ E.cells l := rfl
    rw [e, Nat.zero_mul, Nat.zero_add, List.getElem?_append_left (by rw [E.len]; exact hr)]
    rfl
  | a :: l, i + 1, r, h, hr => by
    have e : E.cells (a :: l) = E.enc a ++ E.cells l := rfl
    rw [e, List.getElem?_append_right (by rw [E.len, Nat.add_mul]; omega), E.len, show (i + 1) * E.k + r - E.k = i * E.k + r by rw [Nat.add_mul]; omega]
    exact Enc.cells_get l i r (by simpa using h) hr
theorem Enc.cells_set : ∀ (l : List α) (i : Nat) (_ : i < l.length) (x : α), (E.cells l).take (i * E.k) ++ E.enc x ++ (E.cells l).drop (i * E.k + E.k) = E.cells (l.set i x)
  | [], i, h, _ => by simp at h
  | a :: l, 0, h, x => by
    have e : E.cells (a :: l) = E.enc a ++ E.cells l := rfl
    rw [e, Nat.zero_mul, Nat.zero_add, List.take_zero, List.nil_append, List.drop_append, E.len, Nat.sub_self, List.drop_zero, List.drop_of_length_le (by rw [E.len]; exact Nat.le_refl _)]
    rfl
  | a :: l, i + 1, h, x => by
    have e : E.cells (a :: l) = E.enc a ++ E.cells l := rfl
    have ih := Enc.cells_set l i (by simpa using h) x
    rw [List.set_cons_succ]
    show _ = E.enc a ++ E.cells (l.set i x)
    rw [← ih, e, List.take_append, List.drop_append, E.len, show (i + 1) * E.k - E.k = i * E.k by rw [Nat.add_mul]; omega, show (i + 1) * E.k + E.k - E.k = i * E.k + E.k by rw [Nat.add_mul]; omega,
      List.take_of_length_le (l := E.enc a) (by rw [E.len, Nat.add_mul]; omega), List.drop_of_length_le (l := E.enc a) (by rw [E.len, Nat.add_mul]; omega)]
    simp
/-- What the call owns as a row of such elements that grows. -/
def OwnR (w : World) (B e : Nat) (v : Value) (l : List α) : Prop := w.ownsRow B e E.k v l.length (E.cells l)
/-- What reads so, wherever it lies (in block g). -/
def SlR (w : World) (v : Value) (g : Nat) (l : List α) : Prop :=
  (l = [] ∧ ∃ A c, v = .slice A 0 c) ∨ ∃ o c, v = .slice (some ⟨g, o, none⟩) l.length c ∧ l.length ≤ c ∧ c ≤ maxLen ∧ ∀ i (h : i < l.length) r, r < E.k → w.cell? ⟨g, o + i * E.k + r, none⟩ = (E.enc l[i])[r]?
variable {E} {w w' : World} {B e : Nat} {v : Value} {l : List α}
theorem OwnR.nil : OwnR E w B e (.slice none 0 0) [] := World.ownsRow_nil w B e E.k
theorem OwnR.alloc (h : OwnR E w B e v l) (o : Obj) : OwnR E (w.alloc o) B e v l := World.ownsRow.alloc h o
theorem OwnR.ge (h : OwnR E w B e v l) : ∀ g, v.ownBlock = some g → B ≤ g ∧ g < w.heap.size := World.ownsRow.lt h
theorem OwnR.kept {S : List Nat} (h : OwnR E w B e v l) (hf : Fr S w w') (hS : ∀ g ∈ S, v.ownBlock ≠ some g) : OwnR E w' B e v l := by
  obtain ⟨h1, h2⟩ := h
  refine ⟨h1, ?_⟩
  rcases h2 with h2 | ⟨g, cap, cur, rfl, hb, hg, r⟩
  · exact .inl h2
  · exact .inr ⟨g, cap, cur, rfl, hb, hf.get hg (fun hm => hS g hm rfl), r⟩
theorem OwnR.sl (h : OwnR E w B e v l) : ∃ g, (B ≤ g ∨ l = []) ∧ SlR E w v g l := by
  obtain ⟨h1, h2⟩ := h
  rcases h2 with ⟨rfl, hn⟩ | ⟨g, cap, cur, rfl, hb, hg, hc, hm, hs, ht⟩
  · have := List.eq_nil_of_length_eq_zero hn
    exact ⟨0, .inr this, .inl ⟨this, none, 0, rfl⟩⟩
  · refine ⟨g, .inl hb, .inr ⟨0, cap, rfl, hc, hm, fun i hi r hr => ?_⟩⟩
    have hlt : i * E.k + r < l.length * E.k := by
      have := Nat.mul_le_mul_right E.k (Nat.succ_le_of_lt hi)
      rw [Nat.succ_mul] at this
      omega
    rw [Nat.zero_add, cell_of_row w g _ cur e _ hg, ← E.cells_get l i r hi hr, ← ht, List.getElem?_take, if_pos hlt]
    simp
theorem SlR.fr {S : List Nat} {g : Nat} (h : SlR E w v g l) (hf : Fr S w w') (hg : g ∉ S) : SlR E w' v g l := by
  rcases h with h | ⟨o, c, h0, h1, h2, h3⟩
  · exact .inl h
  · refine .inr ⟨o, c, h0, h1, h2, fun i hi r hr => ?_⟩
    have h4 := h3 i hi r hr
    have hlt : r < (E.enc l[i]).length := by rw [E.len]; exact hr
    rw [List.getElem?_eq_getElem hlt] at h4 ⊢
    exact hf.cell h4 hg
theorem SlR.form {g : Nat} (h : SlR E w v g l) : ∃ (A : Option Addr) (o c : Nat), v = .slice A l.length c ∧ l.length ≤ 9223372036854775807 ∧ (0 < l.length → A = some ⟨g, o, none⟩) ∧ ∀ i (h : i < l.length) r, r < E.k → w.cell? ⟨g, o + i * E.k + r, none⟩ = (E.enc l[i])[r]? := by
  rcases h with ⟨rfl, A, c, rfl⟩ | ⟨o, c, rfl, h1, h2, h3⟩
  · exact ⟨A, 0, c, rfl, by simp, by simp, by simp⟩
  · exact ⟨_, o, c, rfl, by unfold maxLen at h2; omega, fun _ => rfl, h3⟩
/-- 'out = append(out, x)', x laid in a block of its own just ahead: one element more. -/
theorem wpList_push_enc {P : Program} {ops : Array Oper} {rest : List Oper} {o : Oper} {a : Act} {Q : Exit → Act → World → Prop} {wr w1 : World} {y : α} {t : TypeId} {z : Value} {bytes : Nat} (ht : P.underlying t = some (.slice e))
    (hi : (P.info? e).map (fun i => (i.zero, i.size, i.bytes)) = some (some z, E.k, bytes)) (hz : z.cells.size = E.k) (hby : bytes ≤ 1000) (hgd : o.guard = none) (s x : Operand)
    (ho : o.op = .call { callee := .builtin .append, args := #[s, x], argTypes := #[t, t] })
    (B : Nat) (v : Value) (l : List α) (hs : a.eval s = v) (hw : w1 = wr.alloc (.cells (E.enc y).toArray e)) (hown : OwnR E wr B e v l) (hx : a.eval x = .slice (some ⟨wr.heap.size, 0, none⟩) 1 1) (hl : l.length < 1000000) (hB : B ≤ wr.heap.size)
    (h : ∀ v' w', OwnR E w' B e v' (l ++ [y]) → wr.grownBy w' v.ownBlock → Below B wr w' → wpList P ops Q rest (a.put o.dst v') w') : wpList P ops Q (o :: rest) a w1 := by
  subst hw
  obtain ⟨i0, hi, hz0, hz1, hz2⟩ := info_parts hi
  refine wpList_append_own _ hgd s x t ho B e i0 z E.k bytes ht hi hz0 hz1 hz2 hz E.pos v l.length _ hs (World.ownsRow.alloc hown _) ⟨wr.heap.size, 0, none⟩ 1 1 (E.enc y) hx (by rw [E.len, Nat.one_mul]) ?_ (E.one y) (by unfold maxLen; omega) ?_ (by simp; omega) ?_
  · have := World.news_of_block (cs := (E.enc y).toArray) (t := e) (fr := (0, 0)) (heap_alloc_new wr _)
    simpa using this
  · have := Nat.mul_le_mul (show l.length + 1 ≤ 1000000 by omega) hby
    omega
  · intro v' w' h1 h2 _
    have hg : wr.grownBy w' v.ownBlock := ⟨h2.os, h2.tape, h2.output, Nat.le_trans (by simp) h2.size, fun k hk hn => (h2.block k (by simp; omega) hn).trans (Below.heap_alloc wr _ k hk)⟩
    refine h v' w' ?_ hg ?_
    · unfold OwnR
      rw [E.cells_append, List.length_append]
      have e1 : E.cells [y] = E.enc y := by simp [Enc.cells]
      rw [e1]
      exact h1
    · exact ⟨hg.os, hg.tape, hg.output, hg.size, fun k hk => hg.block k (by omega) (fun e => by have := hown.ge k e.symm; omega)⟩
/-- A cell of an own row's element is another one: the element is y then. -/
theorem OwnR.setCell {g cap n : Nat} {A : Value} (h : OwnR E w B e A l) (hA : A = .slice (some ⟨g, 0, none⟩) n cap) (i r : Nat) (hi : i < l.length) (hr : r < E.k) (y : α) (u : Value) (hy : (E.enc l[i]).set r u = E.enc y) :
    OwnR E (w.setCell ⟨g, i * E.k + r, none⟩ u) B e A (l.set i y) := by
  obtain ⟨h1, h2⟩ := h
  rcases h2 with ⟨rfl, hn⟩ | ⟨g', cap', cur, e0, hb, hg, hc, hm, hs, ht⟩
  · omega
  · rw [hA] at e0
    injection e0 with e1 e2 e3
    injection e1 with e1
    injection e1 with e1 _ _
    subst e1 e3 e2
    refine ⟨by rw [E.cells_len, List.length_set], .inr ⟨g, cap, _, by rw [hA, List.length_set], hb, set_block hg u, by rw [List.length_set]; exact hc, hm, by simp [hs], ?_⟩⟩
    rw [List.length_set]
    have hlt : i * E.k + r < l.length * E.k := by
      have := Nat.mul_le_mul_right E.k (Nat.succ_le_of_lt hi)
      rw [Nat.succ_mul] at this
      omega
    rw [Array.toList_setIfInBounds, List.take_set, ht]
    apply List.ext_getElem?
    intro j
    rw [List.getElem?_set]
    have hcs := E.cells_set l i hi y
    rw [← hcs]
    have hl1 : ((E.cells l).take (i * E.k)).length = i * E.k := by rw [List.length_take, E.cells_len]; omega
    have hmul : (i + 1) * E.k ≤ l.length * E.k := Nat.mul_le_mul_right E.k (Nat.succ_le_of_lt hi)
    rw [Nat.succ_mul] at hmul
    by_cases hj1 : j < i * E.k
    · rw [if_neg (by omega), List.append_assoc, List.getElem?_append_left (by omega), List.getElem?_take, if_pos hj1]
    · by_cases hj2 : j < i * E.k + E.k
      · rw [List.append_assoc, List.getElem?_append_right (by omega), hl1, List.getElem?_append_left (by rw [E.len]; omega), ← hy, List.getElem?_set]
        have hgj := E.cells_get l i (j - i * E.k) hi (by omega)
        rw [show i * E.k + (j - i * E.k) = j by omega] at hgj
        by_cases hjr : i * E.k + r = j
        · rw [if_pos hjr, if_pos (by rw [E.cells_len]; omega), if_pos (by omega), if_pos (by rw [E.len]; omega)]
        · rw [if_neg hjr, if_neg (by omega), hgj]
      · rw [if_neg (by omega), List.getElem?_append_right (by rw [List.length_append, hl1, E.len]; omega), List.length_append, hl1, E.len, List.getElem?_drop, show i * E.k + E.k + (j - (i * E.k + E.k)) = j by omega]
end
end Go.Proofs.YtokbhiokcoldbaaDoor

/- Slices as elements of a row. No program in sight. -/
namespace Go.Proofs.YtokbhiokcoldbaaDoor
open Go.RowKit

/-- A slice, by its parts. -/
structure SlV where
  A : Option Addr
  n : Nat
  c : Nat
def SlV.val (s : SlV) : Value := .slice s.A s.n s.c
/-- A slice as an element of a row. -/
def slE : Enc SlV where
  k := 1
  enc := fun s => [s.val]
  len := fun _ => rfl
  one := fun e v hv => by simp only [List.mem_cons, List.not_mem_nil, or_false] at hv; rcases hv with rfl; rfl
  pos := by decide
end Go.Proofs.YtokbhiokcoldbaaDoor

/- Trees of keys whose leaves are all as deep (package btree), in plain Lean: by their depth. No program in sight. -/
namespace Go.Proofs.YtokbhiokcoldbaaDoor
namespace Bt

/-- A tree of depth d: its keys and, above the leaves, its kids. -/
def T : Nat → Type
  | 0 => List Int
  | d + 1 => List Int × List (T d)
def ks : (d : Nat) → T d → List Int
  | 0, t => t
  | _ + 1, t => t.1
/-- How many keys are below. -/
def lb (x : Int) : List Int → Nat
  | [] => 0
  | y :: r => if y < x then lb x r + 1 else 0
def ins {α : Type} (l : List α) (i : Nat) (x : α) : List α := l.take i ++ x :: l.drop i
/-- Keys between lists. -/
def weave : List Int → List (List Int) → List Int
  | [], ls => ls.headD []
  | k :: r, ls => ls.headD [] ++ k :: weave r ls.tail
/-- All keys, from left to right. -/
def all : (d : Nat) → T d → List Int
  | 0, t => t
  | d + 1, t => weave t.1 (t.2.map (all d))
def hasK (l : List Int) (x : Int) : Bool := l[lb x l]? == some x
def has : (d : Nat) → T d → Int → Bool
  | 0, t, x => hasK t x
  | d + 1, t, x => if hasK t.1 x then true else match t.2[lb x t.1]? with
    | some s => has d s x
    | none => false
/-- A node whose keys are too many is split; the middle one goes up. -/
def cut0 (l : List Int) : List Int × Option (Int × List Int) := if l.length ≤ 4 then (l, none) else (l.take 2, some (l.getD 2 0, l.drop 3))
def cutN {α : Type} (l : List Int) (m : List α) : (List Int × List α) × Option (Int × (List Int × List α)) := if l.length ≤ 4 then ((l, m), none) else ((l.take 2, m.take 3), some (l.getD 2 0, (l.drop 3, m.drop 3)))
def add : (d : Nat) → T d → Int → T d × Option (Int × T d)
  | 0, t, x => cut0 (ins (α := Int) t (lb x t) x)
  | d + 1, t, x => match t.2[lb x t.1]? with
    | none => (t, none)
    | some s => match add d s x with
      | (s', none) => ((t.1, t.2.set (lb x t.1) s'), none)
      | (s', some (up, r)) => cutN (ins t.1 (lb x t.1) up) (ins (t.2.set (lb x t.1) s') (lb x t.1 + 1) r)
/-- Of how many keys the nodes are: lo of the topmost one at least. -/
def Ok : (d : Nat) → Nat → T d → Prop
  | 0, lo, t => lo ≤ List.length (α := Int) t ∧ List.length (α := Int) t ≤ 4
  | d + 1, lo, t => (lo ≤ t.1.length ∧ t.1.length ≤ 4) ∧ t.2.length = t.1.length + 1 ∧ ∀ s ∈ t.2, Ok d 2 s
def Up (l : List Int) : Prop := l.Pairwise (· < ·)
/-- A number into a rising list. -/
def insS (x : Int) : List Int → List Int
  | [] => [x]
  | y :: r => if y < x then y :: insS x r else x :: y :: r
theorem lb_le (x : Int) : ∀ (l : List Int), lb x l ≤ l.length
  | [] => Nat.le_refl _
  | y :: r => by
    have := lb_le x r
    unfold lb
    split <;> simp <;> omega
theorem ins_len {α : Type} (l : List α) (i : Nat) (x : α) (h : i ≤ l.length) : (ins l i x).length = l.length + 1 := by
  unfold ins
  simp only [List.length_append, List.length_take, List.length_cons, List.length_drop]
  omega
theorem insS_append_lt (x : Int) : ∀ (a b : List Int), (∀ y ∈ a, y < x) → insS x (a ++ b) = a ++ insS x b
  | [], _, _ => rfl
  | y :: r, b, h => by
    rw [List.cons_append, insS, if_pos (h y (by simp)), insS_append_lt x r b (fun z hz => h z (by simp [hz]))]
    rfl
theorem insS_append_gt (x : Int) : ∀ (a b : List Int), (∀ y ∈ b, x < y) → insS x (a ++ b) = insS x a ++ b
  | [], [], _ => rfl
  | [], y :: r, h => by
    have := h y (by simp)
    show insS x (y :: r) = x :: y :: r
    rw [insS, if_neg (by omega)]
  | z :: r, b, h => by
    rw [List.cons_append, insS, insS]
    split
    · rw [insS_append_gt x r b h]; rfl
    · rfl
theorem insS_lb (x : Int) : ∀ (l : List Int), insS x l = ins l (lb x l) x
  | [] => rfl
  | y :: r => by
    rw [insS]
    unfold lb
    split
    · rw [insS_lb x r]; rfl
    · rfl
theorem mem_insS (x y : Int) : ∀ (l : List Int), y ∈ insS x l ↔ y = x ∨ y ∈ l
  | [] => by simp [insS]
  | z :: r => by
    rw [insS]
    split
    · simp [mem_insS x y r]; constructor <;> (rintro (h | h | h) <;> simp [h])
    · simp
theorem up_insS (x : Int) : ∀ (l : List Int), Up l → x ∉ l → Up (insS x l)
  | [], _, _ => by simp [insS, Up]
  | y :: r, h, hn => by
    have hh := h
    rw [Up, List.pairwise_cons] at h
    rw [insS]
    split
    · rename_i hy
      rw [Up, List.pairwise_cons]
      refine ⟨fun z hz => ?_, up_insS x r h.2 (fun hm => hn (by simp [hm]))⟩
      rcases (mem_insS x z r).1 hz with rfl | hz
      · exact hy
      · exact h.1 z hz
    · rename_i hy
      have hne : x ≠ y := fun e => hn (by simp [e])
      rw [Up, List.pairwise_cons]
      refine ⟨fun z hz => ?_, hh⟩
      rcases List.mem_cons.1 hz with rfl | hz
      · omega
      · have := h.1 z hz; omega
theorem len_insS (x : Int) : ∀ (l : List Int), (insS x l).length = l.length + 1
  | [] => rfl
  | y :: r => by
    rw [insS]
    split
    · simp [len_insS x r]
    · rfl
/-! ### Keys between lists -/
theorem weave_len : ∀ (k : List Int) (ls : List (List Int)), ls.length = k.length + 1 → (weave k ls).length = k.length + (ls.map List.length).sum
  | [], [l], _ => by simp [weave]
  | k :: r, l :: ls, h => by
    have ih := weave_len r ls (by simpa using h)
    simp only [weave, List.headD_cons, List.tail_cons, List.length_append, List.length_cons, ih, List.map_cons, List.sum_cons]
    omega
theorem mem_weave (x : Int) : ∀ (k : List Int) (ls : List (List Int)), ls.length = k.length + 1 → (x ∈ weave k ls ↔ x ∈ k ∨ ∃ l ∈ ls, x ∈ l)
  | [], [l], _ => by simp [weave]
  | k :: r, l :: ls, h => by
    have ih := mem_weave x r ls (by simpa using h)
    simp only [weave, List.headD_cons, List.tail_cons, List.mem_append, List.mem_cons, ih]
    constructor
    · rintro (h | h | h | ⟨m, h1, h2⟩)
      · exact .inr ⟨l, .inl rfl, h⟩
      · exact .inl (.inl h)
      · exact .inl (.inr h)
      · exact .inr ⟨m, .inr h1, h2⟩
    · rintro ((h | h) | ⟨m, h1 | h1, h2⟩)
      · exact .inr (.inl h)
      · exact .inr (.inr (.inl h))
      · subst h1; exact .inl h2
      · exact .inr (.inr (.inr ⟨m, h1, h2⟩))
/-- A number lies in the list that its place says. -/
theorem insS_weave (x : Int) : ∀ (k : List Int) (ls : List (List Int)), ls.length = k.length + 1 → Up (weave k ls) → x ∉ k → insS x (weave k ls) = weave k (ls.set (lb x k) (insS x (ls.getD (lb x k) [])))
  | [], [l], _, _, _ => by simp [weave, lb]
  | k :: r, l :: ls, h, hu, hn => by
    have hu' : Up (l ++ k :: weave r ls) := hu
    rw [Up, List.pairwise_append, List.pairwise_cons] at hu'
    obtain ⟨h1, ⟨h2, h3⟩, h4⟩ := hu'
    simp only [weave, List.headD_cons, List.tail_cons]
    by_cases hk : k < x
    · have e : lb x (k :: r) = lb x r + 1 := by rw [lb, if_pos hk]
      have ih := insS_weave x r ls (by simpa using h) h3 (fun hm => hn (by simp [hm]))
      rw [e, insS_append_lt x l _ (fun y hy => by have := h4 y hy k (by simp); omega), insS, if_pos hk, ih]
      simp
    · have hkx : x < k := by
        have : x ≠ k := fun e => hn (by simp [e])
        omega
      have e : lb x (k :: r) = 0 := by rw [lb, if_neg hk]
      rw [e, insS_append_gt x l _ (fun y hy => by
        rcases List.mem_cons.1 hy with rfl | hy
        · exact hkx
        · have := h2 y hy; omega)]
      simp
/-- A list is split: its middle goes between. -/
theorem weave_split (u : Int) (a b : List Int) : ∀ (k : List Int) (ls : List (List Int)) (i : Nat), ls.length = k.length + 1 → i ≤ k.length → weave k (ls.set i (a ++ u :: b)) = weave (ins k i u) (ins (ls.set i a) (i + 1) b)
  | [], [l], 0, _, _ => by simp [weave, ins]
  | k :: r, l :: ls, 0, h, _ => by
    cases ls with
    | nil => simp at h
    | cons m ls => simp [weave, ins]
  | k :: r, l :: ls, i + 1, h, hi => by
    have ih := weave_split u a b r ls i (by simpa using h) (by simpa using hi)
    have e1 : ins (k :: r) (i + 1) u = k :: ins r i u := by simp [ins]
    have e2 : ins ((l :: ls).set (i + 1) a) (i + 1 + 1) b = l :: ins (ls.set i a) (i + 1) b := by simp [ins]
    rw [e1, e2]
    simp only [weave, List.set_cons_succ, List.headD_cons, List.tail_cons, ih]
theorem weave_cut : ∀ (k : List Int) (ls : List (List Int)) (i : Nat), ls.length = k.length + 1 → i < k.length → weave k ls = weave (k.take i) (ls.take (i + 1)) ++ k.getD i 0 :: weave (k.drop (i + 1)) (ls.drop (i + 1))
  | k :: r, l :: ls, 0, h, _ => by
    cases ls with
    | nil => simp at h
    | cons m ls => simp [weave]
  | k :: r, l :: ls, i + 1, h, hi => by
    have ih := weave_cut r ls i (by simpa using h) (by simpa using hi)
    simp only [weave, List.take_succ_cons, List.drop_succ_cons, List.headD_cons, List.tail_cons, List.getD_cons_succ]
    rw [ih]
    simp
/-! ### What adding does -/
def fullAll (d : Nat) (p : T d × Option (Int × T d)) : List Int := all d p.1 ++ match p.2 with | none => [] | some (u, r) => u :: all d r
theorem map_set' {α β : Type} (f : α → β) (l : List α) (i : Nat) (x : α) : (l.set i x).map f = (l.map f).set i (f x) := by rw [List.map_set]
theorem map_ins {α β : Type} (f : α → β) (l : List α) (i : Nat) (x : α) : (ins l i x).map f = ins (l.map f) i (f x) := by
  unfold ins
  rw [List.map_append, List.map_cons, List.map_take, List.map_drop]
theorem mem_lb {x : Int} : ∀ {l : List Int}, Up l → (x ∈ l ↔ l[lb x l]? = some x)
  | [], _ => by simp
  | y :: r, h => by
    rw [Up, List.pairwise_cons] at h
    by_cases hy : y < x
    · have e : lb x (y :: r) = lb x r + 1 := by rw [lb, if_pos hy]
      rw [e, List.getElem?_cons_succ, ← mem_lb h.2, List.mem_cons]
      exact ⟨fun hx => hx.resolve_left (by omega), .inr⟩
    · have e : lb x (y :: r) = 0 := by rw [lb, if_neg hy]
      rw [e, List.getElem?_cons_zero, List.mem_cons]
      constructor
      · rintro (hx | hx)
        · rw [hx]
        · have := h.1 x hx; omega
      · intro hx; injection hx with hx; exact .inl hx.symm
theorem up_keys : ∀ (k : List Int) (ls : List (List Int)), ls.length = k.length + 1 → Up (weave k ls) → Up k
  | [], _, _, _ => List.Pairwise.nil
  | k :: r, l :: ls, h, hu => by
    have hu' : Up (l ++ k :: weave r ls) := hu
    rw [Up, List.pairwise_append, List.pairwise_cons] at hu'
    rw [Up, List.pairwise_cons]
    exact ⟨fun y hy => hu'.2.1.1 y ((mem_weave y r ls (by simpa using h)).2 (.inl hy)), up_keys r ls (by simpa using h) hu'.2.1.2⟩
theorem up_kid : ∀ (k : List Int) (ls : List (List Int)), ls.length = k.length + 1 → Up (weave k ls) → ∀ l ∈ ls, Up l
  | [], [l], _, hu, m, hm => by
    simp only [List.mem_singleton] at hm
    subst hm
    exact hu
  | k :: r, l :: ls, h, hu, m, hm => by
    have hu' : Up (l ++ k :: weave r ls) := hu
    rw [Up, List.pairwise_append, List.pairwise_cons] at hu'
    rcases List.mem_cons.1 hm with rfl | hm
    · exact hu'.1
    · exact up_kid r ls (by simpa using h) hu'.2.1.2 m hm
/-- Where a number lies: in the kid of its place, if it is no key. -/
theorem mem_kid (x : Int) : ∀ (k : List Int) (ls : List (List Int)), ls.length = k.length + 1 → Up (weave k ls) → x ∉ k → (x ∈ weave k ls ↔ x ∈ ls.getD (lb x k) [])
  | [], [l], _, _, _ => by simp [weave, lb]
  | k :: r, l :: ls, h, hu, hn => by
    have hu' : Up (l ++ k :: weave r ls) := hu
    rw [Up, List.pairwise_append, List.pairwise_cons] at hu'
    obtain ⟨h1, ⟨h2, h3⟩, h4⟩ := hu'
    have hne : x ≠ k := fun e => hn (by simp [e])
    simp only [weave, List.headD_cons, List.tail_cons, List.mem_append, List.mem_cons]
    by_cases hk : k < x
    · have e : lb x (k :: r) = lb x r + 1 := by rw [lb, if_pos hk]
      rw [e, List.getD_cons_succ, ← mem_kid x r ls (by simpa using h) h3 (fun hm => hn (by simp [hm]))]
      constructor
      · rintro (hx | hx | hx)
        · have := h4 x hx k (by simp); omega
        · omega
        · exact hx
      · intro hx; exact .inr (.inr hx)
    · have e : lb x (k :: r) = 0 := by rw [lb, if_neg hk]
      rw [e, List.getD_cons_zero]
      constructor
      · rintro (hx | hx | hx)
        · exact hx
        · omega
        · have := h2 x hx; omega
      · exact .inl
end Bt
end Go.Proofs.YtokbhiokcoldbaaDoor
