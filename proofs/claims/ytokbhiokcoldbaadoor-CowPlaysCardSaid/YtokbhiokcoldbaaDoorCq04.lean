/- Rows of structs: elements of k cells each. What the call owns and grows; what it reads. No program in sight. -/
import Derived.Deep.AppendLies
import Derived.Test.YtokbhiokcoldbaaDoorCq01
namespace Go.Proofs.YtokbhiokcoldbaaDoor
open Go.RowKit

/-- How an element lies in cells. -/
structure Enc (α : Type) where
  k : Nat
  enc : α → List Value
  len : ∀ a, (enc a).length = k
  one : ∀ a, ∀ v ∈ enc a, v.oneCell' = true
  pos : 0 < k
section
variable {α : Type} (E : Enc α)
def Enc.cells (l : List α) : List Value := l.flatMap E.enc
theorem Enc.cells_len (l : List α) : (E.cells l).length = l.length * E.k := by
  induction l with
  | nil => simp [Enc.cells]
  | cons a l ih =>
    have e : E.cells (a :: l) = E.enc a ++ E.cells l := rfl
    rw [e, List.length_append, E.len, ih, List.length_cons, Nat.add_mul, Nat.one_mul, Nat.add_comm]
theorem Enc.cells_append (l m : List α) : E.cells (l ++ m) = E.cells l ++ E.cells m := by simp [Enc.cells]
theorem Enc.cells_get : ∀ (l : List α) (i r : Nat) (h : i < l.length), r < E.k → (E.cells l)[i * E.k + r]? = (E.enc l[i])[r]?
  | [], i, r, h, _ => by simp at h
  | a :: l, 0, r, h, hr => by
    have e : E.cells (a :: l) = E.enc a ++ E.cells l := rfl
    rw [e, Nat.zero_mul, Nat.zero_add, List.getElem?_append_left (by rw [E.len]; exact hr)]
    rfl
  | a :: l, i + 1, r, h, hr => by
    have e : E.cells (a :: l) = E.enc a ++ E.cells l := rfl
    rw [e, List.getElem?_append_right (by rw [E.len, Nat.add_mul]; omega), E.len, show (i + 1) * E.k + r - E.k = i * E.k + r by rw [Nat.add_mul]; omega]
    exact Enc.cells_get l i r (by simpa using h) hr
theorem Enc.cells_set : ∀ (l : List α) (i : Nat) (_ : i < l.length) (x : α), (E.cells l).take (i * E.k) ++ E.enc x ++ (E.cells l).drop (i * E.k + E.k) = E.cells (l.set i x)
  | [], i, h, _ => by simp at h
  | a :: l, 0, h, x => by
    have e : E.cells (a :: l) = E.enc a ++ E.cells l := rfl
    rw [e, Nat.zero_mul, Nat.zero_add, List.take_zero, List.nil_append, List.drop_append, E.len, Nat.sub_self, List.drop_zero, List.drop_of_length_le (by rw [E.len]; exact Nat.le_refl _)]
    rfl
  | a :: l, i + 1, h, x => by
    have e : E.cells (a :: l) = E.enc a ++ E.cells l := rfl
    have ih := Enc.cells_set l i (by simpa using h) x
    rw [List.set_cons_succ]
    show _ = E.enc a ++ E.cells (l.set i x)
    rw [← ih, e, List.take_append, List.drop_append, E.len, show (i + 1) * E.k - E.k = i * E.k by rw [Nat.add_mul]; omega, show (i + 1) * E.k + E.k - E.k = i * E.k + E.k by rw [Nat.add_mul]; omega,
      List.take_of_length_le (l := E.enc a) (by rw [E.len, Nat.add_mul]; omega), List.drop_of_length_le (l := E.enc a) (by rw [E.len, Nat.add_mul]; omega)]
    simp
/-- What the call owns as a row of such elements that grows. -/
def OwnR (w : World) (B e : Nat) (v : Value) (l : List α) : Prop := w.ownsRow B e E.k v l.length (E.cells l)
/-- What reads so, wherever it lies (in block g). -/
def SlR (w : World) (v : Value) (g : Nat) (l : List α) : Prop :=
  (l = [] ∧ ∃ A c, v = .slice A 0 c) ∨ ∃ o c, v = .slice (some ⟨g, o, none⟩) l.length c ∧ l.length ≤ c ∧ c ≤ maxLen ∧ ∀ i (h : i < l.length) r, r < E.k → w.cell? ⟨g, o + i * E.k + r, none⟩ = (E.enc l[i])[r]?
variable {E} {w w' : World} {B e : Nat} {v : Value} {l : List α}
theorem OwnR.nil : OwnR E w B e (.slice none 0 0) [] := World.ownsRow_nil w B e E.k
theorem OwnR.alloc (h : OwnR E w B e v l) (o : Obj) : OwnR E (w.alloc o) B e v l := World.ownsRow.alloc h o
theorem OwnR.ge (h : OwnR E w B e v l) : ∀ g, v.ownBlock = some g → B ≤ g ∧ g < w.heap.size := World.ownsRow.lt h
theorem OwnR.kept {S : List Nat} (h : OwnR E w B e v l) (hf : Fr S w w') (hS : ∀ g ∈ S, v.ownBlock ≠ some g) : OwnR E w' B e v l := by
  obtain ⟨h1, h2⟩ := h
  refine ⟨h1, ?_⟩
  rcases h2 with h2 | ⟨g, cap, cur, rfl, hb, hg, r⟩
  · exact .inl h2
  · exact .inr ⟨g, cap, cur, rfl, hb, hf.get hg (fun hm => hS g hm rfl), r⟩
theorem OwnR.sl (h : OwnR E w B e v l) : ∃ g, (B ≤ g ∨ l = []) ∧ SlR E w v g l := by
  obtain ⟨h1, h2⟩ := h
  rcases h2 with ⟨rfl, hn⟩ | ⟨g, cap, cur, rfl, hb, hg, hc, hm, hs, ht⟩
  · have := List.eq_nil_of_length_eq_zero hn
    exact ⟨0, .inr this, .inl ⟨this, none, 0, rfl⟩⟩
  · refine ⟨g, .inl hb, .inr ⟨0, cap, rfl, hc, hm, fun i hi r hr => ?_⟩⟩
    have hlt : i * E.k + r < l.length * E.k := by
      have := Nat.mul_le_mul_right E.k (Nat.succ_le_of_lt hi)
      rw [Nat.succ_mul] at this
      omega
    rw [Nat.zero_add, cell_of_row w g _ cur e _ hg, ← E.cells_get l i r hi hr, ← ht, List.getElem?_take, if_pos hlt]
    simp
theorem SlR.fr {S : List Nat} {g : Nat} (h : SlR E w v g l) (hf : Fr S w w') (hg : g ∉ S) : SlR E w' v g l := by
  rcases h with h | ⟨o, c, h0, h1, h2, h3⟩
  · exact .inl h
  · refine .inr ⟨o, c, h0, h1, h2, fun i hi r hr => ?_⟩
    have h4 := h3 i hi r hr
    have hlt : r < (E.enc l[i]).length := by rw [E.len]; exact hr
    rw [List.getElem?_eq_getElem hlt] at h4 ⊢
    exact hf.cell h4 hg
theorem SlR.form {g : Nat} (h : SlR E w v g l) : ∃ (A : Option Addr) (o c : Nat), v = .slice A l.length c ∧ l.length ≤ 9223372036854775807 ∧ (0 < l.length → A = some ⟨g, o, none⟩) ∧ ∀ i (h : i < l.length) r, r < E.k → w.cell? ⟨g, o + i * E.k + r, none⟩ = (E.enc l[i])[r]? := by
  rcases h with ⟨rfl, A, c, rfl⟩ | ⟨o, c, rfl, h1, h2, h3⟩
  · exact ⟨A, 0, c, rfl, by simp, by simp, by simp⟩
  · exact ⟨_, o, c, rfl, by unfold maxLen at h2; omega, fun _ => rfl, h3⟩
/-- 'out = append(out, x)', x laid in a block of its own just ahead: one element more. -/
theorem wpList_push_enc {P : Program} {ops : Array Oper} {rest : List Oper} {o : Oper} {a : Act} {Q : Exit → Act → World → Prop} {wr w1 : World} {y : α} {t : TypeId} {z : Value} {bytes : Nat} (ht : P.underlying t = some (.slice e))
    (hi : (P.info? e).map (fun i => (i.zero, i.size, i.bytes)) = some (some z, E.k, bytes)) (hz : z.cells.size = E.k) (hby : bytes ≤ 1000) (hgd : o.guard = none) (s x : Operand)
    (ho : o.op = .call { callee := .builtin .append, args := #[s, x], argTypes := #[t, t] })
    (B : Nat) (v : Value) (l : List α) (hs : a.eval s = v) (hw : w1 = wr.alloc (.cells (E.enc y).toArray e)) (hown : OwnR E wr B e v l) (hx : a.eval x = .slice (some ⟨wr.heap.size, 0, none⟩) 1 1) (hl : l.length < 1000000) (hB : B ≤ wr.heap.size)
    (h : ∀ v' w', OwnR E w' B e v' (l ++ [y]) → wr.grownBy w' v.ownBlock → Below B wr w' → wpList P ops Q rest (a.put o.dst v') w') : wpList P ops Q (o :: rest) a w1 := by
  subst hw
  obtain ⟨i0, hi, hz0, hz1, hz2⟩ := info_parts hi
  refine wpList_append_own _ hgd s x t ho B e i0 z E.k bytes ht hi hz0 hz1 hz2 hz E.pos v l.length _ hs (World.ownsRow.alloc hown _) ⟨wr.heap.size, 0, none⟩ 1 1 (E.enc y) hx (by rw [E.len, Nat.one_mul]) ?_ (E.one y) (by unfold maxLen; omega) ?_ (by simp; omega) ?_
  · have := World.news_of_block (cs := (E.enc y).toArray) (t := e) (fr := (0, 0)) (heap_alloc_new wr _)
    simpa using this
  · have := Nat.mul_le_mul (show l.length + 1 ≤ 1000000 by omega) hby
    omega
  · intro v' w' h1 h2 _
    have hg : wr.grownBy w' v.ownBlock := ⟨h2.os, h2.tape, h2.output, Nat.le_trans (by simp) h2.size, fun k hk hn => (h2.block k (by simp; omega) hn).trans (Below.heap_alloc wr _ k hk)⟩
    refine h v' w' ?_ hg ?_
    · unfold OwnR
      rw [E.cells_append, List.length_append]
      have e1 : E.cells [y] = E.enc y := by simp [Enc.cells]
      rw [e1]
      exact h1
    · exact ⟨hg.os, hg.tape, hg.output, hg.size, fun k hk => hg.block k (by omega) (fun e => by have := hown.ge k e.symm; omega)⟩
/-- A cell of an own row's element is another one: the element is y then. -/
theorem OwnR.setCell {g cap n : Nat} {A : Value} (h : OwnR E w B e A l) (hA : A = .slice (some ⟨g, 0, none⟩) n cap) (i r : Nat) (hi : i < l.length) (hr : r < E.k) (y : α) (u : Value) (hy : (E.enc l[i]).set r u = E.enc y) :
    OwnR E (w.setCell ⟨g, i * E.k + r, none⟩ u) B e A (l.set i y) := by
  obtain ⟨h1, h2⟩ := h
  rcases h2 with ⟨rfl, hn⟩ | ⟨g', cap', cur, e0, hb, hg, hc, hm, hs, ht⟩
  · omega
  · rw [hA] at e0
    injection e0 with e1 e2 e3
    injection e1 with e1
    injection e1 with e1 _ _
    subst e1 e3 e2
    refine ⟨by rw [E.cells_len, List.length_set], .inr ⟨g, cap, _, by rw [hA, List.length_set], hb, set_block hg u, by rw [List.length_set]; exact hc, hm, by simp [hs], ?_⟩⟩
    rw [List.length_set]
    have hlt : i * E.k + r < l.length * E.k := by
      have := Nat.mul_le_mul_right E.k (Nat.succ_le_of_lt hi)
      rw [Nat.succ_mul] at this
      omega
    rw [Array.toList_setIfInBounds, List.take_set, ht]
    apply List.ext_getElem?
    intro j
    rw [List.getElem?_set]
    have hcs := E.cells_set l i hi y
    rw [← hcs]
    have hl1 : ((E.cells l).take (i * E.k)).length = i * E.k := by rw [List.length_take, E.cells_len]; omega
    have hmul : (i + 1) * E.k ≤ l.length * E.k := Nat.mul_le_mul_right E.k (Nat.succ_le_of_lt hi)
    rw [Nat.succ_mul] at hmul
    by_cases hj1 : j < i * E.k
    · rw [if_neg (by omega), List.append_assoc, List.getElem?_append_left (by omega), List.getElem?_take, if_pos hj1]
    · by_cases hj2 : j < i * E.k + E.k
      · rw [List.append_assoc, List.getElem?_append_right (by omega), hl1, List.getElem?_append_left (by rw [E.len]; omega), ← hy, List.getElem?_set]
        have hgj := E.cells_get l i (j - i * E.k) hi (by omega)
        rw [show i * E.k + (j - i * E.k) = j by omega] at hgj
        by_cases hjr : i * E.k + r = j
        · rw [if_pos hjr, if_pos (by rw [E.cells_len]; omega), if_pos (by omega), if_pos (by rw [E.len]; omega)]
        · rw [if_neg hjr, if_neg (by omega), hgj]
      · rw [if_neg (by omega), List.getElem?_append_right (by rw [List.length_append, hl1, E.len]; omega), List.length_append, hl1, E.len, List.getElem?_drop, show i * E.k + E.k + (j - (i * E.k + E.k)) = j by omega]
end
end Go.Proofs.YtokbhiokcoldbaaDoor
/- Several rows of a call's own that grow side by side: an append leaves the others alone; the row lies in its own block behind it, or in a new one. No program in sight. -/
namespace Go.Proofs.YtokbhiokcoldbaaDoor
open Go.RowKit

/-- Behind an append a row lies where it lay, or in block n. -/
def Moved (n : Nat) (v v' : Value) : Prop := v'.ownBlock = v.ownBlock ∨ v'.ownBlock = some n
/-- Two rows lie in different blocks. -/
def Apart (u v : Value) : Prop := ∀ g, u.ownBlock = some g → v.ownBlock ≠ some g
theorem Apart.symm {u v : Value} (h : Apart u v) : Apart v u := fun g h1 h2 => h g h2 h1
theorem Apart.nil (u : Value) (n c : Nat) : Apart u (.slice none n c) := fun g _ h => by cases h
theorem Apart.nil' (u : Value) (n c : Nat) : Apart (.slice none n c) u := fun g h => by cases h
theorem Apart.moved {u v v' : Value} {n : Nat} (h : Apart u v) (hm : Moved n v v') (hu : ∀ g, u.ownBlock = some g → g < n) : Apart u v' := fun g hg => by
  rcases hm with hm | hm
  · rw [hm]; exact h g hg
  · rw [hm]; intro e; injection e with e; have := hu g hg; omega
theorem Own.other {w w' : World} {B e : Nat} {u v : Value} {xs : List Int} (h : Own w B e u xs) (hg : w.grownBy w' v.ownBlock) (ha : Apart u v) : Own w' B e u xs :=
  World.ownsRow.kept h hg (by
    cases hu : u.ownBlock with
    | none => exact .inl rfl
    | some g => exact .inr fun hx => ha g hu hx.symm)
theorem Own.lt {w : World} {B e : Nat} {v : Value} {xs : List Int} (h : Own w B e v xs) : ∀ g, v.ownBlock = some g → g < w.heap.size := fun g hg => (World.ownsRow.lt h g hg).2
theorem OwnR.other {α : Type} {E : Enc α} {w w' : World} {B e : Nat} {u v : Value} {l : List α} (h : OwnR E w B e u l) (hg : w.grownBy w' v.ownBlock) (ha : Apart u v) : OwnR E w' B e u l :=
  World.ownsRow.kept h hg (by
    cases hu : u.ownBlock with
    | none => exact .inl rfl
    | some g => exact .inr fun hx => ha g hu hx.symm)
theorem OwnR.lt {α : Type} {E : Enc α} {w : World} {B e : Nat} {v : Value} {l : List α} (h : OwnR E w B e v l) : ∀ g, v.ownBlock = some g → g < w.heap.size := fun g hg => (World.ownsRow.lt h g hg).2
theorem fr_grown {w w' : World} {v : Value} (hg : w.grownBy w' v.ownBlock) : Fr v.ownBlock.toList w w' := ⟨hg.os, hg.tape, hg.output, hg.size, fun k hk hn => hg.block k hk (fun e => hn (by rw [← e]; simp))⟩

/-! ### Several rows -/
structure Row where
  e : TypeId
  size : Nat
  v : Value
  n : Nat
  xs : List Value
def Row.in (r : Row) (w : World) (B : Nat) : Prop := w.ownsRow B r.e r.size r.v r.n r.xs
def rI (e : TypeId) (v : Value) (xs : List Int) : Row := ⟨e, 1, v, xs.length, xs.map (Value.int .i64)⟩
def rE {α : Type} (E : Enc α) (e : TypeId) (v : Value) (l : List α) : Row := ⟨e, E.k, v, l.length, E.cells l⟩
/-- The rows lie from block B on, each in its own block. -/
def Rows_ (w : World) (B : Nat) (rs : List Row) : Prop := (∀ r ∈ rs, r.in w B) ∧ rs.Pairwise fun a b => Apart a.v b.v
theorem Rows_.push {w w' : World} {B n : Nat} {l1 l2 : List Row} {r r' : Row} (h : Rows_ w B (l1 ++ r :: l2)) (ho : r'.in w' B) (hg : w.grownBy w' r.v.ownBlock) (hm : Moved n r.v r'.v) (hn : w.heap.size ≤ n) : Rows_ w' B (l1 ++ r' :: l2) := by
  obtain ⟨h1, h2⟩ := h
  rw [List.pairwise_append] at h2
  obtain ⟨p1, p2, p3⟩ := h2
  rw [List.pairwise_cons] at p2
  have hlt : ∀ x : Row, x ∈ l1 ∨ x ∈ l2 → ∀ g, x.v.ownBlock = some g → g < n := fun x hx g hg => by
    have h3 : x.in w B := h1 x (by rcases hx with hx | hx <;> simp [hx])
    have := (World.ownsRow.lt h3 g hg).2
    omega
  have ha : ∀ x : Row, x ∈ l1 ∨ x ∈ l2 → Apart x.v r.v := fun x hx => by
    rcases hx with hx | hx
    · exact p3 x hx r (by simp)
    · exact (p2.1 x hx).symm
  have hk : ∀ x : Row, x ∈ l1 ∨ x ∈ l2 → x.in w' B := fun x hx =>
    World.ownsRow.kept (h1 x (by rcases hx with hx | hx <;> simp [hx])) hg (by
      cases hu : x.v.ownBlock with
      | none => exact .inl rfl
      | some g => exact .inr fun e => ha x hx g hu e.symm)
  refine ⟨fun x hx => ?_, ?_⟩
  · rcases List.mem_append.1 hx with hx | hx
    · exact hk x (.inl hx)
    · rcases List.mem_cons.1 hx with hx | hx
      · subst hx; exact ho
      · exact hk x (.inr hx)
  · rw [List.pairwise_append, List.pairwise_cons]
    refine ⟨p1, ⟨fun x hx => ((ha x (.inr hx)).moved hm (hlt x (.inr hx))).symm, p2.2⟩, fun x hx y hy => ?_⟩
    rcases List.mem_cons.1 hy with hy | hy
    · subst hy; exact (ha x (.inl hx)).moved hm (hlt x (.inl hx))
    · exact p3 x hx y (by simp [hy])
theorem Rows_.fr {w w' : World} {B : Nat} {rs : List Row} {S : List Nat} (h : Rows_ w B rs) (hf : Fr S w w') (hS : ∀ g ∈ S, g < B) : Rows_ w' B rs :=
  ⟨fun r hr => by
    have h1 : r.in w B := h.1 r hr
    obtain ⟨a, b⟩ := h1
    refine ⟨a, ?_⟩
    rcases b with b | ⟨g, cap, cur, e1, hb, hg, q⟩
    · exact .inl b
    · exact .inr ⟨g, cap, cur, e1, hb, hf.get hg (fun hm => by have := hS g hm; omega), q⟩, h.2⟩
theorem Rows_.p0 {w : World} {B : Nat} {a : Row} {l : List Row} (h : Rows_ w B (a :: l)) : a.in w B := h.1 a (by simp)
theorem Rows_.p1 {w : World} {B : Nat} {a b : Row} {l : List Row} (h : Rows_ w B (a :: b :: l)) : b.in w B := h.1 b (by simp)
theorem Rows_.p2 {w : World} {B : Nat} {a b c : Row} {l : List Row} (h : Rows_ w B (a :: b :: c :: l)) : c.in w B := h.1 c (by simp)
theorem Rows_.p3 {w : World} {B : Nat} {a b c d : Row} {l : List Row} (h : Rows_ w B (a :: b :: c :: d :: l)) : d.in w B := h.1 d (by simp)
theorem Rows_.push0 {w w' : World} {B n : Nat} {l : List Row} {r r' : Row} (h : Rows_ w B (r :: l)) (ho : r'.in w' B) (hg : w.grownBy w' r.v.ownBlock) (hm : Moved n r.v r'.v) (hn : w.heap.size ≤ n) : Rows_ w' B (r' :: l) := Rows_.push (l1 := []) h ho hg hm hn
theorem Rows_.push1 {w w' : World} {B n : Nat} {a : Row} {l : List Row} {r r' : Row} (h : Rows_ w B (a :: r :: l)) (ho : r'.in w' B) (hg : w.grownBy w' r.v.ownBlock) (hm : Moved n r.v r'.v) (hn : w.heap.size ≤ n) : Rows_ w' B (a :: r' :: l) := Rows_.push (l1 := [a]) h ho hg hm hn
theorem Rows_.push2 {w w' : World} {B n : Nat} {a b : Row} {l : List Row} {r r' : Row} (h : Rows_ w B (a :: b :: r :: l)) (ho : r'.in w' B) (hg : w.grownBy w' r.v.ownBlock) (hm : Moved n r.v r'.v) (hn : w.heap.size ≤ n) : Rows_ w' B (a :: b :: r' :: l) := Rows_.push (l1 := [a, b]) h ho hg hm hn
theorem Rows_.push3 {w w' : World} {B n : Nat} {a b c : Row} {l : List Row} {r r' : Row} (h : Rows_ w B (a :: b :: c :: r :: l)) (ho : r'.in w' B) (hg : w.grownBy w' r.v.ownBlock) (hm : Moved n r.v r'.v) (hn : w.heap.size ≤ n) : Rows_ w' B (a :: b :: c :: r' :: l) := Rows_.push (l1 := [a, b, c]) h ho hg hm hn
theorem Row.ge {r : Row} {w : World} {B : Nat} (h : r.in w B) : ∀ g, r.v.ownBlock = some g → B ≤ g ∧ g < w.heap.size := World.ownsRow.lt h
/-- A frame across an append to a row that lies from block B on. -/
theorem Fr.push {S : List Nat} {a b c : World} {r : Row} {B : Nat} (h : Fr S a b) (hr : r.in b B) (hg : b.grownBy c r.v.ownBlock) (hB : a.heap.size ≤ B) : Fr S a c :=
  h.grown hg (fun g e => .inr (by have := (Row.ge hr g e).1; omega))

section
variable {P : Program} (w : World)
theorem append_moved (base : Nat) (t ty e : TypeId) (i : TypeInfo) (z : Value) (size bytes : Nat) (ht : P.underlying t = some (.slice e)) (hi : P.info? e = some i) (hz : i.zero = some z)
    (hsize : i.size = size) (hby : i.bytes = bytes) (hzs : z.cells.size = size) (hsz : 0 < size) (v : Value) (n : Nat) (xs : List Value) (hown : w.ownsRow base e size v n xs)
    (a : Addr) (m c : Nat) (news : List Value) (hl : news.length = m * size) (hnews : ∀ j u, news[j]? = some u → w.cell? (a.add j) = some u) (h1 : ∀ u ∈ news, u.oneCell' = true)
    (h63 : n + m ≤ maxLen) (hbytes : (n + m) * bytes ≤ 140737488355328) (hbase : base ≤ w.heap.size) {v' : Value} {w' : World} (hr : (Builtin.append_ #[t, t] ty #[v, .slice (some a) m c]).run P w = .ok v' w') : Moved w.heap.size v v' := by
  have hb := run_append_own (P := P) w base t ty e i z size bytes ht hi hz hsize hby hzs hsz v n xs hown a m c news hl hnews h1 h63 hbytes hbase
  have hsmall : n + m ≤ 9223372036854775807 := by simp only [maxLen] at h63; omega
  subst hsize
  subst hby
  rcases hown.2 with ⟨rfl, rfl⟩ | ⟨g, cap, cur, rfl, hbg, hg, hnc, hcm, hcs, htake⟩
  · by_cases hm : m = 0
    · obtain ⟨v1, w1, hr1, _, _, h4⟩ := hb
      have e1 := h4.2 ⟨rfl, hm⟩
      rw [hr] at hr1
      injection hr1 with e2 _
      rw [e2, e1]
      exact .inl rfl
    · have hr1 := run_append_nil (P := P) w t ty e i z ht hi hz a m c news hl hnews (by omega) (by omega) (by have hb := hbytes; simp only [Nat.zero_add] at hb; omega)
      rw [hr] at hr1
      injection hr1 with e2 _
      rw [e2]
      exact .inr rfl
  · by_cases hroom : n + m ≤ cap
    · have hfit : n * i.size + news.length ≤ cur.size := by rw [hl, hcs, ← Nat.add_mul]; exact Nat.mul_le_mul_right _ hroom
      have hr1 := run_append_room (P := P) w t ty e i ht hi g n cap cur hg a m c news hl hnews h1 hroom hfit
      rw [hr] at hr1
      injection hr1 with e2 _
      rw [e2]
      exact .inl rfl
    · have holds : ∀ j u, xs[j]? = some u → w.cell? ((⟨g, 0, none⟩ : Addr).add j) = some u := hown.cells (g := g) rfl
      have hr1 := run_append_grow (P := P) w t ty e i z ht hi hz ⟨g, 0, none⟩ n cap xs hown.1 holds a m c news hl hnews (by omega) (by omega) (growslice_fits (by omega) hbytes)
      rw [hr] at hr1
      injection hr1 with e2 _
      rw [e2]
      exact .inr rfl
theorem wpList_append_own2 {ops : Array Oper} {rest : List Oper} {o : Oper} {a : Act} {Q : Exit → Act → World → Prop} (hgd : o.guard = none) (s x : Operand) (t : TypeId)
    (ho : o.op = .call { callee := .builtin .append, args := #[s, x], argTypes := #[t, t] }) (base : Nat) (e : TypeId) (i : TypeInfo) (z : Value) (size bytes : Nat) (ht : P.underlying t = some (.slice e)) (hi : P.info? e = some i) (hz : i.zero = some z)
    (hsize : i.size = size) (hby : i.bytes = bytes) (hzs : z.cells.size = size) (hsz : 0 < size) (v : Value) (n : Nat) (xs : List Value) (hs : a.eval s = v) (hown : w.ownsRow base e size v n xs)
    (ad : Addr) (m c : Nat) (news : List Value) (hx : a.eval x = .slice (some ad) m c) (hl : news.length = m * size) (hnews : ∀ j u, news[j]? = some u → w.cell? (ad.add j) = some u) (h1 : ∀ u ∈ news, u.oneCell' = true)
    (h63 : n + m ≤ maxLen) (hbytes : (n + m) * bytes ≤ 140737488355328) (hbase : base ≤ w.heap.size)
    (h : ∀ v' w', w'.ownsRow base e size v' (n + m) (xs ++ news) → w.grownBy w' v.ownBlock → Moved w.heap.size v v' → wpList P ops Q rest (a.put o.dst v') w') : wpList P ops Q (o :: rest) a w :=
  wpList_plain hgd fun _ hK => by
    obtain ⟨v', w', hr, h2, h3, _⟩ := run_append_own (P := P) w base t o.type e i z size bytes ht hi hz hsize hby hzs hsz v n xs hown ad m c news hl hnews h1 h63 hbytes hbase
    have h5 := append_moved w base t o.type e i z size bytes ht hi hz hsize hby hzs hsz v n xs hown ad m c news hl hnews h1 h63 hbytes hbase hr
    unfold Oper.wp execOp
    simp only [ho, resolve, invoke, builtin, Sem.run_bind, Sem.run_pure, Result.andThen_ok, List.map_toArray, List.map_cons, List.map_nil, hs, hx, hr]
    exact hK _ _ (h v' w' h2 h3 h5)
end
section
variable {P : Program} {ops : Array Oper} {rest : List Oper} {o : Oper} {a : Act} {Q : Exit → Act → World → Prop} {wr : World}
/-- 'out = append(out, y)': one integer more; where the row lies then. -/
theorem wpList_push_int2 {y : Int} {t e : TypeId} (hT : IntT P t e) (hgd : o.guard = none) (s x : Operand)
    (ho : o.op = .call { callee := .builtin .append, args := #[s, x], argTypes := #[t, t] })
    (B : Nat) (v : Value) (xs : List Int) (hs : a.eval s = v) (hown : Own wr B e v xs) (hx : a.eval x = .slice (some ⟨wr.heap.size, 0, none⟩) 1 1) (hl : xs.length < 1000000) (hB : B ≤ wr.heap.size)
    (h : ∀ v' w', Own w' B e v' (xs ++ [y]) → wr.grownBy w' v.ownBlock → Moved (wr.heap.size + 1) v v' → wpList P ops Q rest (a.put o.dst v') w') : wpList P ops Q (o :: rest) a (wr.alloc (.cells #[.int .i64 y] e)) := by
  obtain ⟨i0, hi, hz0, hz1, hz2⟩ := info_parts hT.hi
  refine wpList_append_own2 _ hgd s x t ho B e i0 (.int .i64 0) 1 8 hT.ht hi hz0 hz1 hz2 rfl (by decide) v xs.length _ hs (hown.alloc _) ⟨wr.heap.size, 0, none⟩ 1 1 [.int .i64 y] hx rfl ?_ (by simp [Value.oneCell']) (by unfold maxLen; omega) (by omega) (by simp; omega) ?_
  · intro j u hu
    cases j with
    | zero => simp at hu; subst hu; rw [Addr.add_zero', cell_of_row _ _ _ _ _ _ (heap_alloc_new wr _)]; rfl
    | succ j => simp at hu
  · intro v' w' h1 h2 h3
    rw [show (wr.alloc (.cells #[.int .i64 y] e)).heap.size = wr.heap.size + 1 by simp] at h3
    exact h v' w' (by unfold Own; simpa using h1) ⟨h2.os, h2.tape, h2.output, Nat.le_trans (by simp) h2.size, fun k hk hn => (h2.block k (by simp; omega) hn).trans (Below.heap_alloc wr _ k hk)⟩ h3
/-- The same for a struct. -/
theorem wpList_push_enc2 {α : Type} {E : Enc α} {e : TypeId} {w1 : World} {y : α} {t : TypeId} {z : Value} {bytes : Nat} (ht : P.underlying t = some (.slice e))
    (hi : (P.info? e).map (fun i => (i.zero, i.size, i.bytes)) = some (some z, E.k, bytes)) (hz : z.cells.size = E.k) (hby : bytes ≤ 1000) (hgd : o.guard = none) (s x : Operand)
    (ho : o.op = .call { callee := .builtin .append, args := #[s, x], argTypes := #[t, t] })
    (B : Nat) (v : Value) (l : List α) (hs : a.eval s = v) (hw : w1 = wr.alloc (.cells (E.enc y).toArray e)) (hown : OwnR E wr B e v l) (hx : a.eval x = .slice (some ⟨wr.heap.size, 0, none⟩) 1 1) (hl : l.length < 1000000) (hB : B ≤ wr.heap.size)
    (h : ∀ v' w', OwnR E w' B e v' (l ++ [y]) → wr.grownBy w' v.ownBlock → Moved (wr.heap.size + 1) v v' → wpList P ops Q rest (a.put o.dst v') w') : wpList P ops Q (o :: rest) a w1 := by
  subst hw
  obtain ⟨i0, hi, hz0, hz1, hz2⟩ := info_parts hi
  refine wpList_append_own2 _ hgd s x t ho B e i0 z E.k bytes ht hi hz0 hz1 hz2 hz E.pos v l.length _ hs (World.ownsRow.alloc hown _) ⟨wr.heap.size, 0, none⟩ 1 1 (E.enc y) hx (by rw [E.len, Nat.one_mul]) ?_ (E.one y) (by unfold maxLen; omega) ?_ (by simp; omega) ?_
  · have := World.news_of_block (cs := (E.enc y).toArray) (t := e) (fr := (0, 0)) (heap_alloc_new wr _)
    simpa using this
  · have := Nat.mul_le_mul (show l.length + 1 ≤ 1000000 by omega) hby
    omega
  · intro v' w' h1 h2 h3
    rw [show (wr.alloc (.cells (E.enc y).toArray e)).heap.size = wr.heap.size + 1 by simp] at h3
    refine h v' w' ?_ ⟨h2.os, h2.tape, h2.output, Nat.le_trans (by simp) h2.size, fun k hk hn => (h2.block k (by simp; omega) hn).trans (Below.heap_alloc wr _ k hk)⟩ h3
    unfold OwnR
    rw [E.cells_append, List.length_append]
    have e1 : E.cells [y] = E.enc y := by simp [Enc.cells]
    rw [e1]
    exact h1
end
end Go.Proofs.YtokbhiokcoldbaaDoor
