/- Rows of structs: elements of k cells each. What the call owns and grows; what it reads. No program in sight. -/
import Derived.Deep.AppendLies
import Derived.OwnWalkIn
import Derived.RangeFuncBox
import Derived.RangeFuncWrites
import Derived.Test.YtnglhfeialomgaaGreatDoorTz01
namespace Go.Proofs.YtnglhfeialomgaaGreatDoor
open Go.RowKit

/-- How an element lies in cells. -/
structure Enc (α : Type) where
  k : Nat
  enc : α → List Value
  len : ∀ a, (enc a).length = k
  one : ∀ a, ∀ v ∈ enc a, v.oneCell' = true
  pos : 0 < k
section
variable {α : Type} (E : Enc α)
def Enc.cells (l : List α) : List Value := l.flatMap E.enc
theorem Enc.cells_len (l : List α) : (E.cells l).length = l.length * E.k := by
  induction l with
  | nil => simp [Enc.cells]
  | cons a l ih =>
    have e : E.cells (a :: l) = E.enc a ++ E.cells l := rfl
    rw [e, List.length_append, E.len, ih, List.length_cons, Nat.add_mul, Nat.one_mul, Nat.add_comm]
theorem Enc.cells_append (l m : List α) : E.cells (l ++ m) = E.cells l ++ E.cells m := by simp [Enc.cells]
theorem Enc.cells_get : ∀ (l : List α) (i r : Nat) (h : i < l.length), r < E.k → (E.cells l)[i * E.k + r]? = (E.enc l[i])[r]?
  | [], i, r, h, _ => by simp at h
  | a :: l, 0, r, h, hr => by
    have e : E.cells (a :: l) = E.enc a ++ E.cells l := rfl
    rw [e, Nat.zero_mul, Nat.zero_add, List.getElem?_append_left (by rw [E.len]; exact hr)]
    rfl
  | a :: l, i + 1, r, h, hr => by
    have e : E.cells (a :: l) = E.enc a ++ E.cells l := rfl
    rw [e, List.getElem?_append_right (by rw [E.len, Nat.add_mul]; omega), E.len, show (i + 1) * E.k + r - E.k = i * E.k + r by rw [Nat.add_mul]; omega]
    exact Enc.cells_get l i r (by simpa using h) hr
theorem Enc.cells_set : ∀ (l : List α) (i : Nat) (_ : i < l.length) (x : α), (E.cells l).take (i * E.k) ++ E.enc x ++ (E.cells l).drop (i * E.k + E.k) = E.cells (l.set i x)
  | [], i, h, _ => by simp at h
  | a :: l, 0, h, x => by
    have e : E.cells (a :: l) = E.enc a ++ E.cells l := rfl
    rw [e, Nat.zero_mul, Nat.zero_add, List.take_zero, List.nil_append, List.drop_append, E.len, Nat.sub_self, List.drop_zero, List.drop_of_length_le (by rw [E.len]; exact Nat.le_refl _)]
    rfl
  | a :: l, i + 1, h, x => by
    have e : E.cells (a :: l) = E.enc a ++ E.cells l := rfl
    have ih := Enc.cells_set l i (by simpa using h) x
    rw [List.set_cons_succ]
    show _ = E.enc a ++ E.cells (l.set i x)
    rw [← ih, e, List.take_append, List.drop_append, E.len, show (i + 1) * E.k - E.k = i * E.k by rw [Nat.add_mul]; omega, show (i + 1) * E.k + E.k - E.k = i * E.k + E.k by rw [Nat.add_mul]; omega,
      List.take_of_length_le (l := E.enc a) (by rw [E.len, Nat.add_mul]; omega), List.drop_of_length_le (l := E.enc a) (by rw [E.len, Nat.add_mul]; omega)]
    simp
/-- What the call owns as a row of such elements that grows. -/
def OwnR (w : World) (B e : Nat) (v : Value) (l : List α) : Prop := w.ownsRow B e E.k v l.length (E.cells l)
/-- What reads so, wherever it lies (in block g). -/
def SlR (w : World) (v : Value) (g : Nat) (l : List α) : Prop :=
  (l = [] ∧ ∃ A c, v = .slice A 0 c) ∨ ∃ o c, v = .slice (some ⟨g, o, none⟩) l.length c ∧ l.length ≤ c ∧ c ≤ maxLen ∧ ∀ i (h : i < l.length) r, r < E.k → w.cell? ⟨g, o + i * E.k + r, none⟩ = (E.enc l[i])[r]?
variable {E} {w w' : World} {B e : Nat} {v : Value} {l : List α}
theorem OwnR.nil : OwnR E w B e (.slice none 0 0) [] := World.ownsRow_nil w B e E.k
theorem OwnR.alloc (h : OwnR E w B e v l) (o : Obj) : OwnR E (w.alloc o) B e v l := World.ownsRow.alloc h o
theorem OwnR.ge (h : OwnR E w B e v l) : ∀ g, v.ownBlock = some g → B ≤ g ∧ g < w.heap.size := World.ownsRow.lt h
theorem OwnR.kept {S : List Nat} (h : OwnR E w B e v l) (hf : Fr S w w') (hS : ∀ g ∈ S, v.ownBlock ≠ some g) : OwnR E w' B e v l := by
  obtain ⟨h1, h2⟩ := h
  refine ⟨h1, ?_⟩
  rcases h2 with h2 | ⟨g, cap, cur, rfl, hb, hg, r⟩
  · exact .inl h2
  · exact .inr ⟨g, cap, cur, rfl, hb, hf.get hg (fun hm => hS g hm rfl), r⟩
theorem OwnR.sl (h : OwnR E w B e v l) : ∃ g, (B ≤ g ∨ l = []) ∧ SlR E w v g l := by
  obtain ⟨h1, h2⟩ := h
  rcases h2 with ⟨rfl, hn⟩ | ⟨g, cap, cur, rfl, hb, hg, hc, hm, hs, ht⟩
  · have := List.eq_nil_of_length_eq_zero hn
    exact ⟨0, .inr this, .inl ⟨this, none, 0, rfl⟩⟩
  · refine ⟨g, .inl hb, .inr ⟨0, cap, rfl, hc, hm, fun i hi r hr => ?_⟩⟩
    have hlt : i * E.k + r < l.length * E.k := by
      have := Nat.mul_le_mul_right E.k (Nat.succ_le_of_lt hi)
      rw [Nat.succ_mul] at this
      omega
    rw [Nat.zero_add, cell_of_row w g _ cur e _ hg, ← E.cells_get l i r hi hr, ← ht, List.getElem?_take, if_pos hlt]
    simp
theorem SlR.fr {S : List Nat} {g : Nat} (h : SlR E w v g l) (hf : Fr S w w') (hg : g ∉ S) : SlR E w' v g l := by
  rcases h with h | ⟨o, c, h0, h1, h2, h3⟩
  · exact .inl h
  · refine .inr ⟨o, c, h0, h1, h2, fun i hi r hr => ?_⟩
    have h4 := h3 i hi r hr
    have hlt : r < (E.enc l[i]).length := by rw [E.len]; exact hr
    rw [List.getElem?_eq_getElem hlt] at h4 ⊢
    exact hf.cell h4 hg
theorem SlR.form {g : Nat} (h : SlR E w v g l) : ∃ (A : Option Addr) (o c : Nat), v = .slice A l.length c ∧ l.length ≤ 9223372036854775807 ∧ (0 < l.length → A = some ⟨g, o, none⟩) ∧ ∀ i (h : i < l.length) r, r < E.k → w.cell? ⟨g, o + i * E.k + r, none⟩ = (E.enc l[i])[r]? := by
  rcases h with ⟨rfl, A, c, rfl⟩ | ⟨o, c, rfl, h1, h2, h3⟩
  · exact ⟨A, 0, c, rfl, by simp, by simp, by simp⟩
  · exact ⟨_, o, c, rfl, by unfold maxLen at h2; omega, fun _ => rfl, h3⟩
/-- 'out = append(out, x)', x laid in a block of its own just ahead: one element more. -/
theorem wpList_push_enc {P : Program} {ops : Array Oper} {rest : List Oper} {o : Oper} {a : Act} {Q : Exit → Act → World → Prop} {wr w1 : World} {y : α} {t : TypeId} {z : Value} {bytes : Nat} (ht : P.underlying t = some (.slice e))
    (hi : (P.info? e).map (fun i => (i.zero, i.size, i.bytes)) = some (some z, E.k, bytes)) (hz : z.cells.size = E.k) (hby : bytes ≤ 1000) (hgd : o.guard = none) (s x : Operand)
    (ho : o.op = .call { callee := .builtin .append, args := #[s, x], argTypes := #[t, t] })
    (B : Nat) (v : Value) (l : List α) (hs : a.eval s = v) (hw : w1 = wr.alloc (.cells (E.enc y).toArray e)) (hown : OwnR E wr B e v l) (hx : a.eval x = .slice (some ⟨wr.heap.size, 0, none⟩) 1 1) (hl : l.length < 1000000) (hB : B ≤ wr.heap.size)
    (h : ∀ v' w', OwnR E w' B e v' (l ++ [y]) → wr.grownBy w' v.ownBlock → Below B wr w' → wpList P ops Q rest (a.put o.dst v') w') : wpList P ops Q (o :: rest) a w1 := by
  subst hw
  obtain ⟨i0, hi, hz0, hz1, hz2⟩ := info_parts hi
  refine wpList_append_own _ hgd s x t ho B e i0 z E.k bytes ht hi hz0 hz1 hz2 hz E.pos v l.length _ hs (World.ownsRow.alloc hown _) ⟨wr.heap.size, 0, none⟩ 1 1 (E.enc y) hx (by rw [E.len, Nat.one_mul]) ?_ (E.one y) (by unfold maxLen; omega) ?_ (by simp; omega) ?_
  · have := World.news_of_block (cs := (E.enc y).toArray) (t := e) (fr := (0, 0)) (heap_alloc_new wr _)
    simpa using this
  · have := Nat.mul_le_mul (show l.length + 1 ≤ 1000000 by omega) hby
    omega
  · intro v' w' h1 h2 _
    have hg : wr.grownBy w' v.ownBlock := ⟨h2.os, h2.tape, h2.output, Nat.le_trans (by simp) h2.size, fun k hk hn => (h2.block k (by simp; omega) hn).trans (Below.heap_alloc wr _ k hk)⟩
    refine h v' w' ?_ hg ?_
    · unfold OwnR
      rw [E.cells_append, List.length_append]
      have e1 : E.cells [y] = E.enc y := by simp [Enc.cells]
      rw [e1]
      exact h1
    · exact ⟨hg.os, hg.tape, hg.output, hg.size, fun k hk => hg.block k (by omega) (fun e => by have := hown.ge k e.symm; omega)⟩
/-- A cell of an own row's element is another one: the element is y then. -/
theorem OwnR.setCell {g cap n : Nat} {A : Value} (h : OwnR E w B e A l) (hA : A = .slice (some ⟨g, 0, none⟩) n cap) (i r : Nat) (hi : i < l.length) (hr : r < E.k) (y : α) (u : Value) (hy : (E.enc l[i]).set r u = E.enc y) :
    OwnR E (w.setCell ⟨g, i * E.k + r, none⟩ u) B e A (l.set i y) := by
  obtain ⟨h1, h2⟩ := h
  rcases h2 with ⟨rfl, hn⟩ | ⟨g', cap', cur, e0, hb, hg, hc, hm, hs, ht⟩
  · omega
  · rw [hA] at e0
    injection e0 with e1 e2 e3
    injection e1 with e1
    injection e1 with e1 _ _
    subst e1 e3 e2
    refine ⟨by rw [E.cells_len, List.length_set], .inr ⟨g, cap, _, by rw [hA, List.length_set], hb, set_block hg u, by rw [List.length_set]; exact hc, hm, by simp [hs], ?_⟩⟩
    rw [List.length_set]
    have hlt : i * E.k + r < l.length * E.k := by
      have := Nat.mul_le_mul_right E.k (Nat.succ_le_of_lt hi)
      rw [Nat.succ_mul] at this
      omega
    rw [Array.toList_setIfInBounds, List.take_set, ht]
    apply List.ext_getElem?
    intro j
    rw [List.getElem?_set]
    have hcs := E.cells_set l i hi y
    rw [← hcs]
    have hl1 : ((E.cells l).take (i * E.k)).length = i * E.k := by rw [List.length_take, E.cells_len]; omega
    have hmul : (i + 1) * E.k ≤ l.length * E.k := Nat.mul_le_mul_right E.k (Nat.succ_le_of_lt hi)
    rw [Nat.succ_mul] at hmul
    by_cases hj1 : j < i * E.k
    · rw [if_neg (by omega), List.append_assoc, List.getElem?_append_left (by omega), List.getElem?_take, if_pos hj1]
    · by_cases hj2 : j < i * E.k + E.k
      · rw [List.append_assoc, List.getElem?_append_right (by omega), hl1, List.getElem?_append_left (by rw [E.len]; omega), ← hy, List.getElem?_set]
        have hgj := E.cells_get l i (j - i * E.k) hi (by omega)
        rw [show i * E.k + (j - i * E.k) = j by omega] at hgj
        by_cases hjr : i * E.k + r = j
        · rw [if_pos hjr, if_pos (by rw [E.cells_len]; omega), if_pos (by omega), if_pos (by rw [E.len]; omega)]
        · rw [if_neg hjr, if_neg (by omega), hgj]
      · rw [if_neg (by omega), List.getElem?_append_right (by rw [List.length_append, hl1, E.len]; omega), List.length_append, hl1, E.len, List.getElem?_drop, show i * E.k + E.k + (j - (i * E.k + E.k)) = j by omega]
end
end Go.Proofs.YtnglhfeialomgaaGreatDoor
/- Rows of structs, in a walk within a fence: an element more; an element less. No program in sight. -/
namespace Go.Proofs.YtnglhfeialomgaaGreatDoor
open Go.RowKit
section
variable {α : Type} {E : Enc α} {w w' : World} {B e : Nat} {v : Value} {l : List α}
theorem OwnR.form0 (h : OwnR E w B e v l) : ∃ A c, v = .slice A l.length c := by
  obtain ⟨_, h2⟩ := h
  rcases h2 with ⟨rfl, hn⟩ | ⟨g, cap, cur, rfl, _⟩
  · exact ⟨none, 0, by rw [hn]⟩
  · exact ⟨_, cap, rfl⟩
/-- The row cut. -/
theorem OwnR.cut {A : Option Addr} {c n : Nat} (h : OwnR E w B e (.slice A l.length c) l) (hn : n ≤ l.length) : OwnR E w B e (.slice A n c) (l.take n) := by
  obtain ⟨h1, h2⟩ := h
  have hlen : (l.take n).length = n := by rw [List.length_take]; omega
  refine ⟨by rw [E.cells_len, hlen], ?_⟩
  rw [hlen]
  rcases h2 with ⟨he, h0⟩ | ⟨g, cap, cur, he, hb, hg, hc, hm, hs, ht⟩
  · injection he with e1 e2 e3
    subst e1 e3
    exact .inl ⟨by rw [show n = 0 by omega], by omega⟩
  · injection he with e1 e2 e3
    subst e1 e3
    refine .inr ⟨g, c, cur, rfl, hb, hg, by omega, hm, hs, ?_⟩
    have := congrArg (List.take (n * E.k)) ht
    rw [List.take_take, Nat.min_eq_left (Nat.mul_le_mul_right _ hn)] at this
    rw [this]
    have e3 : E.cells l = E.cells (l.take n) ++ E.cells (l.drop n) := by rw [← E.cells_append, List.take_append_drop]
    rw [e3, List.take_left' (by rw [E.cells_len, hlen])]
theorem OwnR.keeps (h : OwnR E w B e v l) (hg : w.grownBy w' v.ownBlock) : KeepsOthers w w' := KeepsOthers.of_grownBy hg (fun j o ej hj => by
  obtain ⟨_, h2⟩ := h
  rcases h2 with ⟨rfl, _⟩ | ⟨g, cap, cur, rfl, hb, hc, _⟩
  · cases ej
  · simp [Value.ownBlock] at ej
    subst ej
    rw [hc] at hj
    injection hj with hj
    subst hj
    rfl)
theorem wpListIn_push_enc {F : Fence} {n : Nat} {P : Program} {ops : Array Oper} {rest : List Oper} {o : Oper} {a : Act} {Q : Exit → Act → World → Prop} {wr w1 : World} {y : α} {t : TypeId} {z : Value} {bytes : Nat} (ht : P.underlying t = some (.slice e))
    (hi : (P.info? e).map (fun i => (i.zero, i.size, i.bytes)) = some (some z, E.k, bytes)) (hz : z.cells.size = E.k) (hby : bytes ≤ 1000) (hgd : o.guard = none) (s x : Operand)
    (ho : o.op = .call { callee := .builtin .append, args := #[s, x], argTypes := #[t, t] })
    (B : Nat) (v : Value) (l : List α) (hs : a.eval s = v) (hw : w1 = wr.alloc (.cells (E.enc y).toArray e)) (hown : OwnR E wr B e v l) (hx : a.eval x = .slice (some ⟨wr.heap.size, 0, none⟩) 1 1) (hl : l.length < 1000000) (hB : B ≤ wr.heap.size)
    (h : ∀ v' w', OwnR E w' B e v' (l ++ [y]) → wr.grownBy w' v.ownBlock → wpListIn F n P ops Q rest (a.put o.dst v') w') : wpListIn F n P ops Q (o :: rest) a w1 := by
  subst hw
  obtain ⟨i0, hi, hz0, hz1, hz2⟩ := info_parts hi
  refine wpListIn_append_own _ hgd s x t ho B e i0 z E.k bytes ht hi hz0 hz1 hz2 hz E.pos v l.length _ hs (World.ownsRow.alloc hown _) ⟨wr.heap.size, 0, none⟩ 1 1 (E.enc y) hx (by rw [E.len, Nat.one_mul]) ?_ (E.one y) (by unfold maxLen; omega) ?_ (by simp; omega) ?_
  · have := World.news_of_block (cs := (E.enc y).toArray) (t := e) (fr := (0, 0)) (heap_alloc_new wr _)
    simpa using this
  · have := Nat.mul_le_mul (show l.length + 1 ≤ 1000000 by omega) hby
    omega
  · intro v' w' h1 h2 _
    have hg : wr.grownBy w' v.ownBlock := ⟨h2.os, h2.tape, h2.output, Nat.le_trans (by simp) h2.size, fun k hk hn => (h2.block k (by simp; omega) hn).trans (Below.heap_alloc wr _ k hk)⟩
    refine h v' w' ?_ hg
    unfold OwnR
    rw [E.cells_append, List.length_append]
    have e1 : E.cells [y] = E.enc y := by simp [Enc.cells]
    rw [e1]
    exact h1
end
end Go.Proofs.YtnglhfeialomgaaGreatDoor
