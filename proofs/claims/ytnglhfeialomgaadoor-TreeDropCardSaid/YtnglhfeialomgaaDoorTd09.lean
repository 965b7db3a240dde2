/- Rows of structs, in a walk within a fence: an element more; an element less. No program in sight. -/
import Derived.OwnWalkIn
import Derived.RangeFuncBox
import Derived.RangeFuncWrites
import Derived.Test.YtnglhfeialomgaaDoorTd08
namespace Go.Proofs.YtnglhfeialomgaaDoor
open Go.RowKit
section
variable {α : Type} {E : Enc α} {w w' : World} {B e : Nat} {v : Value} {l : List α}
theorem OwnR.form0 (h : OwnR E w B e v l) : ∃ A c, v = .slice A l.length c := by
  obtain ⟨_, h2⟩ := h
  rcases h2 with ⟨rfl, hn⟩ | ⟨g, cap, cur, rfl, _⟩
  · exact ⟨none, 0, by rw [hn]⟩
  · exact ⟨_, cap, rfl⟩
/-- The row cut. -/
theorem OwnR.cut {A : Option Addr} {c n : Nat} (h : OwnR E w B e (.slice A l.length c) l) (hn : n ≤ l.length) : OwnR E w B e (.slice A n c) (l.take n) := by
  obtain ⟨h1, h2⟩ := h
  have hlen : (l.take n).length = n := by rw [List.length_take]; omega
  refine ⟨by rw [E.cells_len, hlen], ?_⟩
  rw [hlen]
  rcases h2 with ⟨he, h0⟩ | ⟨g, cap, cur, he, hb, hg, hc, hm, hs, ht⟩
  · injection he with e1 e2 e3
    subst e1 e3
    exact .inl ⟨by rw [show n = 0 by omega], by omega⟩
  · injection he with e1 e2 e3
    subst e1 e3
    refine .inr ⟨g, c, cur, rfl, hb, hg, by omega, hm, hs, ?_⟩
    have := congrArg (List.take (n * E.k)) ht
    rw [List.take_take, Nat.min_eq_left (Nat.mul_le_mul_right _ hn)] at this
    rw [this]
    have e3 : E.cells l = E.cells (l.take n) ++ E.cells (l.drop n) := by rw [← E.cells_append, List.take_append_drop]
    rw [e3, List.take_left' (by rw [E.cells_len, hlen])]
theorem OwnR.keeps (h : OwnR E w B e v l) (hg : w.grownBy w' v.ownBlock) : KeepsOthers w w' := KeepsOthers.of_grownBy hg (fun j o ej hj => by
  obtain ⟨_, h2⟩ := h
  rcases h2 with ⟨rfl, _⟩ | ⟨g, cap, cur, rfl, hb, hc, _⟩
  · cases ej
  · simp [Value.ownBlock] at ej
    subst ej
    rw [hc] at hj
    injection hj with hj
    subst hj
    rfl)
theorem wpListIn_push_enc {F : Fence} {n : Nat} {P : Program} {ops : Array Oper} {rest : List Oper} {o : Oper} {a : Act} {Q : Exit → Act → World → Prop} {wr w1 : World} {y : α} {t : TypeId} {z : Value} {bytes : Nat} (ht : P.underlying t = some (.slice e))
    (hi : (P.info? e).map (fun i => (i.zero, i.size, i.bytes)) = some (some z, E.k, bytes)) (hz : z.cells.size = E.k) (hby : bytes ≤ 1000) (hgd : o.guard = none) (s x : Operand)
    (ho : o.op = .call { callee := .builtin .append, args := #[s, x], argTypes := #[t, t] })
    (B : Nat) (v : Value) (l : List α) (hs : a.eval s = v) (hw : w1 = wr.alloc (.cells (E.enc y).toArray e)) (hown : OwnR E wr B e v l) (hx : a.eval x = .slice (some ⟨wr.heap.size, 0, none⟩) 1 1) (hl : l.length < 1000000) (hB : B ≤ wr.heap.size)
    (h : ∀ v' w', OwnR E w' B e v' (l ++ [y]) → wr.grownBy w' v.ownBlock → wpListIn F n P ops Q rest (a.put o.dst v') w') : wpListIn F n P ops Q (o :: rest) a w1 := by
  subst hw
  obtain ⟨i0, hi, hz0, hz1, hz2⟩ := info_parts hi
  refine wpListIn_append_own _ hgd s x t ho B e i0 z E.k bytes ht hi hz0 hz1 hz2 hz E.pos v l.length _ hs (World.ownsRow.alloc hown _) ⟨wr.heap.size, 0, none⟩ 1 1 (E.enc y) hx (by rw [E.len, Nat.one_mul]) ?_ (E.one y) (by unfold maxLen; omega) ?_ (by simp; omega) ?_
  · have := World.news_of_block (cs := (E.enc y).toArray) (t := e) (fr := (0, 0)) (heap_alloc_new wr _)
    simpa using this
  · have := Nat.mul_le_mul (show l.length + 1 ≤ 1000000 by omega) hby
    omega
  · intro v' w' h1 h2 _
    have hg : wr.grownBy w' v.ownBlock := ⟨h2.os, h2.tape, h2.output, Nat.le_trans (by simp) h2.size, fun k hk hn => (h2.block k (by simp; omega) hn).trans (Below.heap_alloc wr _ k hk)⟩
    refine h v' w' ?_ hg
    unfold OwnR
    rw [E.cells_append, List.length_append]
    have e1 : E.cells [y] = E.enc y := by simp [Enc.cells]
    rw [e1]
    exact h1
end
end Go.Proofs.YtnglhfeialomgaaDoor
