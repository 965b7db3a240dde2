/- What the regions of the reference's Open do, in whatever order: a literal, an append, R.Set, a cut, a literal, an append. -/
import Derived.Test.YtmgalnkcpolafaaDoorFxRef3
import Derived.Test.YtmgalnkcpolafaaDoorFork
namespace Go.Proofs.YtmgalnkcpolafaaDoor
open Go.RowKit

section
variable {P : Program}
/-- 'out = append(out, y)', y's own block made before. -/
theorem wpList_push_any {ops : Array Oper} {rest : List Oper} {o : Oper} {a : Act} {Q : Exit → Act → World → Prop} {w : World} {y : Int} {t e : TypeId} (hT : IntT P t e) (hgd : o.guard = none) (s x : Operand)
    (ho : o.op = .call { callee := .builtin .append, args := #[s, x], argTypes := #[t, t] })
    (B : Nat) (v : Value) (xs : List Int) (hs : a.eval s = v) (hown : Own w B e v xs) (q : Nat) (hx : a.eval x = .slice (some ⟨q, 0, none⟩) 1 1) (hq : w.cell? ⟨q, 0, none⟩ = some (.int .i64 y)) (hl : xs.length < 1000000) (hB : B ≤ w.heap.size)
    (h : ∀ v' w', Own w' B e v' (xs ++ [y]) → w.grownBy w' v.ownBlock → Moved w.heap.size v v' → wpList P ops Q rest (a.put o.dst v') w') : wpList P ops Q (o :: rest) a w := by
  obtain ⟨i0, hi, hz0, hz1, hz2⟩ := info_parts hT.hi
  refine wpList_append_own2 _ hgd s x t ho B e i0 (.int .i64 0) 1 8 hT.ht hi hz0 hz1 hz2 rfl (by decide) v xs.length _ hs hown ⟨q, 0, none⟩ 1 1 [.int .i64 y] hx rfl ?_ (by simp [Value.oneCell']) (by unfold maxLen; omega) (by omega) hB ?_
  · intro j u hu
    cases j with
    | zero => simp at hu; subst hu; rw [Addr.add_zero']; exact hq
    | succ j => simp at hu
  · intro v' w' h1 h2 h3
    exact h v' w' (by unfold Own; simpa using h1) h2 h3
end
theorem Own.base {w : World} {B C e : Nat} {v : Value} {xs : List Int} (h : Own w B e v xs) (hC : C ≤ B) : Own w C e v xs := by
  obtain ⟨h1, h2⟩ := h
  refine ⟨h1, h2.imp_right ?_⟩
  rintro ⟨g, cap, cur, rfl, hb, r⟩
  exact ⟨g, cap, cur, rfl, Nat.le_trans hC hb, r⟩
/-- A row's first numbers: 'l[:n]'. -/
theorem Own.first {w : World} {B e g m cap : Nat} {xs ys : List Int} (h : Own w B e (.slice (some ⟨g, 0, none⟩) m cap) (xs ++ ys)) : Own w B e (.slice (some ⟨g, 0, none⟩) xs.length cap) xs ∧ xs.length ≤ cap := by
  obtain ⟨h1, h2⟩ := h
  rcases h2 with ⟨e0, _⟩ | ⟨g', cap', cur, e0, hb, hg, hc, hm, hs, ht⟩
  · cases e0
  · injection e0 with e0 _ e2
    injection e0 with e0
    injection e0 with e0 _ _
    subst e0 e2
    rw [List.length_append] at hc ht
    rw [Nat.mul_one] at ht
    refine ⟨⟨by simp, .inr ⟨g, cap, cur, rfl, hb, hg, by omega, hm, hs, ?_⟩⟩, by omega⟩
    rw [Nat.mul_one]
    have := congrArg (List.take xs.length) ht
    rw [List.take_take, List.map_append, List.take_append_of_le_length (by simp)] at this
    rw [show min xs.length (xs.length + ys.length) = xs.length by omega] at this
    rw [this, List.take_of_length_le (by simp)]
/-- The row, by the stage that is reached. -/
def FkRow (m : Nat) (W : World) (b : Value) (sz : List Int) (y : Int) (st : Nat) (r : Value) : Prop :=
  match st with
  | 0 => r = b ∧ Own W 0 3 b sz
  | 1 => Own W 0 3 r (sz ++ [0])
  | 2 => Own W m 3 r (sz ++ [0])
  | 3 => Own W m 3 r sz
  | _ => Own W m 3 r (sz ++ [y])
theorem FkRow.keep {m st : Nat} {W W' : World} {b r : Value} {sz : List Int} {y : Int} (h : FkRow m W b sz y st r) (hf : Fr [] W W') : FkRow m W' b sz y st r := by
  match st, h with
  | 0, h => exact ⟨h.1, Own.kept h.2 hf (by simp)⟩
  | 1, h => exact Own.kept (xs := sz ++ [0]) h hf (by simp)
  | 2, h => exact Own.kept (xs := sz ++ [0]) h hf (by simp)
  | 3, h => exact Own.kept (xs := sz) h hf (by simp)
  | n + 4, h => exact Own.kept (xs := sz ++ [y]) h hf (by simp)
/-- A literal of one number in block q, made since m. -/
def FkLit (m : Nat) (W : World) (y : Int) (l : Option Nat) : Prop := ∀ q, l = some q → m ≤ q ∧ W.cell? ⟨q, 0, none⟩ = some (.int .i64 y)
theorem FkLit.keep {m : Nat} {W W' : World} {y : Int} {l : Option Nat} {S : List Nat} (h : FkLit m W y l) (hf : Fr S W W') (hS : ∀ g ∈ S, g < m) : FkLit m W' y l := fun q hq => by
  obtain ⟨h1, h2⟩ := h q hq
  exact ⟨h1, hf.cell h2 (fun hm => by have := hS _ hm; simp at this; omega)⟩
theorem FkLit.none (m : Nat) (W : World) (y : Int) : FkLit m W y none := fun q hq => by cases hq
theorem FkLit.new {m : Nat} {W : World} (y : Int) (h : m ≤ W.heap.size) : FkLit m (W.alloc (.cells #[.int .i64 y] 3)) y (some W.heap.size) := fun q hq => by
  injection hq with hq
  subst hq
  exact ⟨h, by rw [cell_of_row _ _ _ _ _ _ (heap_alloc_new W _)]; rfl⟩
/-- What holds in the world W of the region that began at w5; the struct's variable in block B. -/
structure Fk (w5 W : World) (B : Nat) (a b c : Value) (sz : List Int) (y : Int) (st : Nat) (r : Value) (old : Value) (l0 l1 : Option Nat) : Prop where
  box : FxX W B a b c
  F : Fr old.ownBlock.toList w5 W
  own : Own w5 0 3 old sz
  nB : old.ownBlock ≠ some B
  row : FkRow w5.heap.size W old sz y st r
  l0 : FkLit w5.heap.size W 0 l0
  l1 : FkLit w5.heap.size W y l1
  ln : sz.length < 1000
  hB : B < w5.heap.size
section
variable {w5 W W' : World} {B : Nat} {a b c r old : Value} {sz : List Int} {y : Int} {st : Nat} {l0 l1 : Option Nat}
theorem Fk.keep (h : Fk w5 W B a b c sz y st r old l0 l1) (hf : Fr [] W W') : Fk w5 W' B a b c sz y st r old l0 l1 :=
  ⟨hf.get h.box (by simp), h.F.trans hf.nil, h.own, h.nB, h.row.keep hf, h.l0.keep hf (by simp), h.l1.keep hf (by simp), h.ln, h.hB⟩
theorem Fk.lit0 (h : Fk w5 W B a b c sz y st r old none l1) : Fk w5 (W.alloc (.cells #[.int .i64 0] 3)) B a b c sz y st r old (some W.heap.size) l1 := by
  have h1 := h.keep ((Fr.refl [] W).alloc (.cells #[.int .i64 0] 3))
  exact ⟨h1.box, h1.F, h1.own, h1.nB, h1.row, FkLit.new 0 h.F.size, h1.l1, h.ln, h.hB⟩
theorem Fk.lit1 (h : Fk w5 W B a b c sz y st r old l0 none) : Fk w5 (W.alloc (.cells #[.int .i64 y] 3)) B a b c sz y st r old l0 (some W.heap.size) := by
  have h1 := h.keep ((Fr.refl [] W).alloc (.cells #[.int .i64 y] 3))
  exact ⟨h1.box, h1.F, h1.own, h1.nB, h1.row, h1.l0, FkLit.new y h.F.size, h.ln, h.hB⟩
theorem Fk.oldlt (h : Fk w5 W B a b c sz y st r old l0 l1) : ∀ g ∈ old.ownBlock.toList, g < w5.heap.size := fun g hg => (h.own.ge g (by simpa using hg)).2
theorem Fk.app0 (h : Fk w5 W B a b c sz y 0 old old l0 l1) {r' : Value} (h1 : Own W' 0 3 r' (sz ++ [0])) (hg : W.grownBy W' old.ownBlock) : Fk w5 W' B a b c sz y 1 r' old l0 l1 := by
  have hf := fr_grown hg
  exact ⟨hf.get h.box (by simpa using h.nB), h.F.trans hf, h.own, h.nB, h1, h.l0.keep hf h.oldlt, h.l1.keep hf h.oldlt, h.ln, h.hB⟩
theorem Fk.setC (h : Fk w5 W B a b c sz y 1 r old l0 l1) : Calls Tryd.prog 20 #[r, .int .i64 (sz.length : Nat), .int .i64 0] W fun e W' =>
    ∃ g cap, e = .returned (.slice (some ⟨g, 0, none⟩) (sz.length + 1) cap) ∧ sz.length ≤ cap ∧ Fk w5 W' B a b c sz y 2 (.slice (some ⟨g, 0, none⟩) (sz.length + 1) cap) old l0 l1 := by
  have hr : Own W 0 3 r (sz ++ [0]) := h.row
  obtain ⟨g0, _, hs⟩ := hr.sl
  have hln := h.ln
  refine (set_own W r g0 (sz ++ [0]) sz.length 0 hs (by simp) (by simp; omega)).mono fun e W' hp => ?_
  obtain ⟨v', rfl, ho, hf⟩ := hp
  rw [show (sz ++ [(0 : Int)]).set sz.length 0 = sz ++ [0] from by rw [List.set_append_right _ _ (Nat.le_refl _)]; simp] at ho
  obtain ⟨h1, h2⟩ := ho
  rcases h2 with ⟨_, hn⟩ | ⟨g, cap, cur, rfl, q⟩
  · simp at hn
  · have ho' : Own W' w5.heap.size 3 (.slice (some ⟨g, 0, none⟩) (sz ++ [(0 : Int)]).length cap) (sz ++ [0]) := Own.base (B := W.heap.size) ⟨h1, .inr ⟨g, cap, cur, rfl, q⟩⟩ h.F.size
    rw [show (sz ++ [(0 : Int)]).length = sz.length + 1 by simp] at ho' ⊢
    have hk := h.keep hf
    exact ⟨g, cap, rfl, ho'.first.2, hk.box, hk.F, hk.own, hk.nB, ho', hk.l0, hk.l1, hk.ln, hk.hB⟩
theorem Fk.cut {g cap m : Nat} (h : Fk w5 W B a b c sz y 2 (.slice (some ⟨g, 0, none⟩) m cap) old l0 l1) : Fk w5 W B a b c sz y 3 (.slice (some ⟨g, 0, none⟩) sz.length cap) old l0 l1 :=
  ⟨h.box, h.F, h.own, h.nB, (Own.first (xs := sz) (ys := [0]) h.row).1, h.l0, h.l1, h.ln, h.hB⟩
theorem Fk.app1 (h : Fk w5 W B a b c sz y 3 r old l0 l1) {r' : Value} (h1 : Own W' w5.heap.size 3 r' (sz ++ [y])) (hg : W.grownBy W' r.ownBlock) : FxX W' B a b c ∧ Fr old.ownBlock.toList w5 W' ∧ Own W' w5.heap.size 3 r' (sz ++ [y]) := by
  have hr : Own W w5.heap.size 3 r sz := h.row
  have hge := hr.ge
  have hB := h.hB
  exact ⟨(fr_grown hg).get h.box (fun hm => by have := (hge B (by simpa using hm)).1; omega), h.F.grown hg (fun g e => .inr (hge g e).1), h1⟩
end
end Go.Proofs.YtmgalnkcpolafaaDoor
