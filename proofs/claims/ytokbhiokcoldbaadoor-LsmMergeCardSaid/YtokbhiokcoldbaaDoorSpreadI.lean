/- 'out = append(out, xs...)' for a row of integers that the call owns; a copy with one number more. -/
import Derived.Test.YtokbhiokcoldbaaDoorCommon
namespace Go.Proofs.YtokbhiokcoldbaaDoor
open Go.RowKit
section
variable {P : Program} {w : World} {e : TypeId}
theorem run_append_emptyI (base : Nat) (t ty : TypeId) (i : TypeInfo) (size : Nat) (ht : P.underlying t = some (.slice e)) (hi : P.info? e = some i)
    (v : Value) (n : Nat) (xs : List Value) (hown : w.ownsRow base e size v n xs) (A : Option Addr) (c : Nat) :
    (Builtin.append_ #[t, t] ty #[v, .slice A 0 c]).run P w = .ok v w := by
  rcases hown.2 with ⟨rfl, rfl⟩ | ⟨g, cap, cur, rfl, _, _, hnc, _⟩
  · cases A <;> simp [Builtin.append_, run_underlying ht, sizeOf, typeInfo, hi, Builtin.lenOf, Builtin.firstCells, loadCells, loadCellsFrom]
  · cases A <;> simp [Builtin.append_, run_underlying ht, sizeOf, typeInfo, hi, Builtin.lenOf, Builtin.firstCells, hnc, storeCells, loadCells, loadCellsFrom]
theorem wpList_spread_int {ops : Array Oper} {rest : List Oper} {o : Oper} {a : Act} {Q : Exit → Act → World → Prop} {t : TypeId} (hT : IntT P t e) (hgd : o.guard = none) (s x : Operand)
    (ho : o.op = .call { callee := .builtin .append, args := #[s, x], argTypes := #[t, t] })
    (B : Nat) (v u : Value) (xs ys : List Int) (g : Nat) (hs : a.eval s = v) (hown : Own w B e v xs) (hx : a.eval x = u) (hm : Sl w u g ys) (hl : xs.length + ys.length < 1000000) (hB : B ≤ w.heap.size)
    (h : ∀ v' w', Own w' B e v' (xs ++ ys) → w.grownBy w' v.ownBlock → Below B w w' → wpList P ops Q rest (a.put o.dst v') w') : wpList P ops Q (o :: rest) a w := by
  obtain ⟨i0, hi, hz0, hz1, hz2⟩ := info_parts hT.hi
  rcases hm with ⟨rfl, A, c, rfl⟩ | ⟨oo, c, rfl, h1, h2, h3⟩
  · refine wpList_plain hgd fun _ hK => ?_
    have hr := run_append_emptyI (P := P) B t o.type i0 1 hT.ht hi v xs.length _ hown A c
    unfold Oper.wp execOp
    simp only [ho, resolve, invoke, builtin, Sem.run_bind, Sem.run_pure, Result.andThen_ok, List.map_toArray, List.map_cons, List.map_nil, hs, hx, hr]
    exact hK _ _ (h v w (by rw [List.append_nil]; exact hown) ⟨rfl, rfl, rfl, Nat.le_refl _, fun _ _ _ => rfl⟩ (Below.refl _ _))
  · refine wpList_append_own _ hgd s x t ho B e i0 (.int .i64 0) 1 8 hT.ht hi hz0 hz1 hz2 rfl (by decide) v xs.length _ hs hown ⟨g, oo, none⟩ ys.length c (ys.map (Value.int .i64)) hx (by simp) ?_ (ints_one (l := ys)) (by unfold maxLen; omega) (by omega) hB ?_
    · intro j u hu
      have hj : j < ys.length := by simpa using (List.getElem?_eq_some_iff.1 hu).1
      rw [Addr.add_lit]
      have := h3 j hj
      simp [hj] at hu
      rw [this, ← hu]
      simp [nth, List.getD, hj]
    · intro v' w' h1 h2 _
      refine h v' w' (by unfold Own; simpa using h1) h2 ⟨h2.os, h2.tape, h2.output, h2.size, fun k hk => h2.block k (by omega) (fun e => by have := hown.ge k e.symm; omega)⟩
end
theorem Own.form0 {w : World} {B e : Nat} {v : Value} {xs : List Int} (h : Own w B e v xs) : ∃ A c, v = .slice A xs.length c := by
  obtain ⟨_, h2⟩ := h
  rcases h2 with ⟨rfl, hn⟩ | ⟨g, cap, cur, rfl, _⟩
  · exact ⟨none, 0, by rw [hn]⟩
  · exact ⟨_, cap, rfl⟩
theorem Own.newRow {w w' : World} {B e : Nat} {v : Value} {xs : List Int} (h : Own w' B e v xs) (hB : w.heap.size ≤ B) (hf : Fr [] w w') : NewRow xs w (.returned v) w' := by
  obtain ⟨g, hg, hs⟩ := h.sl
  exact ⟨v, g, rfl, hg.imp (fun h => Nat.le_trans hB h) id, hs, hf⟩
end Go.Proofs.YtokbhiokcoldbaaDoor
