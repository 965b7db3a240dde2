/- 'out = append(out, xs...)' for a row of structs that the call owns. No program in sight. -/
import Derived.Test.YtokbhiokcoldbaaEnc
namespace Go.Proofs.Ytokbhiokcoldbaa
open Go.RowKit
section
variable {α : Type} {E : Enc α} {P : Program} {w : World} {e : TypeId}
theorem run_append_empty (base : Nat) (t ty : TypeId) (i : TypeInfo) (size : Nat) (ht : P.underlying t = some (.slice e)) (hi : P.info? e = some i)
    (v : Value) (n : Nat) (xs : List Value) (hown : w.ownsRow base e size v n xs) (A : Option Addr) (c : Nat) :
    (Builtin.append_ #[t, t] ty #[v, .slice A 0 c]).run P w = .ok v w := by
  rcases hown.2 with ⟨rfl, rfl⟩ | ⟨g, cap, cur, rfl, _, _, hnc, _⟩
  · cases A <;> simp [Builtin.append_, run_underlying ht, sizeOf, typeInfo, hi, Builtin.lenOf, Builtin.firstCells, loadCells, loadCellsFrom]
  · cases A <;> simp [Builtin.append_, run_underlying ht, sizeOf, typeInfo, hi, Builtin.lenOf, Builtin.firstCells, hnc, storeCells, loadCells, loadCellsFrom]
theorem wpList_spread_enc {ops : Array Oper} {rest : List Oper} {o : Oper} {a : Act} {Q : Exit → Act → World → Prop} {t : TypeId} {z : Value} {bytes : Nat} (ht : P.underlying t = some (.slice e))
    (hi : (P.info? e).map (fun i => (i.zero, i.size, i.bytes)) = some (some z, E.k, bytes)) (hz : z.cells.size = E.k) (hby : bytes ≤ 1000) (hgd : o.guard = none) (s x : Operand)
    (ho : o.op = .call { callee := .builtin .append, args := #[s, x], argTypes := #[t, t] })
    (B : Nat) (v u : Value) (l m : List α) (g : Nat) (hs : a.eval s = v) (hown : OwnR E w B e v l) (hx : a.eval x = u) (hm : SlR E w u g m) (hl : l.length + m.length < 1000000) (hB : B ≤ w.heap.size)
    (h : ∀ v' w', OwnR E w' B e v' (l ++ m) → w.grownBy w' v.ownBlock → Below B w w' → wpList P ops Q rest (a.put o.dst v') w') : wpList P ops Q (o :: rest) a w := by
  obtain ⟨i0, hi, hz0, hz1, hz2⟩ := info_parts hi
  rcases hm with ⟨rfl, A, c, rfl⟩ | ⟨oo, c, rfl, h1, h2, h3⟩
  · refine wpList_plain hgd fun _ hK => ?_
    have hr := run_append_empty (P := P) B t o.type i0 E.k ht hi v l.length _ hown A c
    unfold Oper.wp execOp
    simp only [ho, resolve, invoke, builtin, Sem.run_bind, Sem.run_pure, Result.andThen_ok, List.map_toArray, List.map_cons, List.map_nil, hs, hx, hr]
    refine hK _ _ (h v w (by rw [List.append_nil]; exact hown) ⟨rfl, rfl, rfl, Nat.le_refl _, fun _ _ _ => rfl⟩ (Below.refl _ _))
  · refine wpList_append_own _ hgd s x t ho B e i0 z E.k bytes ht hi hz0 hz1 hz2 hz E.pos v l.length _ hs hown ⟨g, oo, none⟩ m.length c (E.cells m) hx (E.cells_len m) ?_ ?_ (by unfold maxLen; omega) ?_ hB ?_
    · intro j y hj
      have hjl : j < m.length * E.k := by
        rw [← E.cells_len m]
        exact (List.getElem?_eq_some_iff.1 hj).1
      have hk := E.pos
      have hdiv : j / E.k < m.length := Nat.div_lt_of_lt_mul (by rw [Nat.mul_comm]; exact hjl)
      have hmod := Nat.mod_lt j hk
      have hdm : j / E.k * E.k + j % E.k = j := by rw [Nat.mul_comm]; exact Nat.div_add_mod j E.k
      have hc := h3 (j / E.k) hdiv (j % E.k) hmod
      rw [← E.cells_get m (j / E.k) (j % E.k) hdiv hmod, hdm, hj] at hc
      rw [← hc]
      have hadd : (⟨g, oo, none⟩ : Addr).add j = ⟨g, oo + j, none⟩ := by unfold Addr.add; split <;> simp_all
      rw [hadd, Nat.add_assoc, hdm]
    · intro y hy
      obtain ⟨x, hx, hy⟩ := List.mem_flatMap.1 hy
      exact E.one x y hy
    · have := Nat.mul_le_mul (show l.length + m.length ≤ 1000000 by omega) hby
      omega
    · intro v' w' h1 h2 _
      refine h v' w' ?_ h2 ⟨h2.os, h2.tape, h2.output, h2.size, fun k hk => h2.block k (by omega) (fun e => by have := hown.ge k e.symm; omega)⟩
      unfold OwnR
      rw [E.cells_append, List.length_append]
      exact h1
end
end Go.Proofs.Ytokbhiokcoldbaa
