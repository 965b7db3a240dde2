/- The contract of platterholdref1.Set: a row of the call's own, one number another. -/

import Derived.Test.YtokbhiokcoldbaaDoorCq02
namespace Go.Proofs.YtokbhiokcoldbaaDoor
open Go.RowKit

set_option maxRecDepth 100000 in
theorem set_own (w : World) (v : Value) (g : Nat) (xs : List Int) (i : Nat) (x : Int) (h : Sl w v g xs) (hi : i < xs.length) (hb : xs.length ≤ 1000000) :
    Calls Tryd.prog 47 #[v, .int .i64 i, .int .i64 x] w fun e w' => ∃ v', e = .returned v' ∧ Own w' w.heap.size 3 v' (xs.set i x) ∧ Fr [] w w' := by
  obtain ⟨i0, hi0, hz0, hz1, hz2⟩ := info_parts Tryd.info_int
  obtain ⟨A, o, c, rfl, _, hA, hc⟩ := h.form
  clear h
  obtain rfl := hA (by omega)
  have H3 := Lib.hid hc
  have hown := World.ownsRow_nil w w.heap.size 3 1
  have hi2 : (i : Int) < xs.length := by omega
  have hi3 : (0 : Int) ≤ i := by omega
  clear hc hA
  go_enter Tryd.func47, Tryd.ntmps47
  go_wp2_with (at_builtin; refine wpList_append_own _ rfl _ _ 25 rfl w.heap.size 3 i0 (.int .i64 0) 1 8 Tryd.underlying25 hi0 hz0 hz1 hz2 rfl (by decide) _ _ _ rfl hown ⟨g, o, none⟩ xs.length c (xs.map (Value.int .i64)) rfl (by simp) ?c1 ?c2 ?c3 ?c4 ?c5 ?_)
  case c1 =>
    intro j u hu
    have hj : j < xs.length := by simpa using (List.getElem?_eq_some_iff.1 hu).1
    rw [Addr.add_lit]
    have := H3.out j hj
    simp [hj] at hu
    rw [this, ← hu]
    simp [nth, List.getD, hj]
  case c2 => exact ints_one (l := xs)
  case c3 => unfold maxLen; omega
  case c4 => omega
  case c5 => simp
  intro v' w1 hown1 hgr _
  have hO : Hid (Own w1 w.heap.size 3 v' xs) := by
    show World.ownsRow _ _ _ _ _ _ _
    simpa using hown1
  have hF : Hid (Fr [] w w1) := (Fr.refl [] w).grown hgr (by simp [Value.ownBlock])
  clear hown1 hgr hown
  have hrow : ∃ gg cap cur, v' = .slice (some ⟨gg, 0, none⟩) xs.length cap ∧ w.heap.size ≤ gg ∧ w1.heap[gg]? = some (.cells cur 3 (0, 0)) ∧ xs.length ≤ cap ∧ cap ≤ maxLen ∧ cur.size = cap ∧ cur.toList.take xs.length = xs.map (Value.int .i64) := by
    obtain ⟨hl, hh⟩ := hO.out
    rcases hh with ⟨_, hn⟩ | ⟨gg, cap, cur, rfl, hb, hg, hc, hm, hs, ht⟩
    · omega
    · exact ⟨gg, cap, cur, rfl, hb, hg, hc, hm, by simpa using hs, by simpa using ht⟩
  obtain ⟨gg, cap, cur, rfl, hgg, hblk, hcap, hmax, hcz, hcur⟩ := hrow
  have HCZ := Lib.hid hcz
  clear hcz
  have hsz : xs.length ≤ cur.size := by
    have := congrArg List.length hcur
    simp at this
    omega
  have hfz := free_block hblk i none
  have hcell : w1.cell? ⟨gg, i, none⟩ = some (.int .i64 (nth xs i)) := by
    rw [cell_of_row w1 gg i cur _ _ hblk]
    have h1 : cur.toList[i]? = (xs.map (Value.int .i64))[i]? := by rw [← hcur, List.getElem?_take, if_pos hi]
    simpa [hi, nth, List.getD] using h1
  have HB := Lib.hid hblk
  have HC := Lib.hid hcur
  have HX := Lib.hid (And.intro hgg (And.intro hcap hmax))
  clear hblk hcur hO hgg hcap hmax
  go_wp2
  go_ret
  refine ⟨_, rfl, ⟨by simp, .inr ⟨gg, cap, _, by rw [List.length_set]; rfl, HX.out.1, set_block HB.out _, by rw [List.length_set]; exact HX.out.2.1, HX.out.2.2, by rw [Array.size_setIfInBounds, HCZ.out, Nat.mul_one], ?_⟩⟩, hF.out.step ((Fr.refl [gg] w1).setCell (.inl (by simp)) _) (fun y hy => .inr (by simp only [List.mem_singleton] at hy; subst hy; exact HX.out.1))⟩
  rw [List.length_set, Nat.mul_one, Array.toList_setIfInBounds, List.take_set, HC.out, List.map_set]
end Go.Proofs.YtokbhiokcoldbaaDoor
/- 'out = append(out, xs...)' for a row of integers that the call owns; a copy with one number more. -/
namespace Go.Proofs.YtokbhiokcoldbaaDoor
open Go.RowKit
section
variable {P : Program} {w : World} {e : TypeId}
theorem run_append_emptyI (base : Nat) (t ty : TypeId) (i : TypeInfo) (size : Nat) (ht : P.underlying t = some (.slice e)) (hi : P.info? e = some i)
    (v : Value) (n : Nat) (xs : List Value) (hown : w.ownsRow base e size v n xs) (A : Option Addr) (c : Nat) :
    (Builtin.append_ #[t, t] ty #[v, .slice A 0 c]).run P w = .ok v w := by
  rcases hown.2 with ⟨rfl, rfl⟩ | ⟨g, cap, cur, rfl, _, _, hnc, _⟩
  · cases A <;> simp [Builtin.append_, run_underlying ht, sizeOf, typeInfo, hi, Builtin.lenOf, Builtin.firstCells, loadCells, loadCellsFrom]
  · cases A <;> simp [Builtin.append_, run_underlying ht, sizeOf, typeInfo, hi, Builtin.lenOf, Builtin.firstCells, hnc, storeCells, loadCells, loadCellsFrom]
theorem wpList_spread_int {ops : Array Oper} {rest : List Oper} {o : Oper} {a : Act} {Q : Exit → Act → World → Prop} {t : TypeId} (hT : IntT P t e) (hgd : o.guard = none) (s x : Operand)
    (ho : o.op = .call { callee := .builtin .append, args := #[s, x], argTypes := #[t, t] })
    (B : Nat) (v u : Value) (xs ys : List Int) (g : Nat) (hs : a.eval s = v) (hown : Own w B e v xs) (hx : a.eval x = u) (hm : Sl w u g ys) (hl : xs.length + ys.length < 1000000) (hB : B ≤ w.heap.size)
    (h : ∀ v' w', Own w' B e v' (xs ++ ys) → w.grownBy w' v.ownBlock → Below B w w' → wpList P ops Q rest (a.put o.dst v') w') : wpList P ops Q (o :: rest) a w := by
  obtain ⟨i0, hi, hz0, hz1, hz2⟩ := info_parts hT.hi
  rcases hm with ⟨rfl, A, c, rfl⟩ | ⟨oo, c, rfl, h1, h2, h3⟩
  · refine wpList_plain hgd fun _ hK => ?_
    have hr := run_append_emptyI (P := P) B t o.type i0 1 hT.ht hi v xs.length _ hown A c
    unfold Oper.wp execOp
    simp only [ho, resolve, invoke, builtin, Sem.run_bind, Sem.run_pure, Result.andThen_ok, List.map_toArray, List.map_cons, List.map_nil, hs, hx, hr]
    exact hK _ _ (h v w (by rw [List.append_nil]; exact hown) ⟨rfl, rfl, rfl, Nat.le_refl _, fun _ _ _ => rfl⟩ (Below.refl _ _))
  · refine wpList_append_own _ hgd s x t ho B e i0 (.int .i64 0) 1 8 hT.ht hi hz0 hz1 hz2 rfl (by decide) v xs.length _ hs hown ⟨g, oo, none⟩ ys.length c (ys.map (Value.int .i64)) hx (by simp) ?_ (ints_one (l := ys)) (by unfold maxLen; omega) (by omega) hB ?_
    · intro j u hu
      have hj : j < ys.length := by simpa using (List.getElem?_eq_some_iff.1 hu).1
      rw [Addr.add_lit]
      have := h3 j hj
      simp [hj] at hu
      rw [this, ← hu]
      simp [nth, List.getD, hj]
    · intro v' w' h1 h2 _
      refine h v' w' (by unfold Own; simpa using h1) h2 ⟨h2.os, h2.tape, h2.output, h2.size, fun k hk => h2.block k (by omega) (fun e => by have := hown.ge k e.symm; omega)⟩
end
theorem Own.form0 {w : World} {B e : Nat} {v : Value} {xs : List Int} (h : Own w B e v xs) : ∃ A c, v = .slice A xs.length c := by
  obtain ⟨_, h2⟩ := h
  rcases h2 with ⟨rfl, hn⟩ | ⟨g, cap, cur, rfl, _⟩
  · exact ⟨none, 0, by rw [hn]⟩
  · exact ⟨_, cap, rfl⟩
theorem Own.newRow {w w' : World} {B e : Nat} {v : Value} {xs : List Int} (h : Own w' B e v xs) (hB : w.heap.size ≤ B) (hf : Fr [] w w') : NewRow xs w (.returned v) w' := by
  obtain ⟨g, hg, hs⟩ := h.sl
  exact ⟨v, g, rfl, hg.imp (fun h => Nat.le_trans hB h) id, hs, hf⟩
end Go.Proofs.YtokbhiokcoldbaaDoor
