/- LsmPlays: the program's store and the document's struct side by side. -/

import Derived.Test.YtokbhiokcoldbaaDoorLqM02
import Derived.Test.YtokbhiokcoldbaaDoorLqM23
namespace Go.Proofs.YtokbhiokcoldbaaDoor
open Go.RowKit

section
variable {G : Nat → Prop} {w w' : World} {v : Value} {xs : List Int} {ts : List (List Int)} {g c : Nat} {vs : List SlV}
theorem RowH.keep (h : RowH G w v xs) (hk : ∀ g, g < w.heap.size → G g → w'.heap[g]? = w.heap[g]?) : RowH G w' v xs := by
  obtain ⟨g, hg, hs⟩ := h
  by_cases hx : xs = []
  · exact ⟨g, .inr hx, sl_nil_any hs hx⟩
  · have hgg := hg.resolve_right hx
    have hlt := RowH.lt hs hx
    refine ⟨g, .inl hgg, ?_⟩
    rcases hs with h1 | ⟨o, c, h0, h1, h2, h3⟩
    · exact .inl h1
    · exact .inr ⟨o, c, h0, h1, h2, fun i hi => (World.cell?_of_block (hk g hlt hgg)).trans (h3 i hi)⟩
theorem TbH.keep (h : TbH G w v ts) (hk : ∀ g, g < w.heap.size → G g → w'.heap[g]? = w.heap[g]?) : TbH G w' v ts := by
  obtain ⟨g, c, vs, e, h⟩ := h
  exact ⟨g, c, vs, e, h.gg, h.pos, h.cap, h.len, fun j hj => (World.cell?_of_block (hk g h.lt h.gg)).trans (h.cell j hj), fun j hj => (h.row j hj).keep hk⟩
end
/-- The blocks of the document's rows: none of the store's, nor the variable's. -/
def LqG (P : Nat → Prop) (X g : Nat) : Prop := ¬ P g ∧ g ≠ X
/-- The program's store (block b, blocks P, model m), the document's struct in the variable X (model mr). -/
structure LqS (w wr : World) (P : Nat → Prop) (b X : Nat) (m mr : Ls.M) : Prop where
  lsm : LsI w wr P b m
  ref : ∃ gk ck gv cv, LqX wr X (.slice (some ⟨gk, 0, none⟩) (mr.runs.length + 1) ck) (.slice (some ⟨gv, 0, none⟩) (mr.runs.length + 1) cv) mr.many ∧ TbH (LqG P X) wr (.slice (some ⟨gk, 0, none⟩) (mr.runs.length + 1) ck) (Ls.ksOf mr) ∧ TbH (LqG P X) wr (.slice (some ⟨gv, 0, none⟩) (mr.runs.length + 1) cv) (Ls.vsOf mr)
  np : ¬ P X
  ge : w.heap.size ≤ X
section
variable {w wr w' : World} {P : Nat → Prop} {b X : Nat} {m m' mr mr' : Ls.M} {v : Value} {e : Ending}
theorem LqS.lt (h : LqS w wr P b X m mr) : X < wr.heap.size := by
  obtain ⟨gk, ck, gv, cv, hx, -, -⟩ := h.ref
  exact lt_of_heap hx
theorem LqS.new (h : LqS w wr P b X m mr) : ∀ k, wr.heap.size ≤ k → LqG P X k := fun k hk => ⟨fun hp => by have := (h.lsm.hP k hp).2; omega, by have := h.lt; omega⟩
theorem LqS.step (h : LqS w wr P b X m mr) (hf : Fr [] wr w') : LqS w w' P b X m mr := by
  obtain ⟨gk, ck, gv, cv, hx, h1, h2⟩ := h.ref
  exact ⟨h.lsm.step hf, ⟨gk, ck, gv, cv, hf.get hx (by simp), h1.step hf, h2.step hf⟩, h.np, h.ge⟩
theorem LqS.turn (h : LqS w wr P b X m mr) (hO : Ls.OK m') (ha : LsAns P b v m' wr e w') : e = .returned v ∧ LqS w w' (Nx P wr w') b X m' mr := by
  obtain ⟨h1, h2, h3⟩ := h.lsm.turn hO ha
  obtain ⟨gk, ck, gv, cv, hx, k1, k2⟩ := h.ref
  have hG : ∀ g, g < wr.heap.size → LqG P X g → LqG (Nx P wr w') X g := fun g hg hq => ⟨fun hp => hp.1.elim hq.1 (fun hn => by omega), hq.2⟩
  have hk : ∀ g, g < wr.heap.size → LqG (Nx P wr w') X g → w'.heap[g]? = wr.heap[g]? := fun g hg hq => h3.block g hg (fun hp => hq.1 ⟨.inl hp, Nat.lt_of_lt_of_le hg h3.size⟩)
  refine ⟨h1, h2, ⟨gk, ck, gv, cv, (h3.block X h.lt h.np).trans hx, (k1.mono hG).keep hk, (k2.mono hG).keep hk⟩, fun hp => hp.1.elim h.np (fun hn => by have := h.lt; omega), h.ge⟩
/-- The variable holds another struct. -/
theorem LqS.put (h : LqS w wr P b X m mr) (hf : Fr [] wr w') {gk ck gv cv : Nat} (hv : LqV (LqG P X) w' (.agg #[.slice (some ⟨gk, 0, none⟩) (mr'.runs.length + 1) ck, .slice (some ⟨gv, 0, none⟩) (mr'.runs.length + 1) cv, .int .i64 (mr'.many : Int)]) mr') :
    LqS w (lqSet w' X (.slice (some ⟨gk, 0, none⟩) (mr'.runs.length + 1) ck) (.slice (some ⟨gv, 0, none⟩) (mr'.runs.length + 1) cv) mr'.many) P b X m mr' := by
  have hs := h.step hf
  obtain ⟨_, _, _, _, hx, -, -⟩ := hs.ref
  obtain ⟨h1, h2⟩ := lq_set w' X (.slice (some ⟨gk, 0, none⟩) (mr'.runs.length + 1) ck) (.slice (some ⟨gv, 0, none⟩) (mr'.runs.length + 1) cv) mr'.many hx
  obtain ⟨a, b', e0, k1, k2⟩ := hv
  simp only [Value.agg.injEq, Array.mk.injEq, List.cons.injEq] at e0
  obtain ⟨rfl, rfl, -⟩ := e0
  have hS : ∀ g ∈ [X], ¬ LqG P X g := fun g hg hq => hq.2 (by simpa using hg)
  have hP : FrP (· = X) w' (lqSet w' X (.slice (some ⟨gk, 0, none⟩) (mr'.runs.length + 1) ck) (.slice (some ⟨gv, 0, none⟩) (mr'.runs.length + 1) cv) mr'.many) := (FrP.refl _ w').step h2 (fun g hg => .inl (by simpa using hg))
  refine ⟨⟨hs.lsm.file.frP hP (fun k hk hc => hs.np (by subst hc; exact hk)), hs.lsm.ok, fun k hk => ⟨(hs.lsm.hP k hk).1, Nat.lt_of_lt_of_le (hs.lsm.hP k hk).2 h2.size⟩, hs.lsm.fr.step h2 (fun g hg => .inr (by simp only [List.mem_singleton] at hg; subst hg; exact h.ge))⟩, ⟨gk, ck, gv, cv, h1, k1.fr h2 hS, k2.fr h2 hS⟩, hs.np, hs.ge⟩
theorem LqS.fr (h : LqS w wr P b X m mr) : Fr [] w wr := h.lsm.fr
end
theorem LqS.start {w w0 w1 : World} {P : Nat → Prop} {b : Nat} {v : Value} (h : LsI w w0 P b Ls.new) (hv : LqV (w0.heap.size ≤ ·) w1 v Ls.new) (hf : Fr [] w0 w1) : ∃ gk ck gv cv, v = .agg #[.slice (some ⟨gk, 0, none⟩) 1 ck, .slice (some ⟨gv, 0, none⟩) 1 cv, .int .i64 0] ∧ LqS w (w1.alloc (.cells #[.slice (some ⟨gk, 0, none⟩) 1 ck, .slice (some ⟨gv, 0, none⟩) 1 cv, .int .i64 0] 73)) P b w1.heap.size Ls.new Ls.new := by
  obtain ⟨gk, ck, gv, cv, rfl, h1, h2⟩ := hv.form
  have fa : Fr [] w1 (w1.alloc (.cells #[.slice (some ⟨gk, 0, none⟩) 1 ck, .slice (some ⟨gv, 0, none⟩) 1 cv, .int .i64 0] 73)) := (Fr.refl _ _).alloc _
  have hG : ∀ g, g < w1.heap.size → w0.heap.size ≤ g → LqG P w1.heap.size g := fun g hg hq => ⟨fun hp => by have := (h.hP g hp).2; omega, by omega⟩
  refine ⟨gk, ck, gv, cv, rfl, (h.step hf).step fa, ⟨gk, ck, gv, cv, heap_alloc_new w1 _, (h1.mono hG).step fa, (h2.mono hG).step fa⟩, fun hp => by have := (h.hP _ hp).2; have := hf.size; omega, ?_⟩
  have := h.fr.size
  have := hf.size
  omega
end Go.Proofs.YtokbhiokcoldbaaDoor
/- LsmPlays: rows that the law itself gathers. -/
namespace Go.Proofs.YtokbhiokcoldbaaDoor
open Go.RowKit

namespace Ls
theorem tot_take : ∀ (ts : List (List E)) (i : Nat), ((ts.take i).map kys).flatten.length ≤ ts.flatten.length
  | [], i => by simp
  | t :: r, 0 => by simp
  | t :: r, i + 1 => by
    rw [List.take_succ_cons, List.map_cons, List.flatten_cons, List.flatten_cons, List.length_append, List.length_append, List.length_map]
    have := tot_take r i
    omega
theorem row_le {ts : List (List E)} {i : Nat} (h : i < ts.length) : (ts.getD i []).length ≤ ts.flatten.length := (List.sublist_flatten_of_mem (getD_mem ts i h)).length_le
theorem flat_next {ts : List (List E)} {i : Nat} (h : i < ts.length) : ((ts.take (i + 1)).map kys).flatten = ((ts.take i).map kys).flatten ++ kys (ts.getD i []) := by
  rw [List.take_add_one, List.getElem?_eq_getElem h, List.map_append, List.flatten_append]
  simp [List.getD, h]
theorem lens_take {m : M} {j : Nat} (h : j < m.runs.length) : (lens m).take (j + 1) = (lens m).take j ++ [((m.runs.getD j []).length : Int)] := by
  have h' : j < (lens m).length := by rw [lens_len]; exact h
  rw [List.take_add_one, List.getElem?_eq_getElem h']
  simp [lens, List.getD, h]
theorem kys_take {t : List E} {j : Nat} (h : j < t.length) : (kys t).take (j + 1) = (kys t).take j ++ [nth (kys t) j] := by
  have h' : j < (kys t).length := by simpa using h
  rw [List.take_add_one, List.getElem?_eq_getElem h']
  simp [nth, List.getD, h]
theorem gath_le {m : M} (h : OK m) (i j : Nat) (hi : i < (m.mem :: m.runs).length) : (gath (dGet (m.mem :: m.runs)) ((((m.mem :: m.runs).take i).map kys).flatten ++ (kys ((m.mem :: m.runs).getD i [])).take j)).length < 900000 := by
  have h1 := gath_len (dGet (m.mem :: m.runs)) ((((m.mem :: m.runs).take i).map kys).flatten ++ (kys ((m.mem :: m.runs).getD i [])).take j) []
  have h2 := tot_take (m.mem :: m.runs) i
  have h3 := row_le hi
  have h4 := h.tot
  have h5 := h.many
  have h6 : (m.mem :: m.runs).flatten.length ≤ 60 := by rw [List.flatten_cons, List.length_append]; omega
  have h7 : ((kys ((m.mem :: m.runs).getD i [])).take j).length ≤ ((m.mem :: m.runs).getD i []).length := by rw [List.length_take, List.length_map]; omega
  rw [List.length_append, List.length_nil] at h1
  unfold gath
  omega
theorem gath_all_len {m : M} (h : OK m) : (gath (dGet (m.mem :: m.runs)) ((m.mem :: m.runs).map kys).flatten).length < 900000 := by
  have h1 := gath_len (dGet (m.mem :: m.runs)) ((m.mem :: m.runs).map kys).flatten []
  have h2 := tot_take (m.mem :: m.runs) (m.mem :: m.runs).length
  rw [List.take_length] at h2
  have h4 := h.tot
  have h5 := h.many
  have h6 : (m.mem :: m.runs).flatten.length ≤ 60 := by rw [List.flatten_cons, List.length_append]; omega
  rw [List.length_nil] at h1
  unfold gath
  omega
end Ls
theorem sl_lt {w : World} {v : Value} {g : Nat} {xs : List Int} (h : Sl w v g xs) : g < w.heap.size ∨ xs = [] := by
  by_cases h0 : 0 < xs.length
  · obtain ⟨A, o, c, -, -, -, hc⟩ := h.form
    exact .inl (block_lt_of_cell (hc 0 h0))
  · exact .inr (List.eq_nil_of_length_eq_zero (by omega))
/-- A row of the law's own, gathered since wB. -/
structure Rg (wB wr : World) (v : Value) (l : List Int) : Prop where
  own : Own wr wB.heap.size 3 v l
  fr : Fr [] wB wr
theorem Rg.start (w : World) : Rg w w (.slice none 0 0) [] := ⟨Own.nil _ _ _, Fr.refl _ _⟩
theorem Rg.step {wB wr w' : World} {v : Value} {l : List Int} (h : Rg wB wr v l) (hf : Fr [] wr w') : Rg wB w' v l := ⟨h.own.kept hf (by simp), h.fr.trans hf⟩
theorem Rg.push {wB wr w' : World} {v v' : Value} {l l' : List Int} (h : Rg wB wr v l) (ho : Own w' wB.heap.size 3 v' l') (hb : Below wB.heap.size wr w') : Rg wB w' v' l' := ⟨ho, h.fr.below_step hb (Nat.le_refl _)⟩
/-- The tables of the document's struct, as they are read wherever nothing has turned. -/
theorem lq_rows {G : Nat → Prop} {wc : World} {gk ck : Nat} {m : Ls.M} (h : TbH G wc (.slice (some ⟨gk, 0, none⟩) (m.runs.length + 1) ck) (Ls.ksOf m)) (i : Nat) (hi : i < m.runs.length + 1) : ∃ A' c' g' o', (∀ W, Fr [] wc W → W.cell? ⟨gk, i, none⟩ = some (.slice A' ((m.mem :: m.runs).getD i []).length c')) ∧ ∀ j, j < ((m.mem :: m.runs).getD i []).length → A' = some ⟨g', o', none⟩ ∧ ∀ W, Fr [] wc W → W.cell? ⟨g', o' + j, none⟩ = some (.int .i64 (nth (Ls.kys ((m.mem :: m.runs).getD i [])) j)) := by
  obtain ⟨sk, -, hSk⟩ := h.op
  obtain ⟨A0, c0, q0, r0⟩ := hSk.at (j := i) (by simpa using hi)
  rw [ks_at] at q0 r0
  rw [List.length_map] at q0 r0
  obtain ⟨A, g, o, c, e, -, hA, hc⟩ := r0.form
  rw [List.length_map] at e hA hc
  injection e with e1 _ e3
  subst e1 e3
  exact ⟨A0, c0, g, o, fun W hW => hW.cell q0 (by simp), fun j hj => ⟨hA (by omega), fun W hW => hc W hW j hj⟩⟩
end Go.Proofs.YtokbhiokcoldbaaDoor

/- The contract of the laws' own 'in'. -/
namespace Go.Proofs.YtokbhiokcoldbaaDoor
open Go.RowKit

theorem in3_any (n lo hi : Int) (w : World) :
    Calls Tryd.prog 9 #[.int .i64 n, .int .i64 lo, .int .i64 hi] w fun e w' => e = .returned (.bool (decide (lo ≤ n ∧ n ≤ hi))) ∧ w = w' := by
  go_enter Tryd.func9, Tryd.ntmps9
  go_wp2
  all_goals (go_ret; refine ⟨?_, rfl⟩; congr; try simp; try omega)

theorem in3_is (n lo hi : Int) (b : Bool) (w : World) (h : decide (lo ≤ n ∧ n ≤ hi) = b) :
    Calls Tryd.prog 9 #[.int .i64 n, .int .i64 lo, .int .i64 hi] w fun e w' => e = .returned (.bool b) ∧ w' = w :=
  (in3_any n lo hi w).mono fun _ _ ⟨h1, h2⟩ => ⟨by rw [h1, h], h2.symm⟩
end Go.Proofs.YtokbhiokcoldbaaDoor

/- The contract of platterholdref1.Has. -/
namespace Go.Proofs.YtokbhiokcoldbaaDoor
open Go.RowKit

theorem has_yes {xs : List Int} {x : Int} {k : Nat} (hk : k < xs.length) (h : nth xs k = x) : hasB xs x = true := by
  unfold hasB
  rw [List.contains_iff_mem, ← h]
  exact getD_mem hk
theorem has_no {xs : List Int} {x : Int} (h : ∀ j, j < xs.length → nth xs j ≠ x) : hasB xs x = false := by
  unfold hasB
  cases e : xs.contains x
  · rfl
  · exact absurd (List.contains_iff_mem.1 e) (not_mem_of h)
theorem has_any (w : World) (v : Value) (g : Nat) (xs : List Int) (x : Int) (h : Sl w v g xs) :
    Calls Tryd.prog 21 #[v, .int .i64 x] w fun e w' => e = .returned (.bool (hasB xs x)) ∧ w = w' := by
  obtain ⟨A, o, c, rfl, hm, hA, hc⟩ := h.form
  clear h
  have HA := Lib.hid hA
  have HC := Lib.hid hc
  clear hA hc
  go_enter Tryd.func21, Tryd.ntmps21
  go_wp2
  go_loop [5] (fun i => ∃ k : Nat, k ≤ xs.length ∧ i = .int .i64 k ∧ Hid (∀ j, j < k → nth xs j ≠ x)) (fun i => xs.length - (intOf i).toNat)
  case atStart => exact ⟨0, Nat.zero_le _, rfl, fun j hj => absurd hj (Nat.not_lt_zero _)⟩
  case round =>
    obtain ⟨k, hk, rfl, hno⟩ := hrel
    by_cases hlt : k < xs.length
    · obtain rfl := HA.out (by omega)
      have hcell := HC.out k hlt
      by_cases he : nth xs k = x
      · have eB : (nth xs k == x) = true := by simpa using he
        have HE := Lib.hid (has_yes hlt he)
        clear he
        go_wp2
        go_ret
        exact ⟨ret_bool HE.out.symm, rfl⟩
      · have eB : (nth xs k == x) = false := by simpa using he
        have HE := Lib.hid he
        clear he
        go_wp2
        go_round
        case rel =>
          refine ⟨k + 1, by omega, by go_num, fun j hj => ?_⟩
          by_cases hjk : j = k
          · subst hjk; exact HE.out
          · exact hno.out j (by omega)
        case measure => simp [intOf]; omega
    · have HE := Lib.hid (has_no (fun j (hj : j < xs.length) => hno.out j (by omega)))
      go_wp2
      go_ret
      exact ⟨ret_bool HE.out.symm, rfl⟩
end Go.Proofs.YtokbhiokcoldbaaDoor
