/- The document's answer for package btree: with, NewTree. -/

import Derived.Test.YtokbhiokcoldbaaDoorBq02
import Derived.Test.YtokbhiokcoldbaaDoorBq15
namespace Go.Proofs.YtokbhiokcoldbaaDoor
open Go.RowKit

theorem bq_three (w : World) (o0 o1 o2 : Obj) : Fr [] w (((w.alloc o0).alloc o1).alloc o2) ∧
    (((w.alloc o0).alloc o1).alloc o2).heap[w.heap.size]? = some o0 ∧ (((w.alloc o0).alloc o1).alloc o2).heap[w.heap.size + 1]? = some o1 ∧ (((w.alloc o0).alloc o1).alloc o2).heap[w.heap.size + 1 + 1]? = some o2 := by
  have h (a : World) (o p : Obj) {k : Nat} (hk : a.heap[k]? = some p) : (a.alloc o).heap[k]? = some p := ((Fr.refl [] a).alloc o).get hk (by simp)
  have n1 := heap_alloc_new (w.alloc o0) o1
  have n2 := heap_alloc_new ((w.alloc o0).alloc o1) o2
  simp only [World.size_alloc] at n1 n2
  exact ⟨(((Fr.refl [] w).alloc _).alloc _).alloc _, h _ _ _ (h _ _ _ (heap_alloc_new w o0)), h _ _ _ n1, n2⟩
theorem lq_two' (w : World) (o0 o1 : Obj) : ((w.alloc o0).alloc o1).heap.size = w.heap.size + 2 ∧ Fr [] w ((w.alloc o0).alloc o1) ∧
    ((w.alloc o0).alloc o1).heap[w.heap.size]? = some o0 ∧ ((w.alloc o0).alloc o1).heap[w.heap.size + 1]? = some o1 := by
  have h (a : World) (o p : Obj) {k : Nat} (hk : a.heap[k]? = some p) : (a.alloc o).heap[k]? = some p := ((Fr.refl [] a).alloc o).get hk (by simp)
  have n1 := heap_alloc_new (w.alloc o0) o1
  simp only [World.size_alloc] at n1
  exact ⟨by simp, ((Fr.refl [] w).alloc _).alloc _, h _ _ _ (heap_alloc_new w o0), n1⟩
theorem nd_set {ns : List Bt.Nn} {i j : Nat} {n : Bt.Nn} (hi : i < ns.length) : Bt.nd (ns.set i n) j = if i = j then n else Bt.nd ns j := by
  unfold Bt.nd
  rw [List.getD_eq_getElem?_getD, List.getElem?_set, List.getD_eq_getElem?_getD]
  by_cases e : i = j
  · subst e
    rw [if_pos rfl, if_pos hi, if_pos rfl]
    rfl
  · rw [if_neg e, if_neg e]
theorem nd_app {ns : List Bt.Nn} {j : Nat} {n : Bt.Nn} : Bt.nd (ns ++ [n]) j = if j = ns.length then n else Bt.nd ns j := by
  unfold Bt.nd
  rw [List.getD_eq_getElem?_getD, List.getD_eq_getElem?_getD]
  by_cases e : j = ns.length
  · subst e
    rw [if_pos rfl]
    simp
  · rw [if_neg e]
    by_cases h : j < ns.length
    · rw [List.getElem?_append_left h]
    · rw [List.getElem?_eq_none (by simp; omega), List.getElem?_eq_none (by omega)]
/-- A node set in a row of nodes that the call owns. -/
theorem bq_rows_set {G : Nat → Prop} {w : World} {vs : List (SlV × SlV)} {ns : List Bt.Nn} (hl : vs.length = ns.length) (hr : ∀ j (h : j < vs.length), RowH G w vs[j].1.val (Bt.nd ns j).1 ∧ RowH G w vs[j].2.val (Bt.nd ns j).2) {i : Nat} (hi : i < ns.length) {s s' : SlV} {n : Bt.Nn} (hs : RowH G w s.val n.1) (hs' : RowH G w s'.val n.2) :
    ∀ j (h : j < (vs.set i (s, s')).length), RowH G w (vs.set i (s, s'))[j].1.val (Bt.nd (ns.set i n) j).1 ∧ RowH G w (vs.set i (s, s'))[j].2.val (Bt.nd (ns.set i n) j).2 := fun j hj => by
  have hj' : j < vs.length := by simpa using hj
  rw [List.getElem_set, nd_set hi]
  by_cases e : i = j
  · rw [if_pos e, if_pos e]; exact ⟨hs, hs'⟩
  · rw [if_neg e, if_neg e]; exact hr j hj'
theorem bq_rows_app {G : Nat → Prop} {w : World} {vs : List (SlV × SlV)} {ns : List Bt.Nn} (hl : vs.length = ns.length) (hr : ∀ j (h : j < vs.length), RowH G w vs[j].1.val (Bt.nd ns j).1 ∧ RowH G w vs[j].2.val (Bt.nd ns j).2) {s s' : SlV} {n : Bt.Nn} (hs : RowH G w s.val n.1) (hs' : RowH G w s'.val n.2) :
    ∀ j (h : j < (vs ++ [(s, s')]).length), RowH G w (vs ++ [(s, s')])[j].1.val (Bt.nd (ns ++ [n]) j).1 ∧ RowH G w (vs ++ [(s, s')])[j].2.val (Bt.nd (ns ++ [n]) j).2 := fun j hj => by
  rw [nd_app]
  by_cases e : j = ns.length
  · subst e
    rw [if_pos rfl, List.getElem_append_right (by omega)]
    simp [hl]
    exact ⟨hs, hs'⟩
  · have hj' : j < vs.length := by simp at hj; omega
    rw [if_neg e, List.getElem_append_left hj']
    exact hr j hj'
/-- The cells of an own row of nodes: where it lies, that they may be stored to. -/
theorem own_nodes {w : World} {B t : Nat} {v : Value} {vs : List (SlV × SlV)} (h : OwnR ndE w B t v vs) (hp : 0 < vs.length) : ∃ g c, v = .slice (some ⟨g, 0, none⟩) vs.length c ∧ B ≤ g ∧ (∀ j, w.frozen? ⟨g, j, none⟩ = false) ∧ ∀ j, j < vs.length → ∃ x y, w.cell? ⟨g, j * 2, none⟩ = some x ∧ w.cell? ⟨g, j * 2 + 1, none⟩ = some y := by
  rcases h.2 with ⟨rfl, hn⟩ | ⟨g, cap, cur, rfl, hb, hg, hc, hm, hs, ht⟩
  · omega
  · refine ⟨g, cap, rfl, hb, fun j => free_block hg j none, fun j hj => ?_⟩
    have h1 : cur.size = cap * 2 := hs
    exact ⟨cur[j * 2]'(by omega), cur[j * 2 + 1]'(by omega), by rw [cell_of_row _ g _ cur _ _ hg]; simp [show j * 2 < cur.size by omega], by rw [cell_of_row _ g _ cur _ _ hg]; simp [show j * 2 + 1 < cur.size by omega]⟩
theorem own_litN (w : World) (t : Nat) (s s' : SlV) : OwnR ndE (w.alloc (.cells #[s.val, s'.val] t)) w.heap.size t (.slice (some ⟨w.heap.size, 0, none⟩) 1 1) [(s, s')] :=
  ⟨by simp [Enc.cells, ndE], .inr ⟨w.heap.size, 1, #[s.val, s'.val], rfl, Nat.le_refl _, heap_alloc_new w _, by simp, by decide, by simp [ndE], by simp [Enc.cells, ndE]⟩⟩
/-- The row 'out' of the call. -/
structure BqO (G : Nat → Prop) (W0 wc : World) (g d : Nat) (vs : List (SlV × SlV)) (ms : List Bt.Nn) : Prop where
  own : OwnR ndE wc W0.heap.size 54 (.slice (some ⟨g, 0, none⟩) ms.length d) vs
  len : vs.length = ms.length
  row : ∀ j (h : j < vs.length), RowH G W0 vs[j].1.val (Bt.nd ms j).1 ∧ RowH G W0 vs[j].2.val (Bt.nd ms j).2
  fr : Fr [] W0 wc
set_option maxRecDepth 100000 in
set_option maxHeartbeats 4000000 in
theorem bq_with (w : World) (G : Nat → Prop) (v : Value) (q : Bt.Qt) (i : Nat) (n : Bt.Nn) (A : Option Addr) (c1 : Nat) (B : Option Addr) (c2 : Nat) (hv : BqV G w v q) (hk : RowH G w (.slice A n.1.length c1) n.1) (hc : RowH G w (.slice B n.2.length c2) n.2) (hi : i ≤ q.ns.length) (hl : q.ns.length ≤ 1000) (hG : ∀ k, w.heap.size ≤ k → G k) :
    Calls Tryd.prog 62 #[v, .int .i64 i, .agg #[.slice A n.1.length c1, .slice B n.2.length c2]] w (BqA G ⟨Bt.withN q.ns i n, q.root⟩ w) := by
  obtain ⟨g, c, rfl, hT⟩ := hv.form
  obtain ⟨f3, y0, y1, y2⟩ := bq_three w (.cells #[.slice (some ⟨g, 0, none⟩) q.ns.length c, .int .i64 (q.root : Int)] 47) (.cells #[.slice A n.1.length c1, .slice B n.2.length c2] 54) (.cells #[.slice none 0 0, .int .i64 0] 47)
  have HU : Hid (BqW G w _ w.heap.size (w.heap.size + 1 + 1) (.slice (some ⟨g, 0, none⟩) q.ns.length c) q.ns q.root) := ⟨y0, y2, (hT.mono (fun g hg h => ⟨h, by omega, by omega⟩)).step f3, f3, hG, ⟨Nat.le_refl _, by omega⟩, by omega⟩
  have HY := Lib.hid y1
  have HK : Hid (RowH (fun g => G g ∧ g ≠ w.heap.size ∧ g ≠ w.heap.size + 1 + 1) _ (.slice A n.1.length c1) n.1) := (hk.mono (fun g hg h => ⟨h, by omega, by omega⟩)).step f3
  have HC : Hid (RowH (fun g => G g ∧ g ≠ w.heap.size ∧ g ≠ w.heap.size + 1 + 1) _ (.slice B n.2.length c2) n.2) := (hc.mono (fun g hg h => ⟨h, by omega, by omega⟩)).step f3
  clear hv hT hk hc hG f3 y0 y1 y2
  go_enter Tryd.func62, Tryd.ntmps62
  go_upto_region 1 with (fail)
  revert HU HY HK HC
  generalize ((w.alloc (.cells #[.slice (some ⟨g, 0, none⟩) q.ns.length c, .int .i64 (q.root : Int)] 47)).alloc (.cells #[.slice A n.1.length c1, .slice B n.2.length c2] 54)).alloc (.cells #[.slice none 0 0, .int .i64 0] 47) = W0
  generalize w.heap.size + 1 + 1 = X2
  generalize w.heap.size + 1 = Y
  generalize w.heap.size = X
  intro HU HY HK HC
  obtain ⟨⟨b0, b1⟩, hfx⟩ := HU.out.cells
  have HYC : Hid (∀ W, Fr [] W0 W → W.cell? ⟨Y, 0, none⟩ = some (.slice A n.1.length c1) ∧ W.cell? ⟨Y, 1, none⟩ = some (.slice B n.2.length c2)) := fun W hW => by
    have := hW.get HY.out (by simp)
    constructor <;> rw [cell_of_row _ _ _ _ _ _ this] <;> rfl
  obtain ⟨vs, -, hS⟩ := HU.out.ta.op
  have HS := Lib.hid hS
  have HVL := Lib.hid hS.len
  have hpos := hS.pos
  clear hS
  go_upto_if 15 with (at_builtin; refine wpList_spread_enc (E := ndE) bq_und bq_info rfl (by decide) rfl _ _ rfl W0.heap.size _ _ [] vs g rfl OwnR.nil rfl HS.out.slR (by rw [HVL.out]; simp; omega) (Nat.le_refl _) ?_; intro v' w1 h1 _ h3; rw [List.nil_append] at h1; obtain ⟨g1, d1, hv1, -, -, -⟩ := own_nodes h1 (by rw [HVL.out]; exact hpos); rw [HVL.out] at hv1; subst hv1; have HF1 : Hid (Fr [] W0 w1) := Fr.of_below h3; have HO1 : Hid (BqO (fun g => G g ∧ g ≠ X ∧ g ≠ X2) W0 w1 g1 d1 vs q.ns) := ⟨h1, HVL.out, HS.out.row, HF1.out⟩; clear h1 h3)
  obtain ⟨y0, y1⟩ := HYC.out w1 HF1.out
  clear b0 b1 hfx
  go_cut [7] from 8 (fun u7 wc => ∃ g2 d2 vs2 ms, u7 = .slice (some ⟨g2, 0, none⟩) (ms : List Bt.Nn).length d2 ∧ Hid (BqO (fun g => G g ∧ g ≠ X ∧ g ≠ X2) W0 wc g2 d2 vs2 ms) ∧ Hid (ms.set i n = Bt.withN q.ns i n) ∧ i < ms.length ∧ ms.length ≤ 1001)
  case first =>
    by_cases hie : i = q.ns.length
    · have hb : ((i : Int) == q.ns.length) = true := beq_iff_eq.2 (by omega)
      have HMS : Hid ((q.ns ++ [n]).set i n = Bt.withN q.ns i n) := by show _ = _; rw [hie, Bt.withN_end]; simp
      have HIE := Lib.hid hie
      clear hie
      go_wp2_with (at_builtin; refine wpList_push_enc (E := ndE) (y := (⟨A, n.1.length, c1⟩, ⟨B, n.2.length, c2⟩)) (wr := w1) bq_und bq_info rfl (by decide) rfl _ _ rfl W0.heap.size _ vs rfl rfl HO1.out.own rfl (by rw [HVL.out]; omega) HF1.out.size ?_; intro v' w2 h1 _ h3; obtain ⟨g2, d2, hv2, -, -, -⟩ := own_nodes h1 (by simp); rw [show (vs ++ [((⟨A, n.1.length, c1⟩ : SlV), (⟨B, n.2.length, c2⟩ : SlV))]).length = (q.ns ++ [n]).length by rw [List.length_append, List.length_append, HVL.out]; rfl] at hv2; subst hv2; have HF2 : Hid (Fr [] W0 w2) := HF1.out.below_step h3 (Nat.le_refl _); have HO2 : Hid (BqO (fun g => G g ∧ g ≠ X ∧ g ≠ X2) W0 w2 g2 d2 _ (q.ns ++ [n])) := ⟨h1, by rw [List.length_append, List.length_append, HVL.out]; rfl, bq_rows_app HVL.out HS.out.row HK.out HC.out, HF2.out⟩; clear h1 h3)
      go_meet
      case rel => exact ⟨g2, d2, _, q.ns ++ [n], by simp, HO2, HMS, by have := HIE.out; rw [List.length_append, List.length_singleton]; omega, by rw [List.length_append, List.length_singleton]; omega⟩
    · have hb : ((i : Int) == q.ns.length) = false := beq_eq_false_iff_ne.2 (by omega)
      have HMS : Hid (q.ns.set i n = Bt.withN q.ns i n) := (Bt.withN_set (by omega)).symm
      go_wp2
      go_meet
      case rel => exact ⟨g1, d1, vs, q.ns, rfl, HO1, HMS, by omega, by omega⟩
  case rest =>
    obtain ⟨g2, d2, vs2, ms, rfl, HO2, HMS, him, hml⟩ := hcut
    obtain ⟨y0', y1'⟩ := HYC.out wc HO2.out.fr
    obtain ⟨g3, d3, hv3, hb3, hfz, hcl⟩ := own_nodes HO2.out.own (by rw [HO2.out.len]; omega)
    injection hv3 with e1 e2 e3
    injection e1 with e1
    injection e1 with e1 _ _
    subst e1 e3
    obtain ⟨x0, x1, hx0, hx1⟩ := hcl i (by rw [HO2.out.len]; exact him)
    have z0 : (0 : Int) ≤ i := by omega
    have z1 : (i : Int) < ms.length := by omega
    have HB3 := Lib.hid hb3
    clear hcl e2 hb3 y0 y1
    go_upto_region 6 with (fail)
    have hs2 := own_set2 HO2.out.own i (by rw [HO2.out.len]; exact him) ⟨A, n.1.length, c1⟩ ⟨B, n.2.length, c2⟩
    have hf3 : Fr [] W0 ((wc.setCell ⟨g2, i * 2, none⟩ (.slice A n.1.length c1)).setCell ⟨g2, i * 2 + 1, none⟩ (.slice B n.2.length c2)) := (HO2.out.fr.setCell (.inr HB3.out) _).setCell (.inr HB3.out) _
    have hset : BqT (fun g => G g ∧ g ≠ X ∧ g ≠ X2) ((wc.setCell ⟨g2, i * 2, none⟩ (.slice A n.1.length c1)).setCell ⟨g2, i * 2 + 1, none⟩ (.slice B n.2.length c2)) (.slice (some ⟨g2, 0, none⟩) (ms.set i n).length d2) (ms.set i n) := by
      have hr := bq_rows_set (s := ⟨A, n.1.length, c1⟩) (s' := ⟨B, n.2.length, c2⟩) HO2.out.len HO2.out.row him HK.out HC.out
      rw [show (ms.set i n).length = ms.length by simp]
      exact BqT.ofOwn hs2 (by rw [List.length_set, List.length_set]; exact HO2.out.len) (by simp; omega) HU.out.new (fun j hj => ⟨(hr j hj).1.step hf3, (hr j hj).2.step hf3⟩)
    rw [HMS.out] at hset
    rw [show (Bt.withN q.ns i n).length = ms.length by rw [← HMS.out]; simp] at hset
    have HU3 := Lib.hid (HU.out.step hf3)
    have HT3 := Lib.hid hset
    clear hset hs2 hf3
    revert HU3 HT3
    generalize (wc.setCell ⟨g2, i * 2, none⟩ (.slice A n.1.length c1)).setCell ⟨g2, i * 2 + 1, none⟩ (.slice B n.2.length c2) = w3
    intro HU3 HT3
    obtain ⟨⟨b0, b1⟩, hfx⟩ := HU3.out.cells
    go_upto_region 7 with (fail)
    have HU4 := Lib.hid (HU3.out.setT HT3.out)
    revert HU4
    generalize w3.setCell ⟨X, 0, none⟩ (.slice (some ⟨g2, 0, none⟩) ms.length d2) = w4
    intro HU4
    clear b0 b1 hfx
    obtain ⟨⟨b0, b1⟩, hfx⟩ := HU4.out.cells
    obtain ⟨⟨o0, o1⟩, hfo⟩ := HU4.out.outs
    go_wp2
    exact bodyPost_ret (v := .agg #[.slice (some ⟨g2, 0, none⟩) ms.length d2, .int .i64 (q.root : Int)]) (bq_results Tryd.results62 rfl (HU4.out.finV (q := ⟨Bt.withN q.ns i n, q.root⟩) HU4.out.val).1) rfl ⟨_, rfl, (HU4.out.finV (q := ⟨Bt.withN q.ns i n, q.root⟩) HU4.out.val).2.1, (HU4.out.finV (q := ⟨Bt.withN q.ns i n, q.root⟩) HU4.out.val).2.2⟩
set_option maxRecDepth 100000 in
theorem bq_NewTree (w : World) : Calls Tryd.prog 20 #[] w (BqA (w.heap.size ≤ ·) Bt.Qt.new w) := by
  go_enter Tryd.func20, Tryd.ntmps20
  go_wp2_with fail
  obtain ⟨W, hW⟩ : ∃ W, W = w.alloc (.cells #[.slice (some ⟨w.heap.size + 1, 0, none⟩) 1 1, .int .i64 0] 47) := ⟨_, rfl⟩
  have f0 : Fr [] w W := by rw [hW]; exact (Fr.refl [] w).alloc _
  have hx0 : W.heap[w.heap.size]? = some (.cells #[.slice (some ⟨w.heap.size + 1, 0, none⟩) 1 1, .int .i64 0] 47 (0, 0)) := by rw [hW]; exact heap_alloc_new w _
  have hs : W.heap.size = w.heap.size + 1 := by rw [hW]; simp
  have f1 : Fr [] W (W.alloc (.cells #[.slice none 0 0, .slice none 0 0] 54)) := (Fr.refl [] W).alloc _
  have ho := own_litN W 54 ⟨none, 0, 0⟩ ⟨none, 0, 0⟩
  have ht : BqT (w.heap.size ≤ ·) (W.alloc (.cells #[.slice none 0 0, .slice none 0 0] 54)) (.slice (some ⟨W.heap.size, 0, none⟩) 1 1) [([], [])] :=
    BqT.ofOwn ho rfl (by simp) (fun g hg => by omega) (fun j hj => by
      have : j = 0 := by simpa using hj
      subst this
      exact ⟨⟨0, .inr rfl, .inl ⟨rfl, none, 0, rfl⟩⟩, ⟨0, .inr rfl, .inl ⟨rfl, none, 0, rfl⟩⟩⟩)
  rw [hs] at ht
  have hx : BqX (W.alloc (.cells #[.slice none 0 0, .slice none 0 0] 54)) w.heap.size (.slice (some ⟨w.heap.size + 1, 0, none⟩) 1 1) 0 := f1.get hx0 (by simp)
  rw [← hW]
  exact bodyPost_ret (v := .agg #[.slice (some ⟨w.heap.size + 1, 0, none⟩) 1 1, .int .i64 0]) (bq_results Tryd.results20 rfl hx) rfl ⟨_, rfl, ⟨_, rfl, ht⟩, f0.trans f1⟩
end Go.Proofs.YtokbhiokcoldbaaDoor
/- 'out = append(out, xs...)' for a row of integers that the call owns; a copy with one number more. -/
namespace Go.Proofs.YtokbhiokcoldbaaDoor
open Go.RowKit
section
variable {P : Program} {w : World} {e : TypeId}
theorem run_append_emptyI (base : Nat) (t ty : TypeId) (i : TypeInfo) (size : Nat) (ht : P.underlying t = some (.slice e)) (hi : P.info? e = some i)
    (v : Value) (n : Nat) (xs : List Value) (hown : w.ownsRow base e size v n xs) (A : Option Addr) (c : Nat) :
    (Builtin.append_ #[t, t] ty #[v, .slice A 0 c]).run P w = .ok v w := by
  rcases hown.2 with ⟨rfl, rfl⟩ | ⟨g, cap, cur, rfl, _, _, hnc, _⟩
  · cases A <;> simp [Builtin.append_, run_underlying ht, sizeOf, typeInfo, hi, Builtin.lenOf, Builtin.firstCells, loadCells, loadCellsFrom]
  · cases A <;> simp [Builtin.append_, run_underlying ht, sizeOf, typeInfo, hi, Builtin.lenOf, Builtin.firstCells, hnc, storeCells, loadCells, loadCellsFrom]
theorem wpList_spread_int {ops : Array Oper} {rest : List Oper} {o : Oper} {a : Act} {Q : Exit → Act → World → Prop} {t : TypeId} (hT : IntT P t e) (hgd : o.guard = none) (s x : Operand)
    (ho : o.op = .call { callee := .builtin .append, args := #[s, x], argTypes := #[t, t] })
    (B : Nat) (v u : Value) (xs ys : List Int) (g : Nat) (hs : a.eval s = v) (hown : Own w B e v xs) (hx : a.eval x = u) (hm : Sl w u g ys) (hl : xs.length + ys.length < 1000000) (hB : B ≤ w.heap.size)
    (h : ∀ v' w', Own w' B e v' (xs ++ ys) → w.grownBy w' v.ownBlock → Below B w w' → wpList P ops Q rest (a.put o.dst v') w') : wpList P ops Q (o :: rest) a w := by
  obtain ⟨i0, hi, hz0, hz1, hz2⟩ := info_parts hT.hi
  rcases hm with ⟨rfl, A, c, rfl⟩ | ⟨oo, c, rfl, h1, h2, h3⟩
  · refine wpList_plain hgd fun _ hK => ?_
    have hr := run_append_emptyI (P := P) B t o.type i0 1 hT.ht hi v xs.length _ hown A c
    unfold Oper.wp execOp
    simp only [ho, resolve, invoke, builtin, Sem.run_bind, Sem.run_pure, Result.andThen_ok, List.map_toArray, List.map_cons, List.map_nil, hs, hx, hr]
    exact hK _ _ (h v w (by rw [List.append_nil]; exact hown) ⟨rfl, rfl, rfl, Nat.le_refl _, fun _ _ _ => rfl⟩ (Below.refl _ _))
  · refine wpList_append_own _ hgd s x t ho B e i0 (.int .i64 0) 1 8 hT.ht hi hz0 hz1 hz2 rfl (by decide) v xs.length _ hs hown ⟨g, oo, none⟩ ys.length c (ys.map (Value.int .i64)) hx (by simp) ?_ (ints_one (l := ys)) (by unfold maxLen; omega) (by omega) hB ?_
    · intro j u hu
      have hj : j < ys.length := by simpa using (List.getElem?_eq_some_iff.1 hu).1
      rw [Addr.add_lit]
      have := h3 j hj
      simp [hj] at hu
      rw [this, ← hu]
      simp [nth, List.getD, hj]
    · intro v' w' h1 h2 _
      refine h v' w' (by unfold Own; simpa using h1) h2 ⟨h2.os, h2.tape, h2.output, h2.size, fun k hk => h2.block k (by omega) (fun e => by have := hown.ge k e.symm; omega)⟩
end
theorem Own.form0 {w : World} {B e : Nat} {v : Value} {xs : List Int} (h : Own w B e v xs) : ∃ A c, v = .slice A xs.length c := by
  obtain ⟨_, h2⟩ := h
  rcases h2 with ⟨rfl, hn⟩ | ⟨g, cap, cur, rfl, _⟩
  · exact ⟨none, 0, by rw [hn]⟩
  · exact ⟨_, cap, rfl⟩
theorem Own.newRow {w w' : World} {B e : Nat} {v : Value} {xs : List Int} (h : Own w' B e v xs) (hB : w.heap.size ≤ B) (hf : Fr [] w w') : NewRow xs w (.returned v) w' := by
  obtain ⟨g, hg, hs⟩ := h.sl
  exact ⟨v, g, rfl, hg.imp (fun h => Nat.le_trans hB h) id, hs, hf⟩
end Go.Proofs.YtokbhiokcoldbaaDoor
