/- The document's answer for package lsm: laid. -/

import Derived.Test.YtokbhiokcoldbaaDoorLqM02
import Derived.Test.YtokbhiokcoldbaaDoorLqM03
import Derived.Test.YtokbhiokcoldbaaDoorLqM04
namespace Go.Proofs.YtokbhiokcoldbaaDoor
open Go.RowKit

/-- Two rows of the call's own that grow side by side. -/
structure Q2 (w wr : World) (u v : Value) (l : List Ls.E) : Prop where
  rows : Rows_ wr w.heap.size [rI 3 u (Ls.kys l), rI 3 v (Ls.vls l)]
  fr : Fr [] w wr
/-- The first row has one more already. -/
structure Q21 (w wr : World) (u v : Value) (l : List Ls.E) (e : Ls.E) : Prop where
  rows : Rows_ wr w.heap.size [rI 3 u (Ls.kys l ++ [e.1]), rI 3 v (Ls.vls l)]
  fr : Fr [] w wr
section
variable {w wr w' : World} {u v u' v' : Value} {l : List Ls.E} {e : Ls.E}
theorem Q2.start (w : World) : Q2 w w (.slice none 0 0) (.slice none 0 0) [] :=
  ⟨⟨fun r hr => by
    simp only [List.mem_cons, List.not_mem_nil, or_false] at hr
    rcases hr with rfl | rfl
    · exact Own.nil _ _ _
    · exact Own.nil _ _ _, by simp [rI]; exact Apart.nil _ _ _⟩, Fr.refl _ _⟩
theorem Q2.own1 (h : Q2 w wr u v l) : Own wr w.heap.size 3 u (Ls.kys l) := h.rows.p0
theorem Q2.own2 (h : Q2 w wr u v l) : Own wr w.heap.size 3 v (Ls.vls l) := h.rows.p1
theorem Q21.own2 (h : Q21 w wr u v l e) : Own wr w.heap.size 3 v (Ls.vls l) := h.rows.p1
theorem Q2.push (h : Q2 w wr u v l) (y : Int) (ho : Own w' w.heap.size 3 u' (Ls.kys l ++ [e.1])) (hg : wr.grownBy w' u.ownBlock) (hm : Moved (wr.heap.size + 1) u u') : Q21 w w' u' v l e :=
  ⟨h.rows.push0 (r' := rI 3 u' (Ls.kys l ++ [e.1])) ho hg hm (by omega), h.fr.push (r := rI 3 u (Ls.kys l)) h.rows.p0 hg (Nat.le_refl _)⟩
theorem Q21.push (h : Q21 w wr u v l e) (ho : Own w' w.heap.size 3 v' (Ls.vls l ++ [e.2])) (hg : wr.grownBy w' v.ownBlock) (hm : Moved (wr.heap.size + 1) v v') : Q2 w w' u v' (l ++ [e]) :=
  ⟨by rw [Ls.kys_app, Ls.vls_app]; exact h.rows.push1 (r' := rI 3 v' (Ls.vls l ++ [e.2])) ho hg hm (by omega), h.fr.push (r := rI 3 v (Ls.vls l)) h.rows.p1 hg (Nat.le_refl _)⟩
theorem Q2.forms (h : Q2 w wr u v l) : ∃ A c A' c', u = .slice A l.length c ∧ v = .slice A' l.length c' := by
  obtain ⟨A, c, e1⟩ := h.own1.form0
  obtain ⟨A', c', e2⟩ := h.own2.form0
  exact ⟨A, c, A', c', by simpa using e1, by simpa using e2⟩
theorem Q2.step (h : Q2 w wr u v l) (hf : Fr [] wr w') : Q2 w w' u v l := ⟨h.rows.fr hf (by simp), h.fr.trans hf⟩
end
/-- Two new rows: keys and values. -/
def LqTwo (l : List Ls.E) (w : World) (e : Ending) (w' : World) : Prop := ∃ A c A' c', e = .returned (.tuple #[.slice A l.length c, .slice A' l.length c']) ∧ RowH (w.heap.size ≤ ·) w' (.slice A l.length c) (Ls.kys l) ∧ RowH (w.heap.size ≤ ·) w' (.slice A' l.length c') (Ls.vls l) ∧ Fr [] w w'
theorem Q2.two {w wr : World} {A A' : Option Addr} {n c c' : Nat} {l : List Ls.E} (h : Q2 w wr (.slice A n c) (.slice A' n c') l) : LqTwo l w (.returned (.tuple #[.slice A n c, .slice A' n c'])) wr := by
  obtain ⟨B, d, B', d', e1, e2⟩ := h.forms
  injection e1 with e11 e12 e13
  injection e2 with e21 e22 e23
  subst e11 e12 e13 e21 e23
  obtain ⟨g, hg, hs⟩ := h.own1.sl
  obtain ⟨g', hg', hs'⟩ := h.own2.sl
  exact ⟨A, c, A', c', rfl, ⟨g, hg, hs⟩, ⟨g', hg', hs'⟩, h.fr⟩
set_option maxRecDepth 100000 in
set_option maxHeartbeats 4000000 in
theorem lq_laid (w : World) (G : Nat → Prop) (kv vv : Value) (l : List Ls.E) (e : Ls.E) (hk : RowH G w kv (Ls.kys l)) (hv : RowH G w vv (Ls.vls l)) (hu : Ls.Up l) (hl : l.length ≤ 1000) :
    Calls Tryd.prog 78 #[kv, vv, .int .i64 e.1, .int .i64 e.2] w (LqTwo (Ls.set l e) w) := by
  obtain ⟨A, g, o, c, rfl, -, hA, hc⟩ := hk.form
  obtain ⟨A', g', o', c', rfl, -, hA', hc'⟩ := hv.form
  rw [List.length_map] at hA hc hA' hc' ⊢
  rw [List.length_map]
  have HA := Lib.hid hA
  have HA' := Lib.hid hA'
  have HC := Lib.hid hc
  have HC' := Lib.hid hc'
  have HU := Lib.hid (Ls.lay_set (e := e) hu)
  have HLL : Hid (∀ k, (Ls.lay e (l.take k)).1.length ≤ 2 * l.length) := fun k => by
    have := Ls.lay_len e (l.take k) ([], false)
    have h2 : (l.take k).length ≤ l.length := by rw [List.length_take]; omega
    have h3 : (Ls.lay e (l.take k)).1.length ≤ ([] : List Ls.E).length + 2 * (l.take k).length := this
    simp only [List.length_nil] at h3
    omega
  clear hA hc hA' hc' hk hv hu
  go_enter Tryd.func78, Tryd.ntmps78
  go_wp2
  go_loopw [10, 11, 12, 13] (fun u v d i wr => ∃ k : Nat, k ≤ l.length ∧ i = .int .i64 k ∧ d = .bool (Ls.lay e (l.take k)).2 ∧ Hid (Q2 w wr u v (Ls.lay e (l.take k)).1)) (fun _ _ _ i _ => l.length - (intOf i).toNat)
  case atStart => exact ⟨0, Nat.zero_le _, rfl, rfl, Q2.start w⟩
  case round =>
    obtain ⟨k, hk, rfl, rfl, hQ⟩ := hrel
    have HQ0 := Lib.hid hQ.out
    have hLL := HLL.out k
    by_cases hlt : k < l.length
    · obtain rfl := HA.out (by omega)
      obtain rfl := HA'.out (by omega)
      have i0 : (0 : Int) ≤ k := by omega
      have i1 : (k : Int) < l.length := by omega
      have hx0 : nth (Ls.kys l) k = l[k].1 := by simp [nth, Ls.kys, List.getD, hlt]
      have hx1 : nth (Ls.vls l) k = l[k].2 := by simp [nth, Ls.vls, List.getD, hlt]
      have HX : Hid (∀ W, Fr [] w W → W.cell? ⟨g, o + k, none⟩ = some (.int .i64 l[k].1) ∧ W.cell? ⟨g', o' + k, none⟩ = some (.int .i64 l[k].2)) := fun W hW => by
        have q0 := HC.out W hW k hlt
        have q1 := HC'.out W hW k hlt
        rw [hx0] at q0
        rw [hx1] at q1
        exact ⟨q0, q1⟩
      have hs := Ls.lay_take (e := e) hlt
      unfold Ls.layStep at hs
      generalize l[k] = x at *
      have hD := congrArg Prod.snd hs
      have hN := congrArg Prod.fst hs
      dsimp only at hD hN
      generalize Ls.lay e (l.take k) = p at *
      obtain ⟨acc, d⟩ := p
      dsimp only at hD hN hLL hQ HQ0 ⊢
      obtain ⟨q0, q1⟩ := HX.out wr hQ.out.fr
      clear hs hx0 hx1
      obtain ⟨A1, c1, A2, c2, rfl, rfl⟩ := HQ0.out.forms
      cases d with
      | false =>
        by_cases ha : e.1 ≤ x.1
        · have g1 : (x.1 ≥ e.1) = True := eq_true ha
          have g2 : decide (x.1 ≥ e.1) = true := decide_eq_true ha
          rw [if_pos ⟨rfl, ha⟩] at hN
          rw [decide_eq_true ha, Bool.or_true] at hD
          have HD := Lib.hid hD
          by_cases hb : x.1 = e.1
          · have b1 : (x.1 == e.1) = true := beq_iff_eq.2 hb
            rw [if_pos hb, List.append_nil] at hN
            have HN := Lib.hid hN
            clear hD hN ha hb
            clear hQ
            go_wp2_with (first
              | (have hq' := HQ0; at_builtin; refine wpList_push_int2 (wr := wr) Tryd.intT rfl _ _ rfl w.heap.size _ _ rfl HQ0.out.own1 rfl (by simp only [Ls.kys, Ls.vls, List.length_map, List.length_append, List.length_cons, List.length_nil]; omega) (by have := HQ0.out.fr.size; omega) ?_; intro v' wa0 h1 h2 h3; have HM0 := Lib.hid (HQ0.out.push (e := e) 0 h1 h2 h3); obtain ⟨rm0, sm0⟩ := HX.out wa0 HM0.out.fr; clear h1 h2 h3 hq')
              | (have hq' := HM0; at_builtin; refine wpList_push_int2 (wr := wa0) Tryd.intT rfl _ _ rfl w.heap.size _ _ rfl HM0.out.own2 rfl (by simp only [Ls.kys, Ls.vls, List.length_map, List.length_append, List.length_cons, List.length_nil]; omega) (by have := HM0.out.fr.size; omega) ?_; intro v' wb0 h1 h2 h3; have HQ1 := Lib.hid (HM0.out.push h1 h2 h3); obtain ⟨rq1, sq1⟩ := HX.out wb0 HQ1.out.fr; clear h1 h2 h3 hq'))
            go_roundw
            case rel => exact ⟨k + 1, by omega, by go_num, by rw [HD.out], by show Q2 _ _ _ _ _; rw [HN.out]; exact HQ1.out⟩
            case measure => (simp [intOf]; try omega)
          · have b1 : (x.1 == e.1) = false := beq_eq_false_iff_ne.2 hb
            rw [if_neg hb] at hN
            have HN := Lib.hid hN
            clear hD hN ha hb
            clear hQ
            go_wp2_with (first
              | (have hq' := HQ0; at_builtin; refine wpList_push_int2 (wr := wr) Tryd.intT rfl _ _ rfl w.heap.size _ _ rfl HQ0.out.own1 rfl (by simp only [Ls.kys, Ls.vls, List.length_map, List.length_append, List.length_cons, List.length_nil]; omega) (by have := HQ0.out.fr.size; omega) ?_; intro v' wa0 h1 h2 h3; have HM0 := Lib.hid (HQ0.out.push (e := e) 0 h1 h2 h3); obtain ⟨rm0, sm0⟩ := HX.out wa0 HM0.out.fr; clear h1 h2 h3 hq')
              | (have hq' := HM0; at_builtin; refine wpList_push_int2 (wr := wa0) Tryd.intT rfl _ _ rfl w.heap.size _ _ rfl HM0.out.own2 rfl (by simp only [Ls.kys, Ls.vls, List.length_map, List.length_append, List.length_cons, List.length_nil]; omega) (by have := HM0.out.fr.size; omega) ?_; intro v' wb0 h1 h2 h3; have HQ1 := Lib.hid (HM0.out.push h1 h2 h3); obtain ⟨rq1, sq1⟩ := HX.out wb0 HQ1.out.fr; clear h1 h2 h3 hq')
              | (have hq' := HQ1; at_builtin; refine wpList_push_int2 (wr := wb0) Tryd.intT rfl _ _ rfl w.heap.size _ _ rfl HQ1.out.own1 rfl (by simp only [Ls.kys, Ls.vls, List.length_map, List.length_append, List.length_cons, List.length_nil]; omega) (by have := HQ1.out.fr.size; omega) ?_; intro v' wa1 h1 h2 h3; have HM1 := Lib.hid (HQ1.out.push (e := x) 0 h1 h2 h3); obtain ⟨rm1, sm1⟩ := HX.out wa1 HM1.out.fr; clear h1 h2 h3 hq')
              | (have hq' := HM1; at_builtin; refine wpList_push_int2 (wr := wa1) Tryd.intT rfl _ _ rfl w.heap.size _ _ rfl HM1.out.own2 rfl (by simp only [Ls.kys, Ls.vls, List.length_map, List.length_append, List.length_cons, List.length_nil]; omega) (by have := HM1.out.fr.size; omega) ?_; intro v' wb1 h1 h2 h3; have HQ2 := Lib.hid (HM1.out.push h1 h2 h3); obtain ⟨rq2, sq2⟩ := HX.out wb1 HQ2.out.fr; clear h1 h2 h3 hq'))
            go_roundw
            case rel => exact ⟨k + 1, by omega, by go_num, by rw [HD.out], by show Q2 _ _ _ _ _; rw [HN.out]; exact HQ2.out⟩
            case measure => (simp [intOf]; try omega)
        · have g1 : (x.1 ≥ e.1) = False := eq_false ha
          have g2 : decide (x.1 ≥ e.1) = false := decide_eq_false ha
          have hb : x.1 ≠ e.1 := by omega
          have b1 : (x.1 == e.1) = false := beq_eq_false_iff_ne.2 hb
          rw [if_neg (fun h => ha h.2), if_neg hb] at hN
          rw [decide_eq_false ha, Bool.or_false] at hD
          have HD := Lib.hid hD
          have HN := Lib.hid hN
          clear hD hN ha hb
          clear hQ
          go_wp2_with (first
            | (have hq' := HQ0; at_builtin; refine wpList_push_int2 (wr := wr) Tryd.intT rfl _ _ rfl w.heap.size _ _ rfl HQ0.out.own1 rfl (by simp only [Ls.kys, Ls.vls, List.length_map, List.length_append, List.length_cons, List.length_nil]; omega) (by have := HQ0.out.fr.size; omega) ?_; intro v' wa0 h1 h2 h3; have HM0 := Lib.hid (HQ0.out.push (e := x) 0 h1 h2 h3); obtain ⟨rm0, sm0⟩ := HX.out wa0 HM0.out.fr; clear h1 h2 h3 hq')
            | (have hq' := HM0; at_builtin; refine wpList_push_int2 (wr := wa0) Tryd.intT rfl _ _ rfl w.heap.size _ _ rfl HM0.out.own2 rfl (by simp only [Ls.kys, Ls.vls, List.length_map, List.length_append, List.length_cons, List.length_nil]; omega) (by have := HM0.out.fr.size; omega) ?_; intro v' wb0 h1 h2 h3; have HQ1 := Lib.hid (HM0.out.push h1 h2 h3); obtain ⟨rq1, sq1⟩ := HX.out wb0 HQ1.out.fr; clear h1 h2 h3 hq'))
          go_roundw
          case rel => exact ⟨k + 1, by omega, by go_num, by rw [HD.out], by show Q2 _ _ _ _ _; rw [HN.out]; exact HQ1.out⟩
          case measure => (simp [intOf]; try omega)
      | true =>
        rw [if_neg (by simp)] at hN
        rw [Bool.true_or] at hD
        have HD := Lib.hid hD
        by_cases hb : x.1 = e.1
        · have b1 : (x.1 == e.1) = true := beq_iff_eq.2 hb
          rw [if_pos hb, List.append_nil] at hN
          have HN := Lib.hid hN
          clear hD hN hb
          clear hQ
          go_wp2
          go_roundw
          case rel => exact ⟨k + 1, by omega, by go_num, by rw [HD.out], by show Q2 _ _ _ _ _; rw [HN.out]; exact HQ0.out⟩
          case measure => (simp [intOf]; try omega)
        · have b1 : (x.1 == e.1) = false := beq_eq_false_iff_ne.2 hb
          rw [if_neg hb] at hN
          have HN := Lib.hid hN
          clear hD hN hb
          clear hQ
          go_wp2_with (first
            | (have hq' := HQ0; at_builtin; refine wpList_push_int2 (wr := wr) Tryd.intT rfl _ _ rfl w.heap.size _ _ rfl HQ0.out.own1 rfl (by simp only [Ls.kys, Ls.vls, List.length_map, List.length_append, List.length_cons, List.length_nil]; omega) (by have := HQ0.out.fr.size; omega) ?_; intro v' wa0 h1 h2 h3; have HM0 := Lib.hid (HQ0.out.push (e := x) 0 h1 h2 h3); obtain ⟨rm0, sm0⟩ := HX.out wa0 HM0.out.fr; clear h1 h2 h3 hq')
            | (have hq' := HM0; at_builtin; refine wpList_push_int2 (wr := wa0) Tryd.intT rfl _ _ rfl w.heap.size _ _ rfl HM0.out.own2 rfl (by simp only [Ls.kys, Ls.vls, List.length_map, List.length_append, List.length_cons, List.length_nil]; omega) (by have := HM0.out.fr.size; omega) ?_; intro v' wb0 h1 h2 h3; have HQ1 := Lib.hid (HM0.out.push h1 h2 h3); obtain ⟨rq1, sq1⟩ := HX.out wb0 HQ1.out.fr; clear h1 h2 h3 hq'))
          go_roundw
          case rel => exact ⟨k + 1, by omega, by go_num, by rw [HD.out], by show Q2 _ _ _ _ _; rw [HN.out]; exact HQ1.out⟩
          case measure => (simp [intOf]; try omega)
    · obtain rfl : k = l.length := by omega
      have kI : ¬ ((l.length : Nat) : Int) < l.length := by omega
      rw [List.take_length] at *
      generalize Ls.lay e l = p at *
      obtain ⟨acc, d⟩ := p
      dsimp only at hLL hQ HQ0 ⊢
      obtain ⟨A1, c1, A2, c2, rfl, rfl⟩ := HQ0.out.forms
      cases d with
      | true =>
        have HU1 : Hid (acc = Ls.set l e) := HU
        clear hQ HU hlt
        go_wp2
        exact bodyPost_ret (v := .tuple #[.slice A1 acc.length c1, .slice A2 acc.length c2]) (by simp [results, Tryd.results78, go_sem]) rfl (by rw [← HU1.out]; exact HQ0.out.two)
      | false =>
        have HU1 : Hid (acc ++ [e] = Ls.set l e) := HU
        clear hQ HU hlt
        go_wp2_with (first
          | (have hq' := HQ0; at_builtin; refine wpList_push_int2 (wr := wr) Tryd.intT rfl _ _ rfl w.heap.size _ _ rfl HQ0.out.own1 rfl (by simp only [Ls.kys, Ls.vls, List.length_map, List.length_append, List.length_cons, List.length_nil]; omega) (by have := HQ0.out.fr.size; omega) ?_; intro v' wa0 h1 h2 h3; have HM0 := Lib.hid (HQ0.out.push (e := e) 0 h1 h2 h3); clear h1 h2 h3 hq')
          | (have hq' := HM0; at_builtin; refine wpList_push_int2 (wr := wa0) Tryd.intT rfl _ _ rfl w.heap.size _ _ rfl HM0.out.own2 rfl (by simp only [Ls.kys, Ls.vls, List.length_map, List.length_append, List.length_cons, List.length_nil]; omega) (by have := HM0.out.fr.size; omega) ?_; intro v'' wb0 h1 h2 h3; have HQ1 := Lib.hid (HM0.out.push h1 h2 h3); clear h1 h2 h3 hq'; obtain ⟨A3, c3, A4, c4, hv3, hv4⟩ := HQ1.out.forms; subst hv3 hv4))
        exact bodyPost_ret (v := .tuple #[.slice A3 (acc ++ [e]).length c3, .slice A4 (acc ++ [e]).length c4]) (by simp [results, Tryd.results78, go_sem]) rfl (by rw [← HU1.out]; exact HQ1.out.two)
end Go.Proofs.YtokbhiokcoldbaaDoor
