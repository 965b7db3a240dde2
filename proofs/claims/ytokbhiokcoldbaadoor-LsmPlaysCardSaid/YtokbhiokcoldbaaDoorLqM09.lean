/- The document's answer for package lsm: Down. -/
import Derived.Lib.AppendZerosOnto
import Derived.Lib.Overlaps
import Derived.Test.YtokbhiokcoldbaaDoorLqM04
import Derived.Test.YtokbhiokcoldbaaDoorLqM08
namespace Go.Proofs.YtokbhiokcoldbaaDoor
open Go.RowKit

theorem lq_in_any (n lo hi : Int) (w : World) :
    Calls Tryd.prog 77 #[.int .i64 n, .int .i64 lo, .int .i64 hi] w fun e w' => e = .returned (.bool (decide (lo ≤ n ∧ n ≤ hi))) ∧ w = w' := by
  go_enter Tryd.func77, Tryd.ntmps77
  go_wp2
  all_goals (go_ret; refine ⟨?_, rfl⟩; congr; try simp; try omega)
theorem lq_in (n lo hi : Int) (b : Bool) (w : World) (h : decide (lo ≤ n ∧ n ≤ hi) = b) :
    Calls Tryd.prog 77 #[.int .i64 n, .int .i64 lo, .int .i64 hi] w fun e w' => e = .returned (.bool b) ∧ w' = w :=
  (lq_in_any n lo hi w).mono fun _ _ ⟨h1, h2⟩ => ⟨by rw [h1, h], h2.symm⟩
set_option maxRecDepth 100000 in
set_option maxHeartbeats 4000000 in
theorem lq_Down (w : World) (G : Nat → Prop) (v : Value) (m : Ls.M) (k x : Int) (hv : LqV G w v m) (hO : Ls.OK m) (hG : ∀ k, w.heap.size ≤ k → G k) :
    Calls Tryd.prog 42 #[v, .int .i64 k, .int .i64 x] w (LqA2 G (Ls.down m (k, x)) (Ls.downErr m (k, x)) w) := by
  obtain ⟨gk, ck, gv, cv, rfl, h1, h2⟩ := hv.form
  have HU := Lib.hid (LqW.start (n := m.many) h1 h2 hG)
  have hrl : m.runs.length ≤ 60 := by have := hO.len; have := hO.many; omega
  have hmm := hO.many
  have hml := hO.mem
  have HO := Lib.hid hO
  clear hv h1 h2 hG hO
  by_cases hk : 0 ≤ k ∧ k ≤ 1000
  · by_cases h60 : m.many = 60
    · have HE : Hid (Ls.downErr m (k, x) = 4) := by show _ = _; unfold Ls.downErr; rw [if_pos hk, if_pos h60]
      have HD : Hid (Ls.down m (k, x) = m) := by show _ = _; unfold Ls.down; rw [if_neg (by rw [HE.out]; decide)]
      have hkb : decide (0 ≤ k ∧ k ≤ 1000) = true := decide_eq_true hk
      have g1 : ((m.many : Int) ≥ 60) = True := eq_true (by omega)
      have g2 : decide ((m.many : Int) ≥ 60) = true := decide_eq_true (by omega)
      rw [HE.out, HD.out]
      clear hk h60
      go_enter Tryd.func42, Tryd.ntmps42
      go_upto_region 1 with (fail)
      revert HU
      generalize (w.alloc (.cells #[.slice (some ⟨gk, 0, none⟩) (m.runs.length + 1) ck, .slice (some ⟨gv, 0, none⟩) (m.runs.length + 1) cv, .int .i64 (m.many : Int)] 73)).alloc (.cells #[.slice none 0 0, .slice none 0 0, .int .i64 0] 73) = W0
      generalize w.heap.size + 1 = X2
      generalize w.heap.size = X
      intro HU
      obtain ⟨⟨b0, b1, b2⟩, hfx⟩ := HU.out.cells
      obtain ⟨⟨o0, o1, o2⟩, hfo⟩ := HU.out.outs
      go_wp2_with (go_at_call 77; (with_reducible refine useC (lq_in k 0 1000 true W0 hkb) ?_); rintro e W0 ⟨rfl, rfl⟩)
      exact bodyPost_ret (v := .tuple #[.agg #[.slice (some ⟨gk, 0, none⟩) (m.runs.length + 1) ck, .slice (some ⟨gv, 0, none⟩) (m.runs.length + 1) cv, .int .i64 (m.many : Int)], .int .i64 4]) (lq_results2 Tryd.results42 rfl rfl HU.out.fin.1) rfl ⟨_, rfl, HU.out.fin.2.1, HU.out.fin.2.2⟩
    · have HE : Hid (Ls.downErr m (k, x) = 0) := by show _ = _; unfold Ls.downErr; rw [if_pos hk, if_neg h60]
      have HD : Hid (Ls.down m (k, x) = if (Ls.set m.mem (k, x)).length = 4 then Ls.flush (Ls.put1 m (k, x)) else Ls.put1 m (k, x)) := by show _ = _; unfold Ls.down; rw [if_pos HE.out]
      have hkb : decide (0 ≤ k ∧ k ≤ 1000) = true := decide_eq_true hk
      have g1 : ((m.many : Int) ≥ 60) = False := eq_false (by omega)
      have g2 : decide ((m.many : Int) ≥ 60) = false := decide_eq_false (by omega)
      have hw : IntKind.i64.wrap ((m.many : Int) + 1) = (m.many : Int) + 1 := by rw [IntKind.wrap_i64]; omega
      rw [HE.out]
      generalize Ls.down m (k, x) = md at *
      clear hk h60
      go_enter Tryd.func42, Tryd.ntmps42
      go_upto_region 1 with (fail)
      revert HU
      generalize (w.alloc (.cells #[.slice (some ⟨gk, 0, none⟩) (m.runs.length + 1) ck, .slice (some ⟨gv, 0, none⟩) (m.runs.length + 1) cv, .int .i64 (m.many : Int)] 73)).alloc (.cells #[.slice none 0 0, .slice none 0 0, .int .i64 0] 73) = W0
      generalize w.heap.size + 1 = X2
      generalize w.heap.size = X
      intro HU
      obtain ⟨⟨b0, b1, b2⟩, hfx⟩ := HU.out.cells
      go_upto_region 6 with (go_at_call 77; (with_reducible refine useC (lq_in k 0 1000 true W0 hkb) ?_); rintro e W0 ⟨rfl, rfl⟩)
      have HU1 := HU.out.setN (m.many + 1)
      rw [show ((m.many + 1 : Nat) : Int) = (m.many : Int) + 1 from rfl] at HU1
      replace HU1 := Lib.hid HU1
      revert HU1
      generalize W0.setCell ⟨X, 2, none⟩ (.int .i64 ((m.many : Int) + 1)) = W1
      intro HU1
      clear b0 b1 b2 hfx HU g1 g2 hw W0
      obtain ⟨sk, -, hSk⟩ := HU1.out.ka.op
      obtain ⟨A0, c0, q0, r0⟩ := hSk.at (j := 0) (by simp)
      obtain ⟨sv, -, hSv⟩ := HU1.out.vb.op
      obtain ⟨A1, c1, q1, r1⟩ := hSv.at (j := 0) (by simp)
      rw [show (Ls.ksOf m).getD 0 [] = Ls.kys m.mem from rfl] at q0 r0
      rw [show (Ls.vsOf m).getD 0 [] = Ls.vls m.mem from rfl] at q1 r1
      rw [List.length_map] at q0 r0 q1 r1
      have hd := (Fr.refl [] W1).drew
      have HQ : Hid (∀ W, Fr [] W1 W → (W.cell? ⟨X, 0, none⟩ = some (.slice (some ⟨gk, 0, none⟩) (m.runs.length + 1) ck) ∧ W.cell? ⟨X, 1, none⟩ = some (.slice (some ⟨gv, 0, none⟩) (m.runs.length + 1) cv)) ∧ W.cell? ⟨gk, 0, none⟩ = some (.slice A0 m.mem.length c0) ∧ W.cell? ⟨gv, 0, none⟩ = some (.slice A1 m.mem.length c1)) := fun W hW =>
        ⟨⟨(HU1.out.step hW).cells.1.1, (HU1.out.step hW).cells.1.2.1⟩, hW.cell q0 (by simp), hW.cell q1 (by simp)⟩
      have HLD := Lib.hid (lq_laid W1.drew _ _ _ m.mem (k, x) (r0.step hd) (r1.step hd) (HO.out.up m.mem (by simp)) (by omega))
      have HSL : Hid ((Ls.set m.mem (k, x)).length ≤ 4) := by have := (Ls.set_len (k, x) m.mem).2.1; show _ ≤ _; omega
      have i0 : (0 : Int) < ((m.runs.length + 1 : Nat) : Int) := by omega
      clear hSk hSv r0 r1 q0 q1 hd
      (refine wp_region_mix (Fr [] W1 ·) 15 [(true, 0), (true, 1), (true, 2), (true, 3), (true, 4), (true, 5), (true, 6), (true, 7), (true, 8), (true, 9), (false, 10), (true, 11), (true, 12), (true, 13), (false, 14)] (by kernel_rfl) (by kernel_rfl) ((Fr.refl _ _).drew) ?_; simp only [pickOps, List.map_cons, List.map_nil, List.getD_cons_zero, List.getD_cons_succ, List.drop_succ_cons, List.drop_zero])
      (iterate 10 (first | (refine wpMix_take (v := ?_) (by rfl) ?_ ?_; rotate_left; (focus (intro W hW; obtain ⟨⟨b0, b1⟩, q0, q1⟩ := HQ.out W hW; go_simp; (try with_reducible rfl); done)); try simp only [Act.put, List.setIfInBounds_toArray, List.set_cons_zero, List.set_cons_succ]) | (refine wpMix_leave (by rfl) ?_; try simp only [Act.put, List.setIfInBounds_toArray, List.set_cons_zero, List.set_cons_succ])))
      refine wpMix_walk ?_
      go_wp2_with (go_at_call 78; (with_reducible refine useC HLD.out ?_); rintro e w3 ⟨A3, c3, A4, c4, rfl, hr3, hr4, hf⟩; have HU3 := Lib.hid (HU1.out.step ((Fr.refl [] W1).drew.trans hf)); have HR3 := Lib.hid (hr3.mono (fun g _ hg => (HU1.out.step (Fr.refl [] W1).drew).new g hg)); have HR4 := Lib.hid (hr4.mono (fun g _ hg => (HU1.out.step (Fr.refl [] W1).drew).new g hg)); have HF3 := Lib.hid ((Fr.refl [] W1).drew.trans hf); clear hr3 hr4 hf HLD)
      refine MixQ.mk (HF3.out) ?_
      (iterate 3 (first | (refine wpMix_take (v := ?_) (by rfl) ?_ ?_; rotate_left; (focus (intro W hW; skip; go_simp; (try with_reducible rfl); done)); try simp only [Act.put, List.setIfInBounds_toArray, List.set_cons_zero, List.set_cons_succ]) | (refine wpMix_leave (by rfl) ?_; try simp only [Act.put, List.setIfInBounds_toArray, List.set_cons_zero, List.set_cons_succ])))
      refine wpMix_walk ?_
      go_wp2
      refine MixQ.mk (HF3.out) ?_
      refine wpMix_nil ?_
      clear HQ HF3
      have HPU : Hid (Ls.put1 m (k, x) = ⟨Ls.set m.mem (k, x), m.runs, m.many + 1⟩) := rfl
      generalize Ls.put1 m (k, x) = mp at *
      generalize Ls.set m.mem (k, x) = s at *
      obtain ⟨⟨b0, b1, b2⟩, hfx⟩ := HU3.out.cells
      have HT1 := lq_tables w3 _ _ _ (Ls.ksOf m) (Ls.kys s) 0 HU3.out.ka HR3.out (by simp) (by simp; omega) HU3.out.new
      rw [show ((0 : Nat) : Int) = 0 from rfl] at HT1
      replace HT1 := Lib.hid HT1
      clear HU1
      go_upto_region 9 with (first
        | (have h' := HT1; go_at_call 79; (with_reducible refine useC HT1.out ?_); intro e w4 hn; obtain ⟨g4, c4', he, hu, ht⟩ := HU3.out.tbl hn; rw [show ((Ls.ksOf m).set 0 (Ls.kys s)).length = m.runs.length + 1 by simp] at he ht; subst he; obtain ⟨w5, hw5⟩ : ∃ z, z = w4.setCell ⟨X, 0, none⟩ (.slice (some ⟨g4, 0, none⟩) (m.runs.length + 1) c4') := ⟨_, rfl⟩; have HU4 := Lib.hid hu; have HU5 := Lib.hid (hu.setK ht); rw [← hw5] at HU5; have HW5 := Lib.hid hw5; have HF5 : Hid (Fr [] w3 w4) := hn.elim (fun _ h => h.2.2); clear hw5 ht hu hn h' HT1; clear b0 b1 b2 hfx; obtain ⟨⟨b0, b1, b2⟩, hfx⟩ := HU4.out.cells)
        | (rw [← HW5.out]; clear b0 b1 b2 hfx; obtain ⟨⟨b0, b1, b2⟩, hfx⟩ := HU5.out.cells; have HT2 := lq_tables w5 _ _ _ (Ls.vsOf m) (Ls.vls s) 0 HU5.out.vb (by rw [HW5.out]; exact (HR4.out.step HF5.out).fr (LqW.one w4 X 0 _) LqW.nX) (by simp) (by simp; omega) HU5.out.new; rw [show ((0 : Nat) : Int) = 0 from rfl] at HT2; replace HT2 := Lib.hid HT2; clear HW5 HU4)
        | (have h' := HT2; go_at_call 79; (with_reducible refine useC HT2.out ?_); intro e w6 hn; obtain ⟨g6, c6, he, hu, ht⟩ := HU5.out.tbl hn; rw [show ((Ls.vsOf m).set 0 (Ls.vls s)).length = m.runs.length + 1 by simp] at he ht; subst he; obtain ⟨w7, hw7⟩ : ∃ z, z = w6.setCell ⟨X, 1, none⟩ (.slice (some ⟨g6, 0, none⟩) (m.runs.length + 1) c6) := ⟨_, rfl⟩; have HU6 := Lib.hid hu; have HU7 := Lib.hid (hu.setV ht); rw [← hw7] at HU7; have HW7 := Lib.hid hw7; clear hw7 ht hu hn h' HT2; clear b0 b1 b2 hfx; obtain ⟨⟨b0, b1, b2⟩, hfx⟩ := HU6.out.cells)
        | (rw [← HW7.out]; clear b0 b1 b2 hfx; obtain ⟨⟨b0, b1, b2⟩, hfx⟩ := HU7.out.cells; clear HW7 HU6))
      obtain ⟨⟨b0, b1, b2⟩, hfx⟩ := HU7.out.cells
      obtain ⟨⟨o0, o1, o2⟩, hfo⟩ := HU7.out.outs
      have HU8 : Hid (LqW G w w7 X X2 (.slice (some ⟨g4, 0, none⟩) (m.runs.length + 1) c4') (.slice (some ⟨g6, 0, none⟩) (m.runs.length + 1) c6) (Ls.ksOf ⟨s, m.runs, m.many + 1⟩) (Ls.vsOf ⟨s, m.runs, m.many + 1⟩) (Ls.M.many ⟨s, m.runs, m.many + 1⟩)) := HU7
      clear HU7 HU5 HU3 HR3 HR4 HF5
      by_cases h4 : s.length = 4
      · have HM : Hid (md = Ls.flush ⟨s, m.runs, m.many + 1⟩) := by show _ = _; rw [HD.out, if_pos h4, HPU.out]
        have hb4 : ((s.length : Int) == 4) = true := beq_iff_eq.2 (by omega)
        have hfl := lq_Flush w7 _ _ ⟨s, m.runs, m.many + 1⟩ HU8.out.val (show m.runs.length ≤ 900 by omega) HU8.out.new
        dsimp only at hfl
        have HFL := Lib.hid hfl
        clear hfl
        generalize Ls.flush ⟨s, m.runs, m.many + 1⟩ = mf at *
        clear h4 HD
        go_wp2_with (go_at_call 43; (refine useC HFL.out ?_); rintro e w8 ⟨v8, rfl, hv8, hf8⟩; obtain ⟨gk8, ck8, gv8, cv8, hv', -, -⟩ := hv8.form; subst hv'; have HU9 := Lib.hid (HU8.out.step hf8); have HV8 := Lib.hid hv8; clear hv8 hf8 HFL o0 o1 o2 hfo b0 b1 b2 hfx; obtain ⟨⟨o0, o1, o2⟩, hfo⟩ := HU9.out.outs)
        rw [HM.out]
        exact bodyPost_ret (v := .tuple #[.agg #[.slice (some ⟨gk8, 0, none⟩) (mf.runs.length + 1) ck8, .slice (some ⟨gv8, 0, none⟩) (mf.runs.length + 1) cv8, .int .i64 (mf.many : Int)], .int .i64 0]) (lq_results2 Tryd.results42 rfl rfl (HU9.out.finV HV8.out).1) rfl ⟨_, rfl, (HU9.out.finV HV8.out).2.1, (HU9.out.finV HV8.out).2.2⟩
      · have HM : Hid (md = ⟨s, m.runs, m.many + 1⟩) := by show _ = _; rw [HD.out, if_neg h4, HPU.out]
        have hb4 : ((s.length : Int) == 4) = false := beq_eq_false_iff_ne.2 (by omega)
        clear h4 HD
        go_wp2
        rw [HM.out]
        exact bodyPost_ret (v := .tuple #[.agg #[.slice (some ⟨g4, 0, none⟩) (m.runs.length + 1) c4', .slice (some ⟨g6, 0, none⟩) (m.runs.length + 1) c6, .int .i64 ((m.many + 1 : Nat) : Int)], .int .i64 0]) (lq_results2 Tryd.results42 rfl rfl HU8.out.fin.1) rfl ⟨_, rfl, HU8.out.fin.2.1, HU8.out.fin.2.2⟩
  · have HE : Hid (Ls.downErr m (k, x) = 1) := by show _ = _; unfold Ls.downErr; rw [if_neg hk]
    have HD : Hid (Ls.down m (k, x) = m) := by show _ = _; unfold Ls.down; rw [if_neg (by rw [HE.out]; decide)]
    have hkb : decide (0 ≤ k ∧ k ≤ 1000) = false := decide_eq_false hk
    rw [HE.out, HD.out]
    clear hk
    go_enter Tryd.func42, Tryd.ntmps42
    go_upto_region 1 with (fail)
    revert HU
    generalize (w.alloc (.cells #[.slice (some ⟨gk, 0, none⟩) (m.runs.length + 1) ck, .slice (some ⟨gv, 0, none⟩) (m.runs.length + 1) cv, .int .i64 (m.many : Int)] 73)).alloc (.cells #[.slice none 0 0, .slice none 0 0, .int .i64 0] 73) = W0
    generalize w.heap.size + 1 = X2
    generalize w.heap.size = X
    intro HU
    obtain ⟨⟨b0, b1, b2⟩, hfx⟩ := HU.out.cells
    obtain ⟨⟨o0, o1, o2⟩, hfo⟩ := HU.out.outs
    go_wp2_with (go_at_call 77; (with_reducible refine useC (lq_in k 0 1000 false W0 hkb) ?_); rintro e W0 ⟨rfl, rfl⟩)
    exact bodyPost_ret (v := .tuple #[.agg #[.slice (some ⟨gk, 0, none⟩) (m.runs.length + 1) ck, .slice (some ⟨gv, 0, none⟩) (m.runs.length + 1) cv, .int .i64 (m.many : Int)], .int .i64 1]) (lq_results2 Tryd.results42 rfl rfl HU.out.fin.1) rfl ⟨_, rfl, HU.out.fin.2.1, HU.out.fin.2.2⟩
end Go.Proofs.YtokbhiokcoldbaaDoor
/- The document's answer for package lsm: what Merge needs; in plain Lean. -/
namespace Go.Proofs.YtokbhiokcoldbaaDoor
open Go.RowKit

theorem TbH.take {G : Nat → Prop} {w : World} {g n c : Nat} {xs : List (List Int)} (h : TbH G w (.slice (some ⟨g, 0, none⟩) n c) xs) {i : Nat} (h0 : 0 < i) (hi : i ≤ xs.length) : TbH G w (.slice (some ⟨g, 0, none⟩) i c) (xs.take i) := by
  obtain ⟨vs, rfl, hT⟩ := h.op
  clear h
  have h := hT
  have hl := h.len
  have e : (xs.take i).length = i := by rw [List.length_take]; omega
  refine ⟨g, c, vs.take i, by rw [e], h.gg, by omega, ⟨by have := h.cap.1; omega, h.cap.2⟩, by rw [e, List.length_take]; omega, fun j hj => ?_, fun j hj => ?_⟩
  · have hj' : j < i ∧ j < vs.length := by rw [List.length_take] at hj; omega
    rw [List.getElem_take]
    exact h.cell j hj'.2
  · have hj' : j < i ∧ j < vs.length := by rw [List.length_take] at hj; omega
    rw [List.getElem_take]
    have := h.row j hj'.2
    have e2 : (xs.take i).getD j [] = xs.getD j [] := by
      rw [List.getD_eq_getElem?_getD, List.getD_eq_getElem?_getD, List.getElem?_take, if_pos hj'.1]
    rw [e2]
    exact this
namespace Ls
theorem set_last {α : Type} (l : List α) (p : Nat) (hp : p < l.length) (y : α) : (l.take (p + 1)).set p y = l.take p ++ [y] := by
  apply List.ext_getElem?
  intro j
  rw [List.getElem?_set, List.getElem?_append, List.length_take, List.length_take]
  by_cases h1 : p = j
  · subst h1
    rw [if_pos rfl, if_pos (by omega), if_neg (by omega), show p - min p l.length = 0 by omega]
    rfl
  · rw [if_neg h1]
    by_cases h2 : j < p
    · rw [if_pos (by omega), List.getElem?_take, List.getElem?_take, if_pos (by omega), if_pos h2]
    · rw [if_neg (by omega), List.getElem?_take, if_neg (by omega)]
      rw [List.getElem?_eq_none (by simp; omega)]
theorem merge_tabs {m : M} {p : Nat} (hp : m.runs.length = p + 2) (f : List E → List Int) : (((m.mem :: m.runs).map f).take (p + 2)).set (p + 1) (f (merge2 (m.runs.getD p []) (m.runs.getD (p + 1) []))) = ((merge m).mem :: (merge m).runs).map f := by
  unfold merge
  rw [if_neg (by omega), show m.runs.length - 2 = p by omega, show m.runs.length - 1 = p + 1 by omega]
  rw [List.map_cons, List.take_succ_cons, List.set_cons_succ, set_last _ _ (by simp; omega)]
  simp [List.map_take]
/-- Entries that were not dropped. -/
def keep (l : List E) : List E := l.filter (fun e => !decide (e.2 < 0))
theorem keep_take {l : List E} {i : Nat} (h : i < l.length) : keep (l.take (i + 1)) = if l[i].2 < 0 then keep (l.take i) else keep (l.take i) ++ [l[i]] := by
  unfold keep
  rw [List.take_add_one, List.getElem?_eq_getElem h, List.filter_append]
  by_cases h1 : l[i].2 < 0
  · rw [if_pos h1]; simp [h1]
  · rw [if_neg h1]; simp [h1]; try omega
theorem keep_len (l : List E) : (keep l).length ≤ l.length := List.length_filter_le _ _
theorem fold_take {l acc : List E} {i : Nat} (h : i < l.length) : (l.take (i + 1)).foldl set acc = set ((l.take i).foldl set acc) l[i] := by
  rw [List.take_add_one, List.getElem?_eq_getElem h, List.foldl_append]
  rfl
end Ls
end Go.Proofs.YtokbhiokcoldbaaDoor

/- What slices.Insert does to a row that the call owns, whatever its elements: in plain words of lists and blocks. No program in sight. -/
namespace Go.Proofs.YtokbhiokcoldbaaDoor
open Go.RowKit

/-- Where a row lies that grew: where it lay, or in a new block. -/
def Moves (w : World) (v v' : Value) : Prop := v'.ownBlock = v.ownBlock ∨ ∃ g, v'.ownBlock = some g ∧ w.heap.size ≤ g
theorem Moved.moves {w : World} {n : Nat} {v v' : Value} (h : Moved n v v') (hn : w.heap.size ≤ n) : Moves w v v' := h.imp id fun h => ⟨n, h, hn⟩

theorem shift_take (cur C X : List Value) (a N k : Nat) (hC : cur.take N = C) (ha : a ≤ N) (hN : N + k ≤ cur.length) (hX : X.length = k) (cur1 : List Value)
    (h1 : cur1 = cur.take (a + k) ++ C.drop a ++ cur.drop (a + k + (N - a))) :
    (cur1.take a ++ X ++ cur1.drop (a + k)).take (N + k) = C.take a ++ X ++ C.drop a ∧ cur1.length = cur.length ∧ (cur1.take a ++ X ++ cur1.drop (a + k)).length = cur.length := by
  have hCl : C.length = N := by rw [← hC, List.length_take]; omega
  have hl1 : (cur.take (a + k)).length = a + k := by rw [List.length_take]; omega
  have hdl : (C.drop a).length = N - a := by rw [List.length_drop, hCl]
  have e1 : cur1.take a = C.take a := by
    rw [h1, List.append_assoc, List.take_append_of_le_length (by omega), List.take_take, ← hC, List.take_take]
    congr 1
    omega
  have e2 : cur1.drop (a + k) = C.drop a ++ cur.drop (a + k + (N - a)) := by
    rw [h1, List.append_assoc, List.drop_append_of_le_length (by omega), List.drop_of_length_le (by omega), List.nil_append]
  have el : cur1.length = cur.length := by
    rw [h1]
    simp only [List.length_append, hl1, hdl, List.length_drop]
    omega
  have hta : (C.take a).length = a := by rw [List.length_take]; omega
  refine ⟨?_, el, ?_⟩
  · rw [e1, e2, ← List.append_assoc, List.take_append_of_le_length (by simp only [List.length_append, hta, hX, hdl]; omega), List.take_of_length_le (by simp only [List.length_append, hta, hX, hdl]; omega)]
  · rw [e1, e2]
    simp only [List.length_append, hta, hX, hdl, List.length_drop]
    omega
theorem grow_take (row C X Z : List Value) (a N k : Nat) (hC : C.length = N) (ha : a ≤ N) (hr : row = C.take a ++ Z) (hN : N + k ≤ row.length) (hX : X.length = k) (row1 : List Value)
    (h1 : row1 = row.take a ++ X ++ row.drop (a + k)) :
    (row1.take (a + k) ++ C.drop a ++ row1.drop (a + k + (N - a))).take (N + k) = C.take a ++ X ++ C.drop a ∧ row1.length = row.length ∧ (row1.take (a + k) ++ C.drop a ++ row1.drop (a + k + (N - a))).length = row.length := by
  have hta : (C.take a).length = a := by rw [List.length_take]; omega
  have hdl : (C.drop a).length = N - a := by rw [List.length_drop, hC]
  have e0 : row.take a = C.take a := by rw [hr, List.take_append_of_le_length (by omega), List.take_of_length_le (by omega)]
  have e1 : row1.take (a + k) = C.take a ++ X := by
    rw [h1, e0, List.take_append_of_le_length (by simp only [List.length_append, hta, hX]; omega), List.take_of_length_le (by simp only [List.length_append, hta, hX]; omega)]
  have el : row1.length = row.length := by
    rw [h1, e0]
    simp only [List.length_append, hta, hX, List.length_drop]
    omega
  refine ⟨?_, el, ?_⟩
  · rw [e1, List.take_append_of_le_length (by simp only [List.length_append, hta, hX, hdl]; omega), List.take_of_length_le (by simp only [List.length_append, hta, hX, hdl]; omega)]
  · rw [e1]
    simp only [List.length_append, hta, hX, hdl, List.length_drop, el]
    omega
section
variable {α : Type} (E : Enc α)
theorem Enc.cellsTake (l : List α) (i : Nat) : (E.cells l).take (i * E.k) = E.cells (l.take i) := by
  by_cases h : i ≤ l.length
  · have e : E.cells l = E.cells (l.take i) ++ E.cells (l.drop i) := by rw [← E.cells_append, List.take_append_drop]
    have hl : (E.cells (l.take i)).length = i * E.k := by rw [E.cells_len, List.length_take, Nat.min_eq_left h]
    rw [e, List.take_append_of_le_length (by omega), List.take_of_length_le (by omega)]
  · have : l.length * E.k ≤ i * E.k := Nat.mul_le_mul_right _ (by omega)
    rw [List.take_of_length_le (by rw [E.cells_len]; exact this), List.take_of_length_le (by omega)]
theorem Enc.cellsDrop (l : List α) (i : Nat) : (E.cells l).drop (i * E.k) = E.cells (l.drop i) := by
  by_cases h : i ≤ l.length
  · have e : E.cells l = E.cells (l.take i) ++ E.cells (l.drop i) := by rw [← E.cells_append, List.take_append_drop]
    have hl : (E.cells (l.take i)).length = i * E.k := by rw [E.cells_len, List.length_take, Nat.min_eq_left h]
    rw [e, List.drop_append_of_le_length (by omega), List.drop_of_length_le (by omega), List.nil_append]
  · have : l.length * E.k ≤ i * E.k := Nat.mul_le_mul_right _ (by omega)
    rw [List.drop_of_length_le (by rw [E.cells_len]; exact this), List.drop_of_length_le (by omega)]
    rfl
theorem Enc.cells_ins (l : List α) (i : Nat) (x : α) : E.cells (l.take i ++ x :: l.drop i) = (E.cells l).take (i * E.k) ++ E.enc x ++ (E.cells l).drop (i * E.k) := by
  rw [E.cells_append, E.cellsTake, E.cellsDrop, List.append_assoc]
  rfl
theorem Enc.cells_one (l : List α) : ∀ u ∈ E.cells l, u.oneCell' = true := by
  intro u hu
  obtain ⟨x, _, hu⟩ := List.mem_flatMap.1 hu
  exact E.one x u hu
theorem ins_len (l : List α) (i : Nat) (x : α) (hi : i ≤ l.length) : (l.take i ++ x :: l.drop i).length = l.length + 1 := by
  simp only [List.length_append, List.length_take, List.length_cons, List.length_drop]
  omega
variable {E}
theorem own_at {w : World} {B e g cap : Nat} {cur : Array Value} {l : List α} {n : Nat} (hg : w.heap[g]? = some (.cells cur e (0, 0))) (hb : B ≤ g) (hn : n = l.length) (hc : n ≤ cap) (hm : cap ≤ maxLen) (hs : cur.size = cap * E.k)
    (ht : cur.toList.take (n * E.k) = E.cells l) : OwnR E w B e (.slice (some ⟨g, 0, none⟩) n cap) l := by
  subst hn
  exact ⟨E.cells_len l, .inr ⟨g, cap, cur, rfl, hb, hg, hc, hm, hs, ht⟩⟩
theorem OwnR.take {w : World} {B e : Nat} {g cap n : Nat} {l : List α} (h : OwnR E w B e (.slice (some ⟨g, 0, none⟩) n cap) l) (m : Nat) (hm : m ≤ l.length) : OwnR E w B e (.slice (some ⟨g, 0, none⟩) m cap) (l.take m) := by
  obtain ⟨h1, h2⟩ := h
  rcases h2 with ⟨h2, _⟩ | ⟨g', cap', cur, e0, hb, hg, hc, hx, hs, ht⟩
  · cases h2
  · injection e0 with e1 e2 e3
    injection e1 with e1
    injection e1 with e1 _ _
    subst e1 e3 e2
    refine own_at hg hb (by rw [List.length_take, Nat.min_eq_left hm]) (by omega) hx hs ?_
    rw [← E.cellsTake, ← ht, List.take_take, Nat.min_eq_left (Nat.mul_le_mul_right _ (by omega))]
end
section
variable {P : Program}
theorem run_copyK (w : World) (dT sT ty elem : TypeId) (k g o dLen dCap : Nat) (a : Addr) (sLen sCap : Nat) (cur : Array Value) (t : TypeId) (cs : List Value)
    (hu : P.underlying dT = some (.slice elem)) (hs : (P.info? elem).map (·.size) = some k)
    (hg : w.heap[g]? = some (.cells cur t (0, 0))) (m : Nat) (hm : m = Nat.min sLen dLen) (hn : cs.length = m * k)
    (hsrc : ∀ j v, cs[j]? = some v → w.cell? (a.add j) = some v) (hfit : o + cs.length ≤ cur.size) (h1 : ∀ v ∈ cs, v.oneCell' = true) :
    (Builtin.copy_ #[dT, sT] ty #[.slice (some ⟨g, o, none⟩) dLen dCap, .slice (some a) sLen sCap]).run P w =
      .ok (goInt m) (w.setRow g (cur.toList.take o ++ cs ++ cur.toList.drop (o + cs.length)).toArray) := by
  have hst := run_storeCells_at P g o t cs 0 cur w hg (by simpa using hfit) h1
  cases hq : P.info? elem with
  | none => simp [hq] at hs
  | some i =>
    have hi : i.size = k := by simpa [hq] using hs
    have hf := fun c => run_firstCells_some (P := P) w i.size m a sLen c cs (by rw [hi]; exact hn) hsrc
    simp [Builtin.copy_, run_underlying hu, Builtin.lenOf, sizeOf, typeInfo, hq, ← hm, hf, hst]
/-- The operation 'copy(d, s)', its run known. -/
theorem wpList_copyK {w : World} {ops : Array Oper} {rest : List Oper} {o : Oper} {a : Act} {Q : Exit → Act → World → Prop} (hgd : o.guard = none) (d s : Operand) (t t' : TypeId)
    (ho : o.op = .call { callee := .builtin .copy, args := #[d, s], argTypes := #[t, t'] }) (v u : Value) (hd : a.eval d = v) (hs : a.eval s = u) {v' : Value} {w' : World}
    (hr : (Builtin.copy_ #[t, t'] o.type #[v, u]).run P w = .ok v' w') (h : wpList P ops Q rest (a.put o.dst v') w') : wpList P ops Q (o :: rest) a w :=
  wpList_plain hgd fun _ hK => by
    unfold Oper.wp execOp
    simp only [ho, resolve, invoke, builtin, Sem.run_bind, Sem.run_pure, Result.andThen_ok, List.map_toArray, List.map_cons, List.map_nil, hd, hs, hr]
    exact hK _ _ h
theorem wpList_appendK {w : World} {ops : Array Oper} {rest : List Oper} {o : Oper} {a : Act} {Q : Exit → Act → World → Prop} (hgd : o.guard = none) (s x : Operand) (t t' : TypeId)
    (ho : o.op = .call { callee := .builtin .append, args := #[s, x], argTypes := #[t, t'] }) (v u : Value) (hd : a.eval s = v) (hs : a.eval x = u) {v' : Value} {w' : World}
    (hr : (Builtin.append_ #[t, t'] o.type #[v, u]).run P w = .ok v' w') (h : wpList P ops Q rest (a.put o.dst v') w') : wpList P ops Q (o :: rest) a w :=
  wpList_plain hgd fun _ hK => by
    unfold Oper.wp execOp
    simp only [ho, resolve, invoke, builtin, Sem.run_bind, Sem.run_pure, Result.andThen_ok, List.map_toArray, List.map_cons, List.map_nil, hd, hs, hr]
    exact hK _ _ h
end
end Go.Proofs.YtokbhiokcoldbaaDoor
