/- RangesFree: what is freed hinders nobody. -/
import Derived.Test.YtgljklefcfheaaaDoorRaOne
namespace Go.Proofs.YtgljklefcfheaaaDoor
open Go.RowKit

theorem Ra.test_bad {T : List Int} {o f n : Int} {a : Bool} (h : ¬ Ra.okL o f n) : Ra.test T o f n a = (0, 1) := if_neg h
theorem Ra.free_bad {T : List Int} {q : Int} (h : ¬ (0 ≤ q ∧ q ≤ 3)) : (Ra.free T q 0 64).2 = 1 ∧ (Ra.free T q 0 64).1 = T := by
  have : Ra.free T q 0 64 = (T, 1) := if_neg (fun x => h x.1)
  rw [this]
  exact ⟨rfl, rfl⟩
theorem Ra.free_good {T : List Int} (h : Ra.OK T) {q : Nat} (hq : q < 4) : (Ra.free T q 0 64).2 = 0 ∧ (Ra.free T q 0 64).1 = Ra.fillTo T q 0 0 64 ∧ Ra.OK (Ra.fillTo T q 0 0 64) := by
  have key : ∀ (X : List Int) (r : List Int × Int), r = (X, 0) → Ra.OK r.1 → r.2 = 0 ∧ r.1 = X ∧ Ra.OK X := by rintro X _ rfl h; exact ⟨rfl, rfl, h⟩
  exact key _ _ (Ra.free_all h hq) (Ra.free_ok h q 0 64)
theorem Ra.free_plan {T : List Int} (h : Ra.OK T) {q : Nat} (hq : q < 4) {o f n : Int} {a : Bool} (hok : Ra.okL o f n) : ∃ T1 x, (Ra.free T q 0 64).2 = 0 ∧ (Ra.free T q 0 64).1 = T1 ∧ Ra.OK T1 ∧ (∀ y ∈ Ra.locks T1, y.1 ≠ q) ∧ Ra.test T1 o f n a = (x, 0) ∧
    ((0 ≤ x ∧ (Ra.set T1 o f n a).2 = 6 ∧ x ≠ q ∧ x ≠ o) ∨ (x = -1 ∧ ((Ra.set T1 o f n a).2 = 0 ∨ (Ra.set T1 o f n a).2 = 4) ∧ Ra.test (Ra.set T1 o f n a).1 o f n a = (-1, 0))) ∧ Ra.OK (Ra.set T1 o f n a).1 := by
  obtain ⟨g1, g2, g3⟩ := Ra.free_good h hq
  obtain ⟨x, hx, hx1⟩ : ∃ x, Ra.test (Ra.fillTo T q 0 0 64) o f n a = (x, 0) ∧ -1 ≤ x := ⟨_, if_pos hok, (Ra.against_le _ _ _ _ _ 4 (Nat.le_refl _)).1⟩
  refine ⟨_, x, g1, g2, g3, fun y hy => Ra.gone h.tab hq hy, hx, ?_, Ra.set_ok g3 o f n a⟩
  have hs := Ra.set_codes (Ra.fillTo T q 0 0 64) (a := a) hok
  have ht := Ra.test_again g3 (a := a) hok
  rw [hx] at hs ht
  by_cases h0 : 0 ≤ x
  · have ho := Ra.test_other h hq (a := a) hok (by rw [hx]; exact h0)
    rw [hx] at ho
    exact .inl ⟨h0, hs.1 h0, ho.1, ho.2⟩
  · have e : x = -1 := by omega
    subst e
    exact .inr ⟨rfl, hs.2 h0, ht⟩
set_option maxRecDepth 100000 in
set_option maxHeartbeats 8000000 in
theorem ra_free_law (w : World) (v : Value) (ls : List (List Int)) (q o f n : Int) (a : Bool) (hR : Rw w.heap.size w v ls) (hE : ErrType w) (hpos : 0 < w.heap.size) :
    Calls Tryd.prog 6 #[v, .int .i64 q, .agg #[.int .i64 o, .int .i64 f, .int .i64 n, .bool a]] w (OkT w) := by
  have HB := Lib.hid (lkb_new w o f n a)
  have HF : Hid (Fr [] w (w.alloc (.cells #[.int .i64 o, .int .i64 f, .int .i64 n, .bool a] 29))) := (Fr.refl _ _).alloc _
  have HBL : Hid (w.heap.size < (w.alloc (.cells #[.int .i64 o, .int .i64 f, .int .i64 n, .bool a] 29)).heap.size) := lt_of_heap HB.out
  have HR := Lib.hid hR
  have HE := Lib.hid hE
  have HP := Lib.hid hpos
  clear hR hE hpos
  go_enter Tryd.func6, Tryd.ntmps6
  go_wp2_with fail
  revert HB HF HBL
  have HR' : Hid (∀ w0, Fr [] w w0 → Rw w0.heap.size w0 v ls) := fun w0 hf => HR.out.mono1 hf
  have HP' : Hid (∀ w0, Fr [] w w0 → 0 < w0.heap.size) := fun w0 hf => Nat.lt_of_lt_of_le HP.out hf.size
  clear HR HP
  generalize (w.alloc (.cells #[.int .i64 o, .int .i64 f, .int .i64 n, .bool a] 29)) = w0
  generalize w.heap.size = B
  intro HB HF HBL
  have HE0 : Hid (ErrType w0) := HE.out.fr HF.out (by simp)
  refine useC (ra_fact _ HE0.out (HP'.out _ HF.out)) ?_
  rintro e w1 ⟨rfl, hf⟩
  have HF1 := Lib.hid hf
  have HFW := Lib.hid (HF.out.trans hf)
  have HR1 : Hid (Rw w1.heap.size w1 v ls) := HR'.out _ HFW.out
  have HE1 : Hid (ErrType w1) := HE0.out.fr hf (by simp)
  have HBL1 : Hid (B < w1.heap.size) := Nat.lt_of_lt_of_le HBL.out hf.size
  have HB1 : Hid (LkB w1 B o f n a) := hf.get HB.out (by simp)
  clear hf HBL HB HE0 HE HR' HP'
  go_wp2_with (go_at_call 10; (with_reducible refine useC (ra_locked _ v ls HR1.out) ?_); rintro e w2 ⟨b, T, rfl, hs⟩; have S2 := Lib.hid hs; clear hs)
  have hneB : B ∉ [b] := by have := S2.out.ge; have := HBL1.out; simp; omega
  have HB2 : Hid (LkB w2 B o f n a) := S2.out.fr.get HB1.out (by simp)
  have L1 := Lib.hid (ra_Free w2 b T q 0 64 false S2.out.disk S2.out.ok.tab)
  by_cases hq : 0 ≤ q ∧ q ≤ 3
  · obtain ⟨qn, rfl⟩ : ∃ k : Nat, q = k := ⟨q.toNat, by omega⟩
    have hqn : qn < 4 := by omega
    clear hq
    by_cases hok : Ra.okL o f n
    · obtain ⟨T1, x, p1, p2, hO1, hg, p3, p4, hO2⟩ := Ra.free_plan S2.out.ok hqn (a := a) hok
      have P1 := Lib.hid p1
      have P2 := Lib.hid p2
      have HO1 := Lib.hid hO1
      have HG := Lib.hid hg
      have P3 := Lib.hid p3
      have HO2 := Lib.hid hO2
      have hfew := hO1.few
      clear p1 p2 hO1 hg p3 hO2
      go_wp2_with (first
        | (go_at_call 19; (with_reducible refine useC L1.out ?_); rintro e w3 ha; have he := ha.1; subst he; rw [P2.out] at ha; rw [P1.out, show errV 0 = .nilIface from rfl]; have S3 : Hid (RaSt w1 w3 b T1) := S2.out.ans ha HO1.out; have HB3 : Hid (LkB w3 B o f n a) := ha.2.2.get HB2.out hneB; clear ha; obtain ⟨k0, k1, k2, k3⟩ := HB3.out.cells; have L2 := Lib.hid (ra_Test w3 b T1 o f n a S3.out.disk HO1.out.tab.1))
        | (go_at_call 21; (with_reducible refine useC L2.out ?_); rintro e w4 ⟨rfl, hf⟩; rw [P3.out, show testAns (x, 0) = .tuple #[.int .i64 x, .nilIface] from rfl]; have S4 : Hid (RaSt w1 w4 b T1) := S3.out.fr' hf; have HB4 : Hid (LkB w4 B o f n a) := hf.get HB3.out (by simp); clear hf; have L3 := Lib.hid (ra_List w4 b T1 S4.out.disk HO1.out.tab))
        | (go_at_call 11; (with_reducible refine useC L3.out ?_); rintro e w5 ⟨v5, rfl, hown, hf⟩; obtain ⟨A, g, p, c, rfl, hA, hcs⟩ := lkf_of hown; have S5 := Lib.hid (S4.out.fr' hf); have HB5 : Hid (LkB w5 B o f n a) := hf.get HB4.out (by simp); have HA := Lib.hid hA; have HC := Lib.hid hcs; clear hown hf hA hcs))
      clear k0 k1 k2 k3
      generalize Ra.locks T1 = l at *
      go_loopw [12] (fun p wr => ∃ i : Nat, i ≤ l.length ∧ p = .int .i64 i ∧ Hid (Fr [] w5 wr)) (fun p _ => l.length - (intOf p).toNat)
      case atStart => exact ⟨0, Nat.zero_le _, rfl, Fr.refl _ _⟩
      case round =>
        obtain ⟨i, hi, rfl, hF⟩ := hrel
        by_cases hlt : i < l.length
        · have hi1 : (i : Int) < l.length := by omega
          obtain rfl := HA.out (by omega)
          obtain ⟨y0, y1, y2, y3⟩ := (HC.out.fr hF.out) i hlt
          have hne := HG.out l[i] (List.getElem_mem _)
          have q0 : (((l[i]).1 : Int) == (qn : Int)) = false := by simp; omega
          have q0' : ¬ ((l[i]).1 : Int) = (qn : Int) := by omega
          go_wp2
          go_roundw
          case rel => exact ⟨i + 1, by omega, by go_num, hF⟩
          case measure => simp [intOf]; omega
        · have h24 : (l.length : Int) ≤ 24 := by omega
          have SR := Lib.hid (S5.out.fr' hF.out)
          have HBR : Hid (LkB wr B o f n a) := hF.out.get HB5.out (by simp)
          obtain ⟨k0, k1, k2, k3⟩ := HBR.out.cells
          have L4 := Lib.hid (ra_Set wr b T1 o f n a SR.out.disk HO1.out.tab)
          rcases p4 with ⟨x0, hc6, hxq, hxo⟩ | ⟨rfl, hc, hta⟩
          · have C6 := Lib.hid hc6
            have d1 : decide ((0 : Int) ≤ x) = true := decide_eq_true x0
            have d2 : (x == (qn : Int)) = false := by simpa using hxq
            have d3 : (x == o) = false := by simpa using hxo
            clear hc6
            go_wp2_with (first
              | (go_at_call 14; (with_reducible refine useC L4.out ?_); rintro e w6 ha; have he := ha.1; subst he; rw [C6.out]; have S6 : Hid (RaSt w1 w6 b _) := SR.out.ans ha HO2.out; have HB6 : Hid (LkB w6 B o f n a) := ha.2.2.get HBR.out hneB; clear ha k0 k1 k2 k3; obtain ⟨k0, k1, k2, k3⟩ := HB6.out.cells; have HE6 : Hid (ErrType w6) := HE1.out.fr S6.out.fr (by simp))
              | (go_at_call 15; (with_reducible refine useC (error_yes 6 _ HE6.out) ?_); rintro e w7 ⟨rfl, hf⟩; have S7 := Lib.hid (S6.out.fr' hf); clear hf))
            go_ret
            exact ⟨ret_bool (by simp [bne, d2, d3]), HFW.out.trans S7.out.fr⟩
          · have TA := Lib.hid hta
            rcases hc with hc | hc
            · have C6 := Lib.hid hc
              clear hc hta
              go_wp2_with (first
                | (go_at_call 14; (with_reducible refine useC L4.out ?_); rintro e w6 ha; have he := ha.1; subst he; rw [C6.out, show errV 0 = .nilIface from rfl]; have S6 : Hid (RaSt w1 w6 b _) := SR.out.ans ha HO2.out; have HB6 : Hid (LkB w6 B o f n a) := ha.2.2.get HBR.out hneB; clear ha k0 k1 k2 k3; obtain ⟨k0, k1, k2, k3⟩ := HB6.out.cells; have L5 := Lib.hid (ra_Test w6 b _ o f n a S6.out.disk HO2.out.tab.1))
                | (go_at_call 21; (with_reducible refine useC L5.out ?_); rintro e w7 ⟨rfl, hf⟩; rw [TA.out, show testAns (-1, 0) = .tuple #[.int .i64 (-1), .nilIface] from rfl]; have S7 := Lib.hid (S6.out.fr' hf); clear hf))
              go_ret
              exact ⟨rfl, HFW.out.trans S7.out.fr⟩
            · have C6 := Lib.hid hc
              clear hc hta
              go_wp2_with (first
                | (go_at_call 14; (with_reducible refine useC L4.out ?_); rintro e w6 ha; have he := ha.1; subst he; rw [C6.out, errV_no (show (4 : Int) ≠ 0 by decide)]; have S6 : Hid (RaSt w1 w6 b _) := SR.out.ans ha HO2.out; have HB6 : Hid (LkB w6 B o f n a) := ha.2.2.get HBR.out hneB; clear ha k0 k1 k2 k3; obtain ⟨k0, k1, k2, k3⟩ := HB6.out.cells; have L5 := Lib.hid (ra_Test w6 b _ o f n a S6.out.disk HO2.out.tab.1))
                | (go_at_call 21; (with_reducible refine useC L5.out ?_); rintro e w7 ⟨rfl, hf⟩; rw [TA.out, show testAns (-1, 0) = .tuple #[.int .i64 (-1), .nilIface] from rfl]; have S7 := Lib.hid (S6.out.fr' hf); clear hf; have HE7 : Hid (ErrType w7) := HE1.out.fr S7.out.fr (by simp))
                | (go_at_call 15; (with_reducible refine useC (error_at 4 4 _ HE7.out) ?_); rw [show ((4 : Int) == 4) = true from rfl]; rintro e w8 ⟨rfl, hf⟩; have S8 := Lib.hid (S7.out.fr' hf); clear hf))
              go_ret
              exact ⟨rfl, HFW.out.trans S8.out.fr⟩
    · obtain ⟨p1, p2, hO1⟩ := Ra.free_good S2.out.ok hqn
      have P1 := Lib.hid p1
      have P2 := Lib.hid p2
      have HO1 := Lib.hid hO1
      have P3 := Lib.hid (Ra.test_bad (T := Ra.fillTo T qn 0 0 64) (a := a) hok)
      have HRF := Lib.hid (decide_eq_false hok)
      clear p1 p2 hO1 hok
      go_wp2_with (first
        | (go_at_call 19; (with_reducible refine useC L1.out ?_); rintro e w3 ha; have he := ha.1; subst he; rw [P2.out] at ha; rw [P1.out, show errV 0 = .nilIface from rfl]; have S3 : Hid (RaSt w1 w3 b _) := S2.out.ans ha HO1.out; have HB3 : Hid (LkB w3 B o f n a) := ha.2.2.get HB2.out hneB; clear ha; obtain ⟨k0, k1, k2, k3⟩ := HB3.out.cells; have L2 := Lib.hid (ra_Test w3 b _ o f n a S3.out.disk HO1.out.tab.1))
        | (go_at_call 21; (with_reducible refine useC L2.out ?_); rintro e w4 ⟨rfl, hf⟩; rw [P3.out, show testAns (0, 1) = .tuple #[.int .i64 0, .iface 66 (.int .i64 1)] from rfl]; have S4 := Lib.hid (S3.out.fr' hf); have HB4 : Hid (LkB w4 B o f n a) := hf.get HB3.out (by simp); clear hf k0 k1 k2 k3; obtain ⟨k0, k1, k2, k3⟩ := HB4.out.cells)
        | (go_at_call 18; (with_reducible refine useC (ra_right _ _ _ _ _) ?_); rw [HRF.out]; rintro e w5 ⟨rfl, hf⟩; have S5 := Lib.hid (S4.out.fr' hf); clear hf))
      go_ret
      exact ⟨rfl, HFW.out.trans S5.out.fr⟩
  · obtain ⟨p1, p2⟩ := Ra.free_bad (T := T) hq
    have P1 := Lib.hid p1
    have P2 := Lib.hid p2
    have HQ := Lib.hid (decide_eq_false hq)
    clear p1 p2 hq
    go_wp2_with (first
      | (go_at_call 19; (with_reducible refine useC L1.out ?_); rintro e w3 ha; have he := ha.1; subst he; rw [P2.out] at ha; rw [P1.out, errV_no (show (1 : Int) ≠ 0 by decide)]; have S3 : Hid (RaSt w1 w3 b T) := S2.out.ans ha S2.out.ok; clear ha)
      | (go_at_call 20; (with_reducible refine useC (law2_in _ _ _ false _ HQ.out) ?_); rintro e w4 ⟨rfl, rfl⟩))
    go_ret
    exact ⟨rfl, HFW.out.trans S3.out.fr⟩
end Go.Proofs.YtgljklefcfheaaaDoor
