/- RangesAlone: who is alone is alone. -/
import Derived.Test.YtgljklefcfheaaaDoorRaLaw
import Derived.IntWalk
namespace Go.Proofs.YtgljklefcfheaaaDoor
open Go.RowKit

/-- Locks, as they are read. -/
def LkF (w : World) (g o : Nat) (l : List Ra.Lk) : Prop := ∀ i (h : i < l.length), w.cell? ⟨g, o + i * 4, none⟩ = some (.int .i64 l[i].1) ∧ w.cell? ⟨g, o + i * 4 + 1, none⟩ = some (.int .i64 l[i].2.1) ∧ w.cell? ⟨g, o + i * 4 + 2, none⟩ = some (.int .i64 l[i].2.2.1) ∧ w.cell? ⟨g, o + i * 4 + 3, none⟩ = some (.bool l[i].2.2.2)
theorem LkF.fr {w w' : World} {g o : Nat} {l : List Ra.Lk} (h : LkF w g o l) (hf : Fr [] w w') : LkF w' g o l := fun i hi => by
  obtain ⟨h0, h1, h2, h3⟩ := h i hi
  exact ⟨hf.cell h0 (by simp), hf.cell h1 (by simp), hf.cell h2 (by simp), hf.cell h3 (by simp)⟩
/-- A list of locks that was made, in one form. -/
theorem lkf_of {w : World} {B e : Nat} {v : Value} {l : List Ra.Lk} (h : OwnR lkE w B e v l) : ∃ A g o c, v = .slice A l.length c ∧ (0 < l.length → A = some ⟨g, o, none⟩) ∧ LkF w g o l := by
  obtain ⟨g, _, hsl⟩ := h.sl
  obtain ⟨A, o, c, e, _, hA, hc⟩ := hsl.form
  refine ⟨A, g, o, c, e, hA, fun i hi => ?_⟩
  have hk : lkE.k = 4 := rfl
  have q := fun r hr => hc i hi r hr
  rw [hk] at q
  exact ⟨q 0 (by decide), q 1 (by decide), q 2 (by decide), q 3 (by decide)⟩
set_option maxRecDepth 100000 in
set_option maxHeartbeats 8000000 in
theorem ra_alone (w : World) (v : Value) (ls : List (List Int)) (hR : Rw w.heap.size w v ls) (hE : ErrType w) (hpos : 0 < w.heap.size) :
    Calls Tryd.prog 3 #[v] w (OkT w) := by
  have HR := Lib.hid hR
  have HE := Lib.hid hE
  have HP := Lib.hid hpos
  clear hR hE hpos
  go_enter Tryd.func3, Tryd.ntmps3
  go_wp2_with (first
    | (go_at_call 9; (with_reducible refine useC (ra_fact _ HE.out HP.out) ?_); rintro e w1 ⟨rfl, hf⟩; have HF1 := Lib.hid hf; have HR1 : Hid (Rw w1.heap.size w1 v ls) := (HR.out.mono1 hf); clear hf)
    | (go_at_call 10; (with_reducible refine useC (ra_locked _ v ls HR1.out) ?_); rintro e w2 ⟨b, T, rfl, hs⟩; have HS := Lib.hid hs; clear hs; have HLI := Lib.hid (ra_List w2 b T HS.out.disk HS.out.ok.tab))
    | (go_at_call 11; (with_reducible refine useC HLI.out ?_); rintro e w5 ⟨v5, rfl, hown, hf⟩; obtain ⟨A, g, o, c, rfl, hA, hcs⟩ := lkf_of hown; have HF5 := Lib.hid ((HF1.out.trans HS.out.fr).trans hf); have HA := Lib.hid hA; have HC := Lib.hid hcs; clear hown hf hA hcs))
  have HML := Lib.hid (fun k i (x y : Ra.Lk) (hk : k < i) (hx : (Ra.locks T)[k]? = some x) (hy : (Ra.locks T)[i]? = some y) => Ra.meet_law HS.out.ok hk hx hy)
  have HFT := Lib.hid (Ra.locks_fit HS.out.ok.tab).1
  have hfew := HS.out.ok.few
  generalize Ra.locks T = l at *
  go_loopw [5] (fun p wr => ∃ i : Nat, i ≤ l.length ∧ p = .int .i64 i ∧ Hid (Fr [] w5 wr)) (fun p _ => l.length - (intOf p).toNat)
  case atStart => exact ⟨0, Nat.zero_le _, rfl, Fr.refl _ _⟩
  case round =>
    obtain ⟨i, hi, rfl, hF⟩ := hrel
    by_cases hlt : i < l.length
    · have hi1 : (i : Int) < l.length := by omega
      obtain rfl := HA.out (by omega)
      go_wp2
      go_loopw [6] (fun p wr => ∃ k : Nat, k ≤ i ∧ p = .int .i64 k ∧ Hid (Fr [] w5 wr)) (fun p _ => i - (intOf p).toNat)
      case atStart => exact ⟨0, Nat.zero_le _, rfl, hF⟩
      case round =>
        obtain ⟨k, hk, rfl, hF2⟩ := hrel
        by_cases hki : k < i
        · have hk1 : (k : Int) < i := by omega
          have hk2 : (k : Int) < l.length := by omega
          obtain ⟨y0, y1, y2, y3⟩ := (HC.out.fr hF2.out) i hlt
          obtain ⟨x0, x1, x2, x3⟩ := (HC.out.fr hF2.out) k (by omega)
          obtain ⟨z0, z1, z2, z3⟩ := (HC.out.fr hF2.out.drew) i hlt
          obtain ⟨t0, t1, t2, t3⟩ := (HC.out.fr hF2.out.drew) k (by omega)
          have fy := HFT.out l[i] (List.getElem_mem _)
          have fx := HFT.out (l[k]'(by omega)) (List.getElem_mem _)
          have hml := Lib.hid (HML.out k i _ _ hki (List.getElem?_eq_getElem (by omega)) (List.getElem?_eq_getElem hlt))
          have by1 := fy.2.2.1
          have bx1 := fx.2.2.1
          clear fy fx
          generalize l[i] = Y at *
          generalize (l[k]'(by omega)) = X at *
          obtain ⟨yo, yf, yn, ya⟩ := Y
          obtain ⟨xo, xf, xn, xa⟩ := X
          simp only at y0 y1 y2 y3 x0 x1 x2 x3 z0 z1 z2 z3 t0 t1 t2 t3 by1 bx1
          have cy1 : (yf : Int) ≤ 64 := by omega
          have cy2 : (yn : Int) ≤ 64 := by omega
          have cx1 : (xf : Int) ≤ 64 := by omega
          have cx2 : (xn : Int) ≤ 64 := by omega
          have cw1 : IntKind.i64.wrap ((xf : Int) + xn) = (xf : Int) + xn := IntWalk.i64_in _ (by omega)
          have cw2 : IntKind.i64.wrap ((yf : Int) + yn) = (yf : Int) + yn := IntWalk.i64_in _ (by omega)
          by_cases hm1 : yf < xf + xn
          · have d1 : decide ((yf : Int) < (xf : Int) + xn) = true := decide_eq_true (by omega)
            have d1' : (yf : Int) < (xf : Int) + xn := by omega
            by_cases hm2 : xf < yf + yn
            · have d2 : decide ((xf : Int) < (yf : Int) + yn) = true := decide_eq_true (by omega)
              have d2' : (xf : Int) < (yf : Int) + yn := by omega
              obtain ⟨q1, q2, q3⟩ := hml.out hm1 hm2
              simp only at q1 q2 q3
              subst q2 q3
              have q4 : ((yo : Int) == (xo : Int)) = false := by simp; omega
              have q5 : ¬ (yo : Int) = (xo : Int) := by omega
              have n1 : decide (yf < xf + xn) = true := decide_eq_true hm1
              have n2 : decide (xf < yf + yn) = true := decide_eq_true hm2
              clear hml q1 by1 bx1
              go_wp2
              (refine wp_region_mixq 34 [(true, 0), (true, 1), (true, 2), (true, 3), (true, 4), (true, 5), (true, 6), (true, 7), (true, 8), (true, 9), (true, 10), (true, 11), (true, 12), (true, 13), (true, 14), (true, 15), (true, 16), (true, 17), (true, 18), (true, 19), (true, 20), (true, 21), (true, 22), (true, 23), (true, 24), (true, 25), (true, 26), (true, 27), (true, 28), (true, 29), (true, 30), (true, 31), (true, 32), (true, 33)] (by kernel_rfl) (by kernel_rfl) ?_; simp only [pickOps, List.map_cons, List.map_nil, List.getD_cons_zero, List.getD_cons_succ, List.drop_succ_cons, List.drop_zero]; (iterate 34 (first | (refine wpMix_take (v := ?_) (by rfl) ?_ ?_; rotate_left; (focus (intro W hW; subst hW; go_simp; (try with_reducible rfl); done)); try simp only [Act.put, List.setIfInBounds_toArray, List.set_cons_zero, List.set_cons_succ]) | (refine wpMix_leave (by rfl) ?_; try simp only [Act.put, List.setIfInBounds_toArray, List.set_cons_zero, List.set_cons_succ]))); refine wpMix_nil ?_)
              go_wp2
              (refine wp_region_mixq 23 [(true, 0), (true, 1), (true, 2), (true, 3), (true, 4), (true, 5), (true, 6), (true, 7), (true, 8), (true, 9), (true, 10), (true, 11), (true, 12), (true, 13), (true, 14), (true, 15), (true, 16), (true, 17), (true, 18), (true, 19), (true, 20), (true, 21), (true, 22)] (by kernel_rfl) (by kernel_rfl) ?_; simp only [pickOps, List.map_cons, List.map_nil, List.getD_cons_zero, List.getD_cons_succ, List.drop_succ_cons, List.drop_zero]; (iterate 23 (first | (refine wpMix_take (v := ?_) (by rfl) ?_ ?_; rotate_left; (focus (intro W hW; subst hW; go_simp; (try with_reducible rfl); done)); try simp only [Act.put, List.setIfInBounds_toArray, List.set_cons_zero, List.set_cons_succ]) | (refine wpMix_leave (by rfl) ?_; try simp only [Act.put, List.setIfInBounds_toArray, List.set_cons_zero, List.set_cons_succ]))); refine wpMix_nil ?_)
              go_wp2
              go_roundw
              case rel => exact ⟨k + 1, by omega, by go_num, hF2.out.drew.drew⟩
              case measure => simp [intOf]; omega
            · have d2 : decide ((xf : Int) < (yf : Int) + yn) = false := decide_eq_false (by omega)
              have d2' : ¬ (xf : Int) < (yf : Int) + yn := by omega
              have n1 : decide (yf < xf + xn) = true := decide_eq_true hm1
              have n2 : decide (xf < yf + yn) = false := decide_eq_false hm2
              clear hml by1 bx1
              go_wp2
              (refine wp_region_mixq 34 [(true, 0), (true, 1), (true, 2), (true, 3), (true, 4), (true, 5), (true, 6), (true, 7), (true, 8), (true, 9), (true, 10), (true, 11), (true, 12), (true, 13), (true, 14), (true, 15), (true, 16), (true, 17), (true, 18), (true, 19), (true, 20), (true, 21), (true, 22), (true, 23), (true, 24), (true, 25), (true, 26), (true, 27), (true, 28), (true, 29), (true, 30), (true, 31), (true, 32), (true, 33)] (by kernel_rfl) (by kernel_rfl) ?_; simp only [pickOps, List.map_cons, List.map_nil, List.getD_cons_zero, List.getD_cons_succ, List.drop_succ_cons, List.drop_zero]; (iterate 34 (first | (refine wpMix_take (v := ?_) (by rfl) ?_ ?_; rotate_left; (focus (intro W hW; subst hW; go_simp; (try with_reducible rfl); done)); try simp only [Act.put, List.setIfInBounds_toArray, List.set_cons_zero, List.set_cons_succ]) | (refine wpMix_leave (by rfl) ?_; try simp only [Act.put, List.setIfInBounds_toArray, List.set_cons_zero, List.set_cons_succ]))); refine wpMix_nil ?_)
              go_wp2
              (refine wp_region_mixq 23 [(true, 0), (true, 1), (true, 2), (true, 3), (true, 4), (true, 5), (true, 6), (true, 7), (true, 8), (true, 9), (true, 10), (true, 11), (true, 12), (true, 13), (true, 14), (true, 15), (true, 16), (true, 17), (true, 18), (true, 19), (true, 20), (true, 21), (true, 22)] (by kernel_rfl) (by kernel_rfl) ?_; simp only [pickOps, List.map_cons, List.map_nil, List.getD_cons_zero, List.getD_cons_succ, List.drop_succ_cons, List.drop_zero]; (iterate 23 (first | (refine wpMix_take (v := ?_) (by rfl) ?_ ?_; rotate_left; (focus (intro W hW; subst hW; go_simp; (try with_reducible rfl); done)); try simp only [Act.put, List.setIfInBounds_toArray, List.set_cons_zero, List.set_cons_succ]) | (refine wpMix_leave (by rfl) ?_; try simp only [Act.put, List.setIfInBounds_toArray, List.set_cons_zero, List.set_cons_succ]))); refine wpMix_nil ?_)
              go_wp2
              go_roundw
              case rel => exact ⟨k + 1, by omega, by go_num, hF2.out.drew.drew⟩
              case measure => simp [intOf]; omega
          · have d1 : decide ((yf : Int) < (xf : Int) + xn) = false := decide_eq_false (by omega)
            have d1' : ¬ (yf : Int) < (xf : Int) + xn := by omega
            have n1 : decide (yf < xf + xn) = false := decide_eq_false hm1
            clear hml by1 bx1
            go_wp2
            (refine wp_region_mixq 34 [(true, 0), (true, 1), (true, 2), (true, 3), (true, 4), (true, 5), (true, 6), (true, 7), (true, 8), (true, 9), (true, 10), (true, 11), (true, 12), (true, 13), (true, 14), (true, 15), (true, 16), (true, 17), (true, 18), (true, 19), (true, 20), (true, 21), (true, 22), (true, 23), (true, 24), (true, 25), (true, 26), (true, 27), (true, 28), (true, 29), (true, 30), (true, 31), (true, 32), (true, 33)] (by kernel_rfl) (by kernel_rfl) ?_; simp only [pickOps, List.map_cons, List.map_nil, List.getD_cons_zero, List.getD_cons_succ, List.drop_succ_cons, List.drop_zero]; (iterate 34 (first | (refine wpMix_take (v := ?_) (by rfl) ?_ ?_; rotate_left; (focus (intro W hW; subst hW; go_simp; (try with_reducible rfl); done)); try simp only [Act.put, List.setIfInBounds_toArray, List.set_cons_zero, List.set_cons_succ]) | (refine wpMix_leave (by rfl) ?_; try simp only [Act.put, List.setIfInBounds_toArray, List.set_cons_zero, List.set_cons_succ]))); refine wpMix_nil ?_)
            go_wp2
            (refine wp_region_mixq 23 [(true, 0), (true, 1), (true, 2), (true, 3), (true, 4), (true, 5), (true, 6), (true, 7), (true, 8), (true, 9), (true, 10), (true, 11), (true, 12), (true, 13), (true, 14), (true, 15), (true, 16), (true, 17), (true, 18), (true, 19), (true, 20), (true, 21), (true, 22)] (by kernel_rfl) (by kernel_rfl) ?_; simp only [pickOps, List.map_cons, List.map_nil, List.getD_cons_zero, List.getD_cons_succ, List.drop_succ_cons, List.drop_zero]; (iterate 23 (first | (refine wpMix_take (v := ?_) (by rfl) ?_ ?_; rotate_left; (focus (intro W hW; subst hW; go_simp; (try with_reducible rfl); done)); try simp only [Act.put, List.setIfInBounds_toArray, List.set_cons_zero, List.set_cons_succ]) | (refine wpMix_leave (by rfl) ?_; try simp only [Act.put, List.setIfInBounds_toArray, List.set_cons_zero, List.set_cons_succ]))); refine wpMix_nil ?_)
            go_wp2
            go_roundw
            case rel => exact ⟨k + 1, by omega, by go_num, hF2.out.drew.drew⟩
            case measure => simp [intOf]; omega
        · go_wp2
          go_roundw
          case rel => exact ⟨i + 1, by omega, by go_num, hF2⟩
          case measure => simp [intOf]; omega
    · have h24 : (l.length : Int) ≤ 24 := by omega
      go_wp2
      go_ret
      exact ⟨ret_bool (by simp), HF5.out.trans hF.out⟩
end Go.Proofs.YtgljklefcfheaaaDoor
