/- RangesOne: the list is right, in order and one. -/
import Derived.Test.YtgljklefcfheaaaDoorRaLaw
import Derived.Test.YtgljklefcfheaaaDoorRaRight
import Derived.Test.YtgljklefcfheaaaDoorRaAlone
import Derived.IntWalk
namespace Go.Proofs.YtgljklefcfheaaaDoor
open Go.RowKit

theorem cell_row {w : World} {g o : Nat} {x : Value} (h : w.cell? ⟨g, o, none⟩ = some x) : ∃ cur t fr, w.heap[g]? = some (.cells cur t fr) ∧ cur[o]? = some x := by
  unfold World.cell? at h
  cases hg : w.heap[g]? with
  | none => simp [hg] at h
  | some ob =>
    cases ob with
    | cells cur t fr => exact ⟨cur, t, fr, rfl, by simpa [hg] using h⟩
    | _ => simp [hg] at h
theorem lkf_row {w : World} {g p : Nat} {a b c d : Value} (h0 : w.cell? ⟨g, p, none⟩ = some a) (h1 : w.cell? ⟨g, p + 1, none⟩ = some b) (h2 : w.cell? ⟨g, p + 2, none⟩ = some c) (h3 : w.cell? ⟨g, p + 3, none⟩ = some d) :
    ∃ cur t fr, w.heap[g]? = some (.cells cur t fr) ∧ p + 4 ≤ cur.size ∧ ((cur.toList.drop p).take 4).toArray = #[a, b, c, d] := by
  obtain ⟨cur, t, fr, hg, q0⟩ := cell_row h0
  obtain ⟨c1, t1, f1, g1, q1⟩ := cell_row h1
  obtain ⟨c2, t2, f2, g2, q2⟩ := cell_row h2
  obtain ⟨c3, t3, f3, g3, q3⟩ := cell_row h3
  rw [hg] at g1 g2 g3
  injection g1 with g1
  injection g2 with g2
  injection g3 with g3
  injection g1 with e1
  injection g2 with e2
  injection g3 with e3
  subst e1 e2 e3
  obtain ⟨hs, hq3⟩ := Array.getElem?_eq_some_iff.1 q3
  refine ⟨cur, t, fr, hg, by omega, ?_⟩
  apply Array.ext'
  apply List.ext_getElem?
  intro i
  match i with
  | 0 => simpa [List.getElem?_take, List.getElem?_drop] using q0
  | 1 => simpa [List.getElem?_take, List.getElem?_drop] using q1
  | 2 => simpa [List.getElem?_take, List.getElem?_drop] using q2
  | 3 => simpa [List.getElem?_take, List.getElem?_drop] using q3
  | j + 4 => simp [List.getElem?_take]; omega

set_option maxRecDepth 100000 in
set_option maxHeartbeats 8000000 in
theorem ra_one (w : World) (v : Value) (ls : List (List Int)) (hR : Rw w.heap.size w v ls) (hE : ErrType w) (hpos : 0 < w.heap.size) :
    Calls Tryd.prog 5 #[v] w (OkT w) := by
  have HR := Lib.hid hR
  have HE := Lib.hid hE
  have HP := Lib.hid hpos
  clear hR hE hpos
  go_enter Tryd.func5, Tryd.ntmps5
  go_wp2_with (first
    | (go_at_call 9; (with_reducible refine useC (ra_fact _ HE.out HP.out) ?_); rintro e w1 ⟨rfl, hf⟩; have HF1 := Lib.hid hf; have HR1 : Hid (Rw w1.heap.size w1 v ls) := (HR.out.mono1 hf); clear hf)
    | (go_at_call 10; (with_reducible refine useC (ra_locked _ v ls HR1.out) ?_); rintro e w2 ⟨b, T, rfl, hs⟩; have HS := Lib.hid hs; clear hs; have HLI := Lib.hid (ra_List w2 b T HS.out.disk HS.out.ok.tab))
    | (go_at_call 11; (with_reducible refine useC HLI.out ?_); rintro e w5 ⟨v5, rfl, hown, hf⟩; obtain ⟨A, g, o, c, rfl, hA, hcs⟩ := lkf_of hown; have HF5 := Lib.hid ((HF1.out.trans HS.out.fr).trans hf); have HA := Lib.hid hA; have HC := Lib.hid hcs; clear hown hf hA hcs))
  have HML := Lib.hid (fun k i (x y : Ra.Lk) (hk : k < i) (hx : (Ra.locks T)[k]? = some x) (hy : (Ra.locks T)[i]? = some y) => Ra.nb_law HS.out.ok hk hx hy)
  have HFT := Lib.hid (fun (x : Ra.Lk) (hx : x ∈ Ra.locks T) => Ra.right_law HS.out.ok hx)
  have hfew := HS.out.ok.few
  generalize Ra.locks T = l at *
  go_loopw [5] (fun p wr => ∃ i : Nat, i ≤ l.length ∧ p = .int .i64 i ∧ Hid (Fr [] w5 wr)) (fun p _ => l.length - (intOf p).toNat)
  case atStart => exact ⟨0, Nat.zero_le _, rfl, Fr.refl _ _⟩
  case round =>
    obtain ⟨i, hi, rfl, hF⟩ := hrel
    by_cases hlt : i < l.length
    · have hi1 : (i : Int) < l.length := by omega
      obtain rfl := HA.out (by omega)
      obtain ⟨y0, y1, y2, y3⟩ := (HC.out.fr hF.out) i hlt
      obtain ⟨cur, tt, ff, hgd, hsz, hvs⟩ := lkf_row y0 y1 y2 y3
      have HGD := Lib.hid hgd
      have HSZ := Lib.hid hsz
      have HVS := Lib.hid hvs
      have hok := HFT.out l[i] (List.getElem_mem _)
      have HRT := Lib.hid (decide_eq_true hok)
      clear y0 y1 y2 y3 hgd hsz hvs
      go_wp2_with (first
        | (refine wpList_load_part rfl 29 _ rfl g (o + i * 4) 4 rfl tt cur ff _ HGD.out Tryd.underlying29 rfl (by kernel_rfl) HSZ.out _ HVS.out ?_)
        | (go_at_call 18; (with_reducible refine useC (ra_right _ _ _ _ _) ?_); rw [HRT.out]; rintro e w6 ⟨rfl, hf⟩; have HF6 : Hid (Fr [] w5 w6) := (hF.out.trans hf); clear hf))
      rcases Nat.eq_zero_or_pos i with h0 | h0
      · have q0 : ((i : Int) == 0) = true := by simp [h0]
        have q0' : (i : Int) = 0 := by omega
        clear h0
        (refine wp_region_mixq 14 [(true, 0), (true, 1), (true, 2), (true, 3), (true, 4), (true, 5), (true, 6), (true, 7), (true, 8), (true, 9), (true, 10), (true, 11), (true, 12), (true, 13)] (by kernel_rfl) (by kernel_rfl) ?_; simp only [pickOps, List.map_cons, List.map_nil, List.getD_cons_zero, List.getD_cons_succ, List.drop_succ_cons, List.drop_zero]; (iterate 14 (first | (refine wpMix_take (v := ?_) (by rfl) ?_ ?_; rotate_left; (focus (intro W hW; subst hW; go_simp; (try with_reducible rfl); done)); try simp only [Act.put, List.setIfInBounds_toArray, List.set_cons_zero, List.set_cons_succ]) | (refine wpMix_leave (by rfl) ?_; try simp only [Act.put, List.setIfInBounds_toArray, List.set_cons_zero, List.set_cons_succ]))); refine wpMix_nil ?_)
        go_wp2
        go_roundw
        case rel => exact ⟨i + 1, by omega, by go_num, HF6.out.drew⟩
        case measure => simp [intOf]; omega
      · have q0 : ((i : Int) == 0) = false := by simp; omega
        have q0' : ¬ (i : Int) = 0 := by omega
        obtain ⟨k, hk⟩ : ∃ k, k + 1 = i := ⟨i - 1, by omega⟩
        have hki : k < i := by omega
        have hk2 : (k : Int) < l.length := by omega
        have hw1 : IntKind.i64.wrap ((i : Int) - 1) = (k : Int) := by rw [IntWalk.i64_in _ (by omega)]; omega
        clear hk h0
        obtain ⟨y0, y1, y2, y3⟩ := (HC.out.fr HF6.out) i hlt
        obtain ⟨x0, x1, x2, x3⟩ := (HC.out.fr HF6.out) k (by omega)
        obtain ⟨z0, z1, z2, z3⟩ := (HC.out.fr HF6.out.drew) i hlt
        obtain ⟨t0, t1, t2, t3⟩ := (HC.out.fr HF6.out.drew) k (by omega)
        obtain ⟨u0, u1, u2, u3⟩ := (HC.out.fr HF6.out.drew.drew) i hlt
        obtain ⟨v0, v1, v2, v3⟩ := (HC.out.fr HF6.out.drew.drew) k (by omega)
        have fy := hok
        have fx := HFT.out (l[k]'(by omega)) (List.getElem_mem _)
        have hnb := HML.out k i _ _ hki (List.getElem?_eq_getElem (by omega)) (List.getElem?_eq_getElem hlt)
        unfold Ra.Nb at hnb
        clear hok HRT HVS HSZ HGD
        generalize l[i] = Y at *
        generalize (l[k]'(by omega)) = X at *
        obtain ⟨yo, yf, yn, ya⟩ := Y
        obtain ⟨xo, xf, xn, xa⟩ := X
        simp only at y0 y1 y2 y3 x0 x1 x2 x3 z0 z1 z2 z3 t0 t1 t2 t3 u0 u1 u2 u3 v0 v1 v2 v3 fx fy hnb
        obtain ⟨⟨fx1, fx2⟩, ⟨fx3, fx4⟩, fx5, fx6⟩ := fx
        obtain ⟨⟨fy1, fy2⟩, ⟨fy3, fy4⟩, fy5, fy6⟩ := fy
        have cw1 : IntKind.i64.wrap ((xf : Int) + xn) = (xf : Int) + xn := IntWalk.i64_in _ (by omega)
        by_cases hc : xo < yo
        · have q1 : decide ((xo : Int) < yo) = true := decide_eq_true (by omega)
          have q1' : (xo : Int) < yo := by omega
          clear hnb
          (refine wp_region_mixq 14 [(true, 0), (true, 1), (true, 2), (true, 3), (true, 4), (true, 5), (true, 6), (true, 7), (true, 8), (true, 9), (true, 10), (true, 11), (true, 12), (true, 13)] (by kernel_rfl) (by kernel_rfl) ?_; simp only [pickOps, List.map_cons, List.map_nil, List.getD_cons_zero, List.getD_cons_succ, List.drop_succ_cons, List.drop_zero]; (iterate 14 (first | (refine wpMix_take (v := ?_) (by rfl) ?_ ?_; rotate_left; (focus (intro W hW; subst hW; go_simp; (try with_reducible rfl); done)); try simp only [Act.put, List.setIfInBounds_toArray, List.set_cons_zero, List.set_cons_succ]) | (refine wpMix_leave (by rfl) ?_; try simp only [Act.put, List.setIfInBounds_toArray, List.set_cons_zero, List.set_cons_succ]))); refine wpMix_nil ?_)
          go_wp2
          go_roundw
          case rel => exact ⟨i + 1, by omega, by go_num, HF6.out.drew⟩
          case measure => simp [intOf]; omega
        · have q1 : decide ((xo : Int) < yo) = false := decide_eq_false (by omega)
          have q1' : ¬ (xo : Int) < yo := by omega
          have hnb' : xo = yo ∧ xf + xn ≤ yf ∧ (xf + xn = yf → xa ≠ ya) := by rcases hnb with h | h; exact absurd h hc; exact h
          obtain ⟨g1, g2, g3⟩ := hnb'
          have q2 : decide ((yo : Int) < xo) = false := decide_eq_false (by omega)
          have q2' : ¬ (yo : Int) < xo := by omega
          have q3 : decide ((yf : Int) < (xf : Int) + xn) = false := decide_eq_false (by omega)
          have q3' : ¬ (yf : Int) < (xf : Int) + xn := by omega
          have n2 : decide (yo < xo) = false := decide_eq_false (by omega)
          have n3 : decide (yf < xf + xn) = false := decide_eq_false (by omega)
          have n2' : ¬ yo < xo := by omega
          have n3' : ¬ yf < xf + xn := by omega
          clear hnb g1
          by_cases he : xf + xn = yf
          · have q4 : ((xf : Int) + xn == yf) = true := by simp; omega
            have q4' : (xf : Int) + xn = yf := by omega
            have n4 : (xf + xn == yf) = true := by simp; omega
            have q5 : (xa == ya) = false := by simpa using g3 he
            clear g3 he g2
            (refine wp_region_mixq 14 [(true, 0), (true, 1), (true, 2), (true, 3), (true, 4), (true, 5), (true, 6), (true, 7), (true, 8), (true, 9), (true, 10), (true, 11), (true, 12), (true, 13)] (by kernel_rfl) (by kernel_rfl) ?_; simp only [pickOps, List.map_cons, List.map_nil, List.getD_cons_zero, List.getD_cons_succ, List.drop_succ_cons, List.drop_zero]; (iterate 14 (first | (refine wpMix_take (v := ?_) (by rfl) ?_ ?_; rotate_left; (focus (intro W hW; subst hW; go_simp; (try with_reducible rfl); done)); try simp only [Act.put, List.setIfInBounds_toArray, List.set_cons_zero, List.set_cons_succ]) | (refine wpMix_leave (by rfl) ?_; try simp only [Act.put, List.setIfInBounds_toArray, List.set_cons_zero, List.set_cons_succ]))); refine wpMix_nil ?_)
            go_wp2
            (refine wp_region_mixq 12 [(true, 0), (true, 1), (true, 2), (true, 3), (true, 4), (true, 5), (true, 6), (true, 7), (true, 8), (true, 9), (true, 10), (true, 11)] (by kernel_rfl) (by kernel_rfl) ?_; simp only [pickOps, List.map_cons, List.map_nil, List.getD_cons_zero, List.getD_cons_succ, List.drop_succ_cons, List.drop_zero]; (iterate 12 (first | (refine wpMix_take (v := ?_) (by rfl) ?_ ?_; rotate_left; (focus (intro W hW; subst hW; go_simp; (try with_reducible rfl); done)); try simp only [Act.put, List.setIfInBounds_toArray, List.set_cons_zero, List.set_cons_succ]) | (refine wpMix_leave (by rfl) ?_; try simp only [Act.put, List.setIfInBounds_toArray, List.set_cons_zero, List.set_cons_succ]))); refine wpMix_nil ?_)
            go_wp2
            clear y0 y1 y2 y3 x0 x1 x2 x3 z0 z1 z2 z3 t0 t1 t2 t3 q0 q1
            (refine wp_region_mixq 41 [(true, 0), (true, 1), (true, 2), (true, 3), (true, 4), (true, 5), (true, 6), (true, 7), (true, 8), (true, 9), (true, 10), (true, 11), (true, 12), (true, 13), (true, 14), (true, 15), (true, 16), (true, 17), (true, 18), (true, 19), (true, 20), (true, 21), (true, 22), (true, 23), (true, 24), (true, 25), (true, 26), (true, 27), (true, 28), (true, 29), (true, 30), (true, 31), (true, 32), (true, 33), (true, 34), (true, 35), (true, 36), (true, 37), (true, 38), (true, 39), (true, 40)] (by kernel_rfl) (by kernel_rfl) ?_; simp only [pickOps, List.map_cons, List.map_nil, List.getD_cons_zero, List.getD_cons_succ, List.drop_succ_cons, List.drop_zero]; (iterate 41 (first | (refine wpMix_take (v := ?_) (by rfl) ?_ ?_; rotate_left; (focus (intro W hW; subst hW; go_simp; (try with_reducible rfl); done)); try simp only [Act.put, List.setIfInBounds_toArray, List.set_cons_zero, List.set_cons_succ]) | (refine wpMix_leave (by rfl) ?_; try simp only [Act.put, List.setIfInBounds_toArray, List.set_cons_zero, List.set_cons_succ]))); refine wpMix_nil ?_)
            go_wp2
            go_roundw
            case rel => exact ⟨i + 1, by omega, by go_num, HF6.out.drew.drew.drew⟩
            case measure => simp [intOf]; omega
          · have q4 : ((xf : Int) + xn == yf) = false := by simp; omega
            have q4' : ¬ (xf : Int) + xn = yf := by omega
            have n4 : (xf + xn == yf) = false := by simp; omega
            clear g3 he g2
            (refine wp_region_mixq 14 [(true, 0), (true, 1), (true, 2), (true, 3), (true, 4), (true, 5), (true, 6), (true, 7), (true, 8), (true, 9), (true, 10), (true, 11), (true, 12), (true, 13)] (by kernel_rfl) (by kernel_rfl) ?_; simp only [pickOps, List.map_cons, List.map_nil, List.getD_cons_zero, List.getD_cons_succ, List.drop_succ_cons, List.drop_zero]; (iterate 14 (first | (refine wpMix_take (v := ?_) (by rfl) ?_ ?_; rotate_left; (focus (intro W hW; subst hW; go_simp; (try with_reducible rfl); done)); try simp only [Act.put, List.setIfInBounds_toArray, List.set_cons_zero, List.set_cons_succ]) | (refine wpMix_leave (by rfl) ?_; try simp only [Act.put, List.setIfInBounds_toArray, List.set_cons_zero, List.set_cons_succ]))); refine wpMix_nil ?_)
            go_wp2
            (refine wp_region_mixq 12 [(true, 0), (true, 1), (true, 2), (true, 3), (true, 4), (true, 5), (true, 6), (true, 7), (true, 8), (true, 9), (true, 10), (true, 11)] (by kernel_rfl) (by kernel_rfl) ?_; simp only [pickOps, List.map_cons, List.map_nil, List.getD_cons_zero, List.getD_cons_succ, List.drop_succ_cons, List.drop_zero]; (iterate 12 (first | (refine wpMix_take (v := ?_) (by rfl) ?_ ?_; rotate_left; (focus (intro W hW; subst hW; go_simp; (try with_reducible rfl); done)); try simp only [Act.put, List.setIfInBounds_toArray, List.set_cons_zero, List.set_cons_succ]) | (refine wpMix_leave (by rfl) ?_; try simp only [Act.put, List.setIfInBounds_toArray, List.set_cons_zero, List.set_cons_succ]))); refine wpMix_nil ?_)
            go_wp2
            clear y0 y1 y2 y3 x0 x1 x2 x3 z0 z1 z2 z3 t0 t1 t2 t3 q0 q1
            (refine wp_region_mixq 41 [(true, 0), (true, 1), (true, 2), (true, 3), (true, 4), (true, 5), (true, 6), (true, 7), (true, 8), (true, 9), (true, 10), (true, 11), (true, 12), (true, 13), (true, 14), (true, 15), (true, 16), (true, 17), (true, 18), (true, 19), (true, 20), (true, 21), (true, 22), (true, 23), (true, 24), (true, 25), (true, 26), (true, 27), (true, 28), (true, 29), (true, 30), (true, 31), (true, 32), (true, 33), (true, 34), (true, 35), (true, 36), (true, 37), (true, 38), (true, 39), (true, 40)] (by kernel_rfl) (by kernel_rfl) ?_; simp only [pickOps, List.map_cons, List.map_nil, List.getD_cons_zero, List.getD_cons_succ, List.drop_succ_cons, List.drop_zero]; (iterate 41 (first | (refine wpMix_take (v := ?_) (by rfl) ?_ ?_; rotate_left; (focus (intro W hW; subst hW; go_simp; (try with_reducible rfl); done)); try simp only [Act.put, List.setIfInBounds_toArray, List.set_cons_zero, List.set_cons_succ]) | (refine wpMix_leave (by rfl) ?_; try simp only [Act.put, List.setIfInBounds_toArray, List.set_cons_zero, List.set_cons_succ]))); refine wpMix_nil ?_)
            go_wp2
            go_roundw
            case rel => exact ⟨i + 1, by omega, by go_num, HF6.out.drew.drew.drew⟩
            case measure => simp [intOf]; omega
    · have h24 : (l.length : Int) ≤ 24 := by omega
      go_wp2
      go_ret
      exact ⟨ret_bool (by simp), HF5.out.trans hF.out⟩
end Go.Proofs.YtgljklefcfheaaaDoor
