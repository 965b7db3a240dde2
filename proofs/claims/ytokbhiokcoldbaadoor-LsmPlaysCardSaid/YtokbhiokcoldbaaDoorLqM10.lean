/- byKey of package lsm: two keys held against each other. -/

import Derived.Test.YtokbhiokcoldbaaDoorLqM02
import Derived.Test.YtokbhiokcoldbaaDoorLqM03
import Derived.Test.YtokbhiokcoldbaaDoorLqM08
namespace Go.Proofs.YtokbhiokcoldbaaDoor
open Go.RowKit

def cmpI (a b : Int) : Int := if a < b then -1 else if b < a then 1 else 0
theorem cmp_any (a b : Int) (w : World) : Calls Tryd.prog 104 #[.int .i64 a, .int .i64 b] w fun e w' => e = .returned (.int .i64 (cmpI a b)) ∧ w' = w := by
  unfold cmpI
  by_cases h1 : a < b
  · rw [if_pos h1]
    go_enter Tryd.func104, Tryd.ntmps104
    go_wp2
    go_ret
    exact ⟨rfl, rfl⟩
  · rw [if_neg h1]
    by_cases h2 : b < a
    · rw [if_pos h2]
      go_enter Tryd.func104, Tryd.ntmps104
      go_wp2
      go_ret
      exact ⟨rfl, rfl⟩
    · rw [if_neg h2]
      go_enter Tryd.func104, Tryd.ntmps104
      go_wp2
      go_ret
      exact ⟨rfl, rfl⟩
set_option maxRecDepth 100000 in
theorem ls_byKey (a x b y : Int) (w : World) : Calls Tryd.prog 89 #[.agg #[.int .i64 a, .int .i64 x], .agg #[.int .i64 b, .int .i64 y]] w fun e w' => e = .returned (.int .i64 (cmpI a b)) ∧ Fr [] w w' := by
  have HC := Lib.hid (fun W => cmp_any a b W)
  go_enter Tryd.func89, Tryd.ntmps89
  go_wp2_with (go_at_call 104; (with_reducible refine useC (HC.out _) ?_); rintro e w2 ⟨rfl, rfl⟩)
  go_ret
  exact ⟨rfl, ((Fr.refl [] w).alloc _).alloc _⟩
end Go.Proofs.YtokbhiokcoldbaaDoor
/- slices.BinarySearchFunc at a table of entries, by Go's text of it. -/
namespace Go.Proofs.YtokbhiokcoldbaaDoor
open Go.RowKit

/-- An entry as an element of a row. -/
def entE : Enc (Int × Int) where
  k := 2
  enc := fun e => [.int .i64 e.1, .int .i64 e.2]
  len := fun _ => rfl
  one := fun e v hv => by simp only [List.mem_cons, List.not_mem_nil, or_false] at hv; rcases hv with rfl | rfl <;> rfl
  pos := by decide
set_option maxRecDepth 100000 in
set_option maxHeartbeats 4000000 in
theorem ls_bs (w : World) (v : Value) (g : Nat) (l : List (Int × Int)) (e : Int × Int) (h : SlR entE w v g l) (hu : Ls.Up l) (hl : l.length ≤ 100000) :
    Calls Tryd.prog 88 #[v, .agg #[.int .i64 e.1, .int .i64 e.2], .func (.func 89) #[] #[]] w fun e' w' => (∃ b : Bool, e' = .returned (.tuple #[.int .i64 (Ls.lb e.1 l), .bool b]) ∧ (b = true ↔ ∃ hl : Ls.lb e.1 l < l.length, l[Ls.lb e.1 l].1 = e.1)) ∧ Fr [] w w' := by
  obtain ⟨A, o, c, rfl, -, hA, hc⟩ := h.form
  have HA := Lib.hid hA
  have HC := Lib.hid (fun W (hW : Fr [] w W) i (hi : i < l.length) => And.intro (hW.cell (v := .int .i64 l[i].1) (by simpa [entE] using hc i hi 0 (by decide)) (by simp)) (hW.cell (v := .int .i64 l[i].2) (by simpa [entE] using hc i hi 1 (by decide)) (by simp)))
  clear hA hc h
  obtain ⟨k, x⟩ := e
  dsimp only
  have HBL := Lib.hid (Ls.lb_below k l)
  have HAB := Lib.hid (Ls.lb_above k l hu)
  have HLE := Lib.hid (Ls.lb_le k l)
  clear hu
  generalize Ls.lb k l = p at *
  go_enter Tryd.func88, Tryd.ntmps88
  go_wp2_with fail
  have hbx := heap_alloc_new w (.cells #[.int .i64 k, .int .i64 x] 117)
  have hf0 : Fr [] w (w.alloc (.cells #[.int .i64 k, .int .i64 x] 117)) := (Fr.refl _ _).alloc _
  obtain ⟨w1, hw1⟩ : ∃ w1, w.alloc (.cells #[.int .i64 k, .int .i64 x] 117) = w1 := ⟨_, rfl⟩
  rw [hw1] at hbx hf0 ⊢
  have HF0 := Lib.hid hf0
  have HBX := Lib.hid (fun W (hW : Fr [] w1 W) => hW.get hbx (by simp))
  have HKY := Lib.hid (fun W (a y : Int) => ls_byKey a y k x W)
  clear hw1 hbx hf0
  go_loopw [9, 10] (fun i j wr => ∃ (a b : Nat), i = .int .i64 a ∧ j = .int .i64 b ∧ a ≤ p ∧ p ≤ b ∧ b ≤ l.length ∧ Hid (Fr [] w1 wr)) (fun i j _ => (intOf j).toNat - (intOf i).toNat)
  case atStart => exact ⟨0, l.length, rfl, rfl, Nat.zero_le _, HLE.out, Nat.le_refl _, Fr.refl _ _⟩
  case round =>
    obtain ⟨a, b, rfl, rfl, hap, hpb, hbn, hF⟩ := hrel
    by_cases hab : a < b
    · have i1 : (a : Int) < b := by omega
      obtain rfl := HA.out (by omega)
      have i2 : (0 : Int) ≤ (a : Int) + b := by omega
      have i3 : (a : Int) + b ≤ 200000 := by omega
      obtain ⟨h, hh⟩ : ∃ h : Nat, (a + b) / 2 = h := ⟨_, rfl⟩
      have eH : ((a : Int) + b) / 2 = (h : Int) := by omega
      have h1 : a ≤ h := by omega
      have h2 : h < b := by omega
      have hln : h < l.length := by omega
      obtain ⟨q0, q1⟩ := HC.out wr (HF0.out.trans hF.out) h hln
      have hb := HBX.out wr hF.out
      have b0 : wr.cell? ⟨w.heap.size, 0, none⟩ = some (.int .i64 k) := by rw [cell_of_row _ _ _ _ _ _ hb]; rfl
      have b1 : wr.cell? ⟨w.heap.size, 1, none⟩ = some (.int .i64 x) := by rw [cell_of_row _ _ _ _ _ _ hb]; rfl
      have hlt : l[h].1 < k ↔ h < p := ⟨fun hx => Classical.byContradiction fun hp => by have := HAB.out h hln (by omega); omega, fun hp => HBL.out h hln hp⟩
      have HLT := Lib.hid hlt
      have HH := Lib.hid hh
      have i5 : (0 : Int) ≤ h := by omega
      have i6 : (h : Int) < l.length := by omega
      have hl2 : h ≤ 100000 := by omega
      generalize l[h].1 = kh at *
      generalize l[h].2 = vh at *
      clear hlt hb hh
      by_cases hk : kh < k
      · have ec : cmpI kh k = -1 := if_pos hk
        have hnp := HLT.out.1 hk
        clear hk
        go_wp2_with fail
        (refine wp_region_mixq 6 [(true, 0), (true, 1), (true, 2), (true, 3), (true, 4), (true, 5)] (by kernel_rfl) (by kernel_rfl) ?_; simp only [pickOps, List.map_cons, List.map_nil, List.getD_cons_zero, List.getD_cons_succ, List.drop_succ_cons, List.drop_zero]; (iterate 6 (first | (refine wpMix_take (v := ?_) (by rfl) ?_ ?_; rotate_left; (focus (intro W hW; subst hW; go_simp; (try with_reducible rfl); done)); try simp only [Act.put, List.setIfInBounds_toArray, List.set_cons_zero, List.set_cons_succ]) | (refine wpMix_leave (by rfl) ?_; try simp only [Act.put, List.setIfInBounds_toArray, List.set_cons_zero, List.set_cons_succ]))); refine wpMix_nil ?_)
        go_wp2_with (go_at_call 89; (with_reducible refine useC (HKY.out _ kh vh) ?_); rw [ec]; rintro e' w2 ⟨rfl, hf⟩; have HF2 := Lib.hid ((hF.out.step (Fr.refl [] wr).drew (by simp)).trans hf); clear hf)
        go_roundw
        case rel => exact ⟨h + 1, b, by go_num, rfl, by omega, hpb, hbn, HF2.out⟩
        case measure => (simp [intOf]; try omega)
      · have hnp : p ≤ h := Nat.le_of_not_lt (fun hp => hk (HLT.out.2 hp))
        have ec : ∃ d : Int, cmpI kh k = d ∧ ¬ d < 0 := by
          unfold cmpI
          rw [if_neg hk]
          split
          · exact ⟨1, rfl, by decide⟩
          · exact ⟨0, rfl, by decide⟩
        obtain ⟨d, ec, hd⟩ := ec
        clear hk
        go_wp2_with fail
        (refine wp_region_mixq 6 [(true, 0), (true, 1), (true, 2), (true, 3), (true, 4), (true, 5)] (by kernel_rfl) (by kernel_rfl) ?_; simp only [pickOps, List.map_cons, List.map_nil, List.getD_cons_zero, List.getD_cons_succ, List.drop_succ_cons, List.drop_zero]; (iterate 6 (first | (refine wpMix_take (v := ?_) (by rfl) ?_ ?_; rotate_left; (focus (intro W hW; subst hW; go_simp; (try with_reducible rfl); done)); try simp only [Act.put, List.setIfInBounds_toArray, List.set_cons_zero, List.set_cons_succ]) | (refine wpMix_leave (by rfl) ?_; try simp only [Act.put, List.setIfInBounds_toArray, List.set_cons_zero, List.set_cons_succ]))); refine wpMix_nil ?_)
        go_wp2_with (go_at_call 89; (with_reducible refine useC (HKY.out _ kh vh) ?_); rw [ec]; rintro e' w2 ⟨rfl, hf⟩; have HF2 := Lib.hid ((hF.out.step (Fr.refl [] wr).drew (by simp)).trans hf); clear hf)
        go_roundw
        case rel => exact ⟨a, h, rfl, rfl, hap, hnp, by omega, HF2.out⟩
        case measure => (simp [intOf]; try omega)
    · obtain rfl : a = b := by omega
      obtain rfl : p = a := by omega
      have i1 : ¬ (p : Int) < p := by omega
      by_cases hpl : p < l.length
      · obtain rfl := HA.out (by omega)
        obtain ⟨q0, q1⟩ := HC.out wr (HF0.out.trans hF.out) p hpl
        have hb := HBX.out wr hF.out
        have b0 : wr.cell? ⟨w.heap.size, 0, none⟩ = some (.int .i64 k) := by rw [cell_of_row _ _ _ _ _ _ hb]; rfl
        have b1 : wr.cell? ⟨w.heap.size, 1, none⟩ = some (.int .i64 x) := by rw [cell_of_row _ _ _ _ _ _ hb]; rfl
        have i5 : (0 : Int) ≤ p := by omega
        have i6 : (p : Int) < l.length := by omega
        have HPL : Hid (∃ _ : p < l.length, True) := ⟨hpl, trivial⟩
        have HEQ := Lib.hid (fun bb : Bool => fun (hh : bb = true ↔ l[p].1 = k) => show (bb = true ↔ ∃ hl : p < l.length, l[p].1 = k) from ⟨fun h => ⟨hpl, hh.1 h⟩, fun ⟨_, h⟩ => hh.2 h⟩)
        generalize l[p].1 = kh at *
        generalize l[p].2 = vh at *
        obtain ⟨d, hd⟩ : ∃ d, cmpI kh k = d := ⟨_, rfl⟩
        have HD : Hid ((d == 0) = true ↔ kh = k) := by
          show _ ↔ _
          rw [← hd, beq_iff_eq]
          unfold cmpI
          split
          · exact ⟨fun h => by omega, fun h => by omega⟩
          · split
            · exact ⟨fun h => by omega, fun h => by omega⟩
            · exact ⟨fun _ => by omega, fun _ => rfl⟩
        have HQ := Lib.hid (fun W (hW : Fr [] wr W) => And.intro (hW.cell q0 (by simp)) (And.intro (hW.cell q1 (by simp)) (And.intro (hW.cell b0 (by simp)) (hW.cell b1 (by simp)))))
        clear hpl hb
        go_wp2_with fail
        (refine wp_region_mix (Fr [] wr ·) 15 [(true, 0), (true, 1), (true, 2), (true, 3), (true, 4), (true, 5), (true, 6), (true, 7), (true, 8), (true, 9), (true, 10), (false, 11), (true, 12), (true, 13), (false, 14)] (by kernel_rfl) (by kernel_rfl) ((Fr.refl _ _).drew) ?_; simp only [pickOps, List.map_cons, List.map_nil, List.getD_cons_zero, List.getD_cons_succ, List.drop_succ_cons, List.drop_zero])
        (iterate 11 (first | (refine wpMix_take (v := ?_) (by rfl) ?_ ?_; rotate_left; (focus (intro W hW; obtain ⟨c0, c1, c2, c3⟩ := HQ.out W hW; go_simp; (try with_reducible rfl); done)); try simp only [Act.put, List.setIfInBounds_toArray, List.set_cons_zero, List.set_cons_succ]) | (refine wpMix_leave (by rfl) ?_; try simp only [Act.put, List.setIfInBounds_toArray, List.set_cons_zero, List.set_cons_succ])))
        refine wpMix_walk ?_
        go_wp2_with (go_at_call 89; (with_reducible refine useC (HKY.out _ kh vh) ?_); rw [hd]; rintro e' w2 ⟨rfl, hf⟩; have HF2 := Lib.hid (((Fr.refl [] wr).drew).trans hf); clear hf)
        refine MixQ.mk (HF2.out) ?_
        (iterate 2 (first | (refine wpMix_take (v := ?_) (by rfl) ?_ ?_; rotate_left; (focus (intro W hW; skip; go_simp; (try with_reducible rfl); done)); try simp only [Act.put, List.setIfInBounds_toArray, List.set_cons_zero, List.set_cons_succ]) | (refine wpMix_leave (by rfl) ?_; try simp only [Act.put, List.setIfInBounds_toArray, List.set_cons_zero, List.set_cons_succ])))
        refine wpMix_walk ?_
        go_wp2
        refine MixQ.mk (HF2.out) ?_
        refine wpMix_nil ?_
        go_wp2
        go_ret2
        exact ⟨⟨d == 0, rfl, HEQ.out _ HD.out⟩, HF0.out.trans (hF.out.trans HF2.out)⟩
      · have i6 : ¬ (p : Int) < l.length := by omega
        go_wp2_with fail
        (refine wp_region_mix (Fr [] wr ·) 15 [(true, 0), (true, 1), (true, 2), (true, 3), (true, 4), (true, 5), (true, 6), (true, 7), (true, 8), (true, 9), (true, 10), (false, 11), (true, 12), (true, 13), (false, 14)] (by kernel_rfl) (by kernel_rfl) ((Fr.refl _ _).drew) ?_; simp only [pickOps, List.map_cons, List.map_nil, List.getD_cons_zero, List.getD_cons_succ, List.drop_succ_cons, List.drop_zero])
        (iterate 11 (first | (refine wpMix_take (v := ?_) (by rfl) ?_ ?_; rotate_left; (focus (intro W hW; skip; go_simp; (try with_reducible rfl); done)); try simp only [Act.put, List.setIfInBounds_toArray, List.set_cons_zero, List.set_cons_succ]) | (refine wpMix_leave (by rfl) ?_; try simp only [Act.put, List.setIfInBounds_toArray, List.set_cons_zero, List.set_cons_succ])))
        refine wpMix_walk ?_
        go_wp2
        refine MixQ.mk ((Fr.refl [] wr).drew) ?_
        (iterate 2 (first | (refine wpMix_take (v := ?_) (by rfl) ?_ ?_; rotate_left; (focus (intro W hW; skip; go_simp; (try with_reducible rfl); done)); try simp only [Act.put, List.setIfInBounds_toArray, List.set_cons_zero, List.set_cons_succ]) | (refine wpMix_leave (by rfl) ?_; try simp only [Act.put, List.setIfInBounds_toArray, List.set_cons_zero, List.set_cons_succ])))
        refine wpMix_walk ?_
        go_wp2
        refine MixQ.mk ((Fr.refl [] wr).drew) ?_
        refine wpMix_nil ?_
        go_wp2
        go_ret2
        exact ⟨⟨false, rfl, ⟨fun h => (by cases h), fun ⟨h, _⟩ => absurd h hpl⟩⟩, HF0.out.trans (hF.out.step (Fr.refl [] wr).drew (by simp))⟩
end Go.Proofs.YtokbhiokcoldbaaDoor
