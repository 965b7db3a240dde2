/- The document's answer for package lfs: Clean. Printed by wip/gen_lxclean.py. -/
import Derived.Test.YtbedfffmicbgmaaDoorLxDown
import Derived.Test.YtbedfffmicbgmaaDoorMixP
namespace Go.Proofs.YtbedfffmicbgmaaDoor
open Go.RowKit

def LxCl (G : Nat → Prop) (r : Lx.X × Int × Int) (w : World) (e : Ending) (w' : World) : Prop := ∃ v, e = .returned (.tuple #[v, .int .i64 r.2.1, .int .i64 r.2.2]) ∧ LxV G w' v r.1 ∧ Fr [] w w'
def lxBest (b : Option Nat) : Value := .int .i64 (match b with | none => -1 | some k => (k : Int))
theorem newrow_len {xs : List Int} {w w' : World} {e : Ending} (h : NewRow xs w e w') : ∃ A c, e = .returned (.slice A xs.length c) ∧ Fr [] w w' ∧ ∃ g, (w.heap.size ≤ g ∨ xs = []) ∧ Sl w' (.slice A xs.length c) g xs := by
  obtain ⟨v, g, rfl, hg, hs, hf⟩ := h
  obtain ⟨A, o, c, rfl, -, -, -⟩ := hs.form
  exact ⟨A, c, rfl, hf, g, hg, hs⟩
theorem Lx.bestTo_succ (x : Lx.X) (k : Nat) : Lx.bestTo x (k + 1) = Lx.bestStep x (Lx.bestTo x k) k := rfl
theorem Lx.dn_end (x : Lx.X) (l : List Nat) : Lx.dn x l l.length = l.foldl Lx.step x := by unfold Lx.dn; rw [List.take_length]
set_option maxRecDepth 100000 in
set_option maxHeartbeats 8000000 in
theorem lx_Clean (w : World) (G : Nat → Prop) (v : Value) (x : Lx.X) (n : Nat) (hv : LxV G w v x) (hO : Lx.OK x n) (hn : n ≤ 300000) (hG : ∀ k, w.heap.size ≤ k → G k) :
    Calls Tryd.prog 7 #[v] w (LxCl G (Lx.clean x) w) := by
  obtain ⟨A1, n1, c1, A2, n2, c2, A3, n3, c3, A4, n4, c4, A5, n5, c5, rfl, hR⟩ := hv.form
  obtain ⟨A, g5, o5, c, e5, -, hA, hc⟩ := hR.re.form
  rw [hO.lm] at e5 hA hc
  obtain rfl := hA (by decide)
  injection e5 with e51 e52 e53
  subst e51 e52 e53
  obtain ⟨hsz, fA, y0, y1⟩ := lx_two w (.cells #[.slice A1 n1 c1, .slice A2 n2 c2, .slice A3 n3 c3, .slice A4 n4 c4, .slice (some ⟨g5, o5, none⟩) 6 c5, .int .i64 (x.head : Int)] 27) lxNil
  unfold lxNil at hsz fA y0 y1
  have hhd := hO.hd
  have HOK := Lib.hid hO
  have HU0 := Lib.hid (LxW.start (X := w.heap.size) (X2 := w.heap.size + 1) hR hG fA y0 y1 (by omega) (by omega) (by omega))
  have HC := Lib.hid (fun W (hW : Fr [] w W) => hc W hW)
  have hn0 : (x.head : Int) < 6 := by omega
  have hn1 : (0 : Int) ≤ x.head := by omega
  have HN := Lib.hid hn
  have hpl := hO.le
  have HLV := Lib.hid (fun W (G' : Nat → Prop) v' (s : Int) (h : LxV G' W v' x) => lx_Live W G' v' x s h hO.ls (by omega))
  clear hv hO hG hR hA hc fA y0 y1 hsz hn hpl
  go_enter Tryd.func7, Tryd.ntmps7
  go_wp2_with fail
  revert HU0
  generalize (w.alloc (.cells #[.slice A1 n1 c1, .slice A2 n2 c2, .slice A3 n3 c3, .slice A4 n4 c4, .slice (some ⟨g5, o5, none⟩) 6 c5, .int .i64 (x.head : Int)] 27)).alloc (.cells #[.slice none 0 0, .slice none 0 0, .slice none 0 0, .slice none 0 0, .slice none 0 0, .int .i64 0] 27) = W0
  generalize w.heap.size + 1 = X2
  generalize w.heap.size = X
  intro HU0
  go_loopw [5, 6] (fun b i wr => ∃ k : Nat, k ≤ 6 ∧ i = .int .i64 k ∧ Hid (b = lxBest (Lx.bestTo x k)) ∧ Hid (LxW G w wr X X2 (.slice A1 n1 c1) (.slice A2 n2 c2) (.slice A3 n3 c3) (.slice A4 n4 c4) (.slice (some ⟨g5, o5, none⟩) 6 c5) x)) (fun _ i _ => 6 - (intOf i).toNat)
  case atStart => exact ⟨0, Nat.zero_le _, rfl, rfl, HU0⟩
  case round =>
    clear HU0
    obtain ⟨k, hk, rfl, hb, hU⟩ := hrel
    obtain rfl := hb.out
    clear hb
    obtain ⟨⟨b0, b1, b2, b3, b4, b5⟩, hfx⟩ := hU.out.cells
    by_cases hlt : k < 6
    · have kI : (k : Int) < 6 := by omega
      have k0 : (0 : Int) ≤ k := by omega
      have hq := HC.out wr hU.out.fr k hlt
      have HST := Lib.hid (Lx.bestTo_succ x k)
      have HQ := Lib.hid (fun W (hW : Fr [] wr W) => And.intro (hU.out.step hW).cells (hW.cell hq (by simp)))
      have HUD := Lib.hid (hU.out.step (Fr.refl [] wr).drew)
      generalize Lx.bestTo x k = ob at *
      obtain ⟨y, hy⟩ : ∃ y, nth x.many k = y := ⟨_, rfl⟩
      have HY := Lib.hid hy
      rw [hy] at hq HQ
      clear hy
      by_cases hh : k = x.head
      · have HP : Hid (Lx.bestTo x (k + 1) = ob) := (by show _ = _; rw [HST.out]; unfold Lx.bestStep; rw [if_pos (.inl hh)])
        have HQ : Hid (∀ W, Fr [] wr W → _) := fun W hW => (by have h' := HQ.out W hW; rw [← hh] at h'; exact h')
        clear hh
        cases ob with
        | none =>
          dsimp only [lxBest]
          go_wp2_with fail
          (refine wp_region_mix (Fr [] wr ·) 24 [(true, 0), (true, 1), (true, 2), (true, 3), (true, 4), (true, 5), (true, 6), (true, 7), (true, 8), (true, 9), (true, 10), (true, 11), (true, 12), (true, 13), (true, 14), (true, 15), (true, 16), (true, 17), (true, 20), (true, 21), (false, 18), (true, 19), (false, 22), (true, 23)] (by kernel_rfl) (by kernel_rfl) ((Fr.refl _ _).drew) ?_; simp only [pickOps, List.map_cons, List.map_nil, List.getD_cons_zero, List.getD_cons_succ, List.drop_succ_cons, List.drop_zero])
          (iterate 20 (first | (refine wpMix_take (v := ?_) (by rfl) ?_ ?_; rotate_left; (focus (intro W hW; obtain ⟨⟨⟨b0, b1, b2, b3, b4, b5⟩, hfx⟩, hq⟩ := HQ.out W hW; go_simp; (try with_reducible rfl); done)); try simp only [Act.put, List.setIfInBounds_toArray, List.set_cons_zero, List.set_cons_succ]) | (refine wpMix_leave (by rfl) ?_; try simp only [Act.put, List.setIfInBounds_toArray, List.set_cons_zero, List.set_cons_succ])))
          refine wpMix_skip (by rfl) ?_
          try simp only [Act.put, List.setIfInBounds_toArray, List.set_cons_zero, List.set_cons_succ]
          (iterate 1 (first | (refine wpMix_take (v := ?_) (by rfl) ?_ ?_; rotate_left; (focus (intro W hW; skip; go_simp; (try with_reducible rfl); done)); try simp only [Act.put, List.setIfInBounds_toArray, List.set_cons_zero, List.set_cons_succ]) | (refine wpMix_leave (by rfl) ?_; try simp only [Act.put, List.setIfInBounds_toArray, List.set_cons_zero, List.set_cons_succ])))
          refine wpMix_skip (by rfl) ?_
          try simp only [Act.put, List.setIfInBounds_toArray, List.set_cons_zero, List.set_cons_succ]
          (iterate 1 (first | (refine wpMix_take (v := ?_) (by rfl) ?_ ?_; rotate_left; (focus (intro W hW; skip; go_simp; (try with_reducible rfl); done)); try simp only [Act.put, List.setIfInBounds_toArray, List.set_cons_zero, List.set_cons_succ]) | (refine wpMix_leave (by rfl) ?_; try simp only [Act.put, List.setIfInBounds_toArray, List.set_cons_zero, List.set_cons_succ])))
          refine wpMix_nil ?_
          go_wp2
          go_roundw
          case rel => exact ⟨k + 1, by omega, by go_num, by show _ = _; rw [HP.out] <;> rfl, HUD⟩
          case measure => (simp [intOf]; try omega)
        | some j =>
          dsimp only [lxBest]
          go_wp2_with fail
          (refine wp_region_mix (Fr [] wr ·) 24 [(true, 0), (true, 1), (true, 2), (true, 3), (true, 4), (true, 5), (true, 6), (true, 7), (true, 8), (true, 9), (true, 10), (true, 11), (true, 12), (true, 13), (true, 14), (true, 15), (true, 16), (true, 17), (true, 20), (true, 21), (false, 18), (true, 19), (false, 22), (true, 23)] (by kernel_rfl) (by kernel_rfl) ((Fr.refl _ _).drew) ?_; simp only [pickOps, List.map_cons, List.map_nil, List.getD_cons_zero, List.getD_cons_succ, List.drop_succ_cons, List.drop_zero])
          (iterate 20 (first | (refine wpMix_take (v := ?_) (by rfl) ?_ ?_; rotate_left; (focus (intro W hW; obtain ⟨⟨⟨b0, b1, b2, b3, b4, b5⟩, hfx⟩, hq⟩ := HQ.out W hW; go_simp; (try with_reducible rfl); done)); try simp only [Act.put, List.setIfInBounds_toArray, List.set_cons_zero, List.set_cons_succ]) | (refine wpMix_leave (by rfl) ?_; try simp only [Act.put, List.setIfInBounds_toArray, List.set_cons_zero, List.set_cons_succ])))
          refine wpMix_skip (by rfl) ?_
          try simp only [Act.put, List.setIfInBounds_toArray, List.set_cons_zero, List.set_cons_succ]
          (iterate 1 (first | (refine wpMix_take (v := ?_) (by rfl) ?_ ?_; rotate_left; (focus (intro W hW; skip; go_simp; (try with_reducible rfl); done)); try simp only [Act.put, List.setIfInBounds_toArray, List.set_cons_zero, List.set_cons_succ]) | (refine wpMix_leave (by rfl) ?_; try simp only [Act.put, List.setIfInBounds_toArray, List.set_cons_zero, List.set_cons_succ])))
          refine wpMix_skip (by rfl) ?_
          try simp only [Act.put, List.setIfInBounds_toArray, List.set_cons_zero, List.set_cons_succ]
          (iterate 1 (first | (refine wpMix_take (v := ?_) (by rfl) ?_ ?_; rotate_left; (focus (intro W hW; skip; go_simp; (try with_reducible rfl); done)); try simp only [Act.put, List.setIfInBounds_toArray, List.set_cons_zero, List.set_cons_succ]) | (refine wpMix_leave (by rfl) ?_; try simp only [Act.put, List.setIfInBounds_toArray, List.set_cons_zero, List.set_cons_succ])))
          refine wpMix_nil ?_
          go_wp2
          go_roundw
          case rel => exact ⟨k + 1, by omega, by go_num, by show _ = _; rw [HP.out] <;> rfl, HUD⟩
          case measure => (simp [intOf]; try omega)
      · have HH := Lib.hid hh
        have e1 : ((k : Int) == (x.head : Int)) = false := beq_eq_false_iff_ne.2 (by omega)
        have e2 : decide ((k : Int) = (x.head : Int)) = false := decide_eq_false (by omega)
        have hneq : ¬ (k : Int) = (x.head : Int) := by omega
        have e3 : (k == x.head) = false := beq_eq_false_iff_ne.2 hh
        have e4 : decide (k = x.head) = false := decide_eq_false hh
        have e5 : ¬ k = x.head := hh
        have e6 : ((k : Int) != (x.head : Int)) = true := (by rw [bne, e1]; rfl)
        clear hh
        by_cases hy : 0 < y
        · cases ob with
          | none =>
            have HP : Hid (Lx.bestTo x (k + 1) = some k) := (by show _ = _; rw [HST.out]; unfold Lx.bestStep; rw [if_neg (by rw [HY.out]; rintro (h | h); exact HH.out h; omega)])
            dsimp only [lxBest]
            go_wp2_with fail
            (refine wp_region_mix (Fr [] wr ·) 24 [(true, 0), (true, 1), (true, 2), (true, 3), (true, 4), (true, 5), (true, 6), (true, 7), (true, 8), (true, 9), (true, 10), (true, 11), (true, 12), (true, 13), (true, 14), (true, 15), (true, 16), (true, 17), (true, 20), (true, 21), (false, 18), (true, 19), (false, 22), (true, 23)] (by kernel_rfl) (by kernel_rfl) ((Fr.refl _ _).drew) ?_; simp only [pickOps, List.map_cons, List.map_nil, List.getD_cons_zero, List.getD_cons_succ, List.drop_succ_cons, List.drop_zero])
            (iterate 20 (first | (refine wpMix_take (v := ?_) (by rfl) ?_ ?_; rotate_left; (focus (intro W hW; obtain ⟨⟨⟨b0, b1, b2, b3, b4, b5⟩, hfx⟩, hq⟩ := HQ.out W hW; go_simp; (try with_reducible rfl); done)); try simp only [Act.put, List.setIfInBounds_toArray, List.set_cons_zero, List.set_cons_succ]) | (refine wpMix_leave (by rfl) ?_; try simp only [Act.put, List.setIfInBounds_toArray, List.set_cons_zero, List.set_cons_succ])))
            refine wpMix_skip (by rfl) ?_
            try simp only [Act.put, List.setIfInBounds_toArray, List.set_cons_zero, List.set_cons_succ]
            (iterate 1 (first | (refine wpMix_take (v := ?_) (by rfl) ?_ ?_; rotate_left; (focus (intro W hW; skip; go_simp; (try with_reducible rfl); done)); try simp only [Act.put, List.setIfInBounds_toArray, List.set_cons_zero, List.set_cons_succ]) | (refine wpMix_leave (by rfl) ?_; try simp only [Act.put, List.setIfInBounds_toArray, List.set_cons_zero, List.set_cons_succ])))
            refine wpMix_skip (by rfl) ?_
            try simp only [Act.put, List.setIfInBounds_toArray, List.set_cons_zero, List.set_cons_succ]
            (iterate 1 (first | (refine wpMix_take (v := ?_) (by rfl) ?_ ?_; rotate_left; (focus (intro W hW; skip; go_simp; (try with_reducible rfl); done)); try simp only [Act.put, List.setIfInBounds_toArray, List.set_cons_zero, List.set_cons_succ]) | (refine wpMix_leave (by rfl) ?_; try simp only [Act.put, List.setIfInBounds_toArray, List.set_cons_zero, List.set_cons_succ])))
            refine wpMix_nil ?_
            go_wp2
            go_roundw
            case rel => exact ⟨k + 1, by omega, by go_num, by show _ = _; rw [HP.out] <;> rfl, HUD⟩
            case measure => (simp [intOf]; try omega)
          | some j =>
            have j0 : ¬ (j : Int) < 0 := by omega
            dsimp only [lxBest]
            obtain ⟨a1, ha1⟩ : ∃ a, (Lx.live x k).length = a := ⟨_, rfl⟩
            obtain ⟨a2, ha2⟩ : ∃ a, (Lx.live x j).length = a := ⟨_, rfl⟩
            have HL1 := Lib.hid ha1
            have HL2 := Lib.hid ha2
            clear ha1 ha2
            go_wp2_with fail
            (refine wp_region_mix (Fr [] wr ·) 24 [(true, 0), (true, 1), (true, 2), (true, 3), (true, 4), (true, 5), (true, 6), (true, 7), (true, 8), (true, 9), (true, 10), (true, 11), (true, 12), (true, 13), (true, 14), (true, 15), (true, 16), (true, 17), (true, 20), (true, 21), (false, 18), (true, 19), (false, 22), (true, 23)] (by kernel_rfl) (by kernel_rfl) ((Fr.refl _ _).drew) ?_; simp only [pickOps, List.map_cons, List.map_nil, List.getD_cons_zero, List.getD_cons_succ, List.drop_succ_cons, List.drop_zero])
            (iterate 20 (first | (refine wpMix_take (v := ?_) (by rfl) ?_ ?_; rotate_left; (focus (intro W hW; obtain ⟨⟨⟨b0, b1, b2, b3, b4, b5⟩, hfx⟩, hq⟩ := HQ.out W hW; go_simp; (try with_reducible rfl); done)); try simp only [Act.put, List.setIfInBounds_toArray, List.set_cons_zero, List.set_cons_succ]) | (refine wpMix_leave (by rfl) ?_; try simp only [Act.put, List.setIfInBounds_toArray, List.set_cons_zero, List.set_cons_succ])))
            refine wpMix_walk ?_
            go_wp2_with (go_at_call 16; (with_reducible refine useC (HLV.out wr.drew _ _ (k : Int) (hU.out.step (Fr.refl [] wr).drew).val) ?_); rintro e w1 hn; obtain ⟨L1, q1, he, hf, -⟩ := newrow_len hn; rw [List.length_map, HL1.out] at he; subst he; have HF1 : Hid (Fr [] wr w1) := ((Fr.refl [] wr).drew).trans hf; clear hf hn)
            refine MixQ.mk (HF1.out) ?_
            (iterate 1 (first | (refine wpMix_take (v := ?_) (by rfl) ?_ ?_; rotate_left; (focus (intro W hW; skip; go_simp; (try with_reducible rfl); done)); try simp only [Act.put, List.setIfInBounds_toArray, List.set_cons_zero, List.set_cons_succ]) | (refine wpMix_leave (by rfl) ?_; try simp only [Act.put, List.setIfInBounds_toArray, List.set_cons_zero, List.set_cons_succ])))
            refine wpMix_walk ?_
            go_wp2_with (go_at_call 16; (with_reducible refine useC (HLV.out w1 _ _ (j : Int) (hU.out.step HF1.out).val) ?_); rintro e w2 hn; obtain ⟨L2, q2, he, hf, -⟩ := newrow_len hn; rw [List.length_map, HL2.out] at he; subst he; have HF2 : Hid (Fr [] wr w2) := (HF1.out).trans hf; clear hf hn)
            refine MixQ.mk (HF2.out) ?_
            (iterate 1 (first | (refine wpMix_take (v := ?_) (by rfl) ?_ ?_; rotate_left; (focus (intro W hW; skip; go_simp; (try with_reducible rfl); done)); try simp only [Act.put, List.setIfInBounds_toArray, List.set_cons_zero, List.set_cons_succ]) | (refine wpMix_leave (by rfl) ?_; try simp only [Act.put, List.setIfInBounds_toArray, List.set_cons_zero, List.set_cons_succ])))
            refine wpMix_nil ?_
            have HUD := Lib.hid (hU.out.step HF2.out)
            have hst : Lx.bestTo x (k + 1) = if a1 < a2 then some k else some j := by
              rw [HST.out]
              unfold Lx.bestStep
              rw [if_neg (by rw [HY.out]; rintro (h | h); exact HH.out h; omega)]
              simp only
              rw [HL1.out, HL2.out]
            by_cases hab : a1 < a2
            · have HP := Lib.hid (hst.trans (if_pos hab))
              have habI : (a1 : Int) < a2 := by omega
              clear hst
              go_wp2
              go_roundw
              case rel => exact ⟨k + 1, by omega, by go_num, by show _ = _; rw [HP.out] <;> rfl, HUD⟩
              case measure => (simp [intOf]; try omega)
            · have HP := Lib.hid (hst.trans (if_neg hab))
              have habI : ¬ (a1 : Int) < a2 := by omega
              clear hst
              go_wp2
              go_roundw
              case rel => exact ⟨k + 1, by omega, by go_num, by show _ = _; rw [HP.out] <;> rfl, HUD⟩
              case measure => (simp [intOf]; try omega)
        · have HP : Hid (Lx.bestTo x (k + 1) = ob) := (by show _ = _; rw [HST.out]; unfold Lx.bestStep; rw [if_pos (.inr (by rw [HY.out]; exact hy))])
          have hy2 : decide (0 < y) = false := decide_eq_false hy
          have hy3 : y ≤ 0 := by omega
          clear hy
          cases ob with
          | none =>
            dsimp only [lxBest]
            go_wp2_with fail
            (refine wp_region_mix (Fr [] wr ·) 24 [(true, 0), (true, 1), (true, 2), (true, 3), (true, 4), (true, 5), (true, 6), (true, 7), (true, 8), (true, 9), (true, 10), (true, 11), (true, 12), (true, 13), (true, 14), (true, 15), (true, 16), (true, 17), (true, 20), (true, 21), (false, 18), (true, 19), (false, 22), (true, 23)] (by kernel_rfl) (by kernel_rfl) ((Fr.refl _ _).drew) ?_; simp only [pickOps, List.map_cons, List.map_nil, List.getD_cons_zero, List.getD_cons_succ, List.drop_succ_cons, List.drop_zero])
            (iterate 20 (first | (refine wpMix_take (v := ?_) (by rfl) ?_ ?_; rotate_left; (focus (intro W hW; obtain ⟨⟨⟨b0, b1, b2, b3, b4, b5⟩, hfx⟩, hq⟩ := HQ.out W hW; go_simp; (try with_reducible rfl); done)); try simp only [Act.put, List.setIfInBounds_toArray, List.set_cons_zero, List.set_cons_succ]) | (refine wpMix_leave (by rfl) ?_; try simp only [Act.put, List.setIfInBounds_toArray, List.set_cons_zero, List.set_cons_succ])))
            refine wpMix_skip (by rfl) ?_
            try simp only [Act.put, List.setIfInBounds_toArray, List.set_cons_zero, List.set_cons_succ]
            (iterate 1 (first | (refine wpMix_take (v := ?_) (by rfl) ?_ ?_; rotate_left; (focus (intro W hW; skip; go_simp; (try with_reducible rfl); done)); try simp only [Act.put, List.setIfInBounds_toArray, List.set_cons_zero, List.set_cons_succ]) | (refine wpMix_leave (by rfl) ?_; try simp only [Act.put, List.setIfInBounds_toArray, List.set_cons_zero, List.set_cons_succ])))
            refine wpMix_skip (by rfl) ?_
            try simp only [Act.put, List.setIfInBounds_toArray, List.set_cons_zero, List.set_cons_succ]
            (iterate 1 (first | (refine wpMix_take (v := ?_) (by rfl) ?_ ?_; rotate_left; (focus (intro W hW; skip; go_simp; (try with_reducible rfl); done)); try simp only [Act.put, List.setIfInBounds_toArray, List.set_cons_zero, List.set_cons_succ]) | (refine wpMix_leave (by rfl) ?_; try simp only [Act.put, List.setIfInBounds_toArray, List.set_cons_zero, List.set_cons_succ])))
            refine wpMix_nil ?_
            go_wp2
            go_roundw
            case rel => exact ⟨k + 1, by omega, by go_num, by show _ = _; rw [HP.out] <;> rfl, HUD⟩
            case measure => (simp [intOf]; try omega)
          | some j =>
            dsimp only [lxBest]
            go_wp2_with fail
            (refine wp_region_mix (Fr [] wr ·) 24 [(true, 0), (true, 1), (true, 2), (true, 3), (true, 4), (true, 5), (true, 6), (true, 7), (true, 8), (true, 9), (true, 10), (true, 11), (true, 12), (true, 13), (true, 14), (true, 15), (true, 16), (true, 17), (true, 20), (true, 21), (false, 18), (true, 19), (false, 22), (true, 23)] (by kernel_rfl) (by kernel_rfl) ((Fr.refl _ _).drew) ?_; simp only [pickOps, List.map_cons, List.map_nil, List.getD_cons_zero, List.getD_cons_succ, List.drop_succ_cons, List.drop_zero])
            (iterate 20 (first | (refine wpMix_take (v := ?_) (by rfl) ?_ ?_; rotate_left; (focus (intro W hW; obtain ⟨⟨⟨b0, b1, b2, b3, b4, b5⟩, hfx⟩, hq⟩ := HQ.out W hW; go_simp; (try with_reducible rfl); done)); try simp only [Act.put, List.setIfInBounds_toArray, List.set_cons_zero, List.set_cons_succ]) | (refine wpMix_leave (by rfl) ?_; try simp only [Act.put, List.setIfInBounds_toArray, List.set_cons_zero, List.set_cons_succ])))
            refine wpMix_skip (by rfl) ?_
            try simp only [Act.put, List.setIfInBounds_toArray, List.set_cons_zero, List.set_cons_succ]
            (iterate 1 (first | (refine wpMix_take (v := ?_) (by rfl) ?_ ?_; rotate_left; (focus (intro W hW; skip; go_simp; (try with_reducible rfl); done)); try simp only [Act.put, List.setIfInBounds_toArray, List.set_cons_zero, List.set_cons_succ]) | (refine wpMix_leave (by rfl) ?_; try simp only [Act.put, List.setIfInBounds_toArray, List.set_cons_zero, List.set_cons_succ])))
            refine wpMix_skip (by rfl) ?_
            try simp only [Act.put, List.setIfInBounds_toArray, List.set_cons_zero, List.set_cons_succ]
            (iterate 1 (first | (refine wpMix_take (v := ?_) (by rfl) ?_ ?_; rotate_left; (focus (intro W hW; skip; go_simp; (try with_reducible rfl); done)); try simp only [Act.put, List.setIfInBounds_toArray, List.set_cons_zero, List.set_cons_succ]) | (refine wpMix_leave (by rfl) ?_; try simp only [Act.put, List.setIfInBounds_toArray, List.set_cons_zero, List.set_cons_succ])))
            refine wpMix_nil ?_
            go_wp2
            go_roundw
            case rel => exact ⟨k + 1, by omega, by go_num, by show _ = _; rw [HP.out] <;> rfl, HUD⟩
            case measure => (simp [intOf]; try omega)
    · obtain rfl : k = 6 := by omega
      have kI : ¬ ((6 : Nat) : Int) < 6 := by decide
      have HCL : Hid (Lx.clean x = match Lx.bestTo x 6 with | none => (x, 0, 5) | some b => if (Lx.live x b).length = 4 then (x, 0, 7) else ((Lx.live x b).foldl Lx.step (Lx.cut x b), b, 0)) := rfl
      have HJ := Lib.hid (Lx.bestTo_lt x 6)
      generalize Lx.bestTo x 6 = ob at *
      obtain ⟨⟨o0, o1, o2, o3, o4, o5'⟩, hfo⟩ := hU.out.outs
      cases ob with
      | none =>
        dsimp only at HCL
        dsimp only [lxBest]
        clear HJ
        go_wp2
        rw [HCL.out]
        exact bodyPost_ret (v := .tuple #[.agg #[.slice A1 n1 c1, .slice A2 n2 c2, .slice A3 n3 c3, .slice A4 n4 c4, .slice (some ⟨g5, o5, none⟩) 6 c5, .int .i64 (x.head : Int)], .int .i64 0, .int .i64 5]) (lx_results3 Tryd.results7 rfl rfl rfl (LxW.fin hU.out).1) rfl ⟨_, rfl, (LxW.fin hU.out).2.1, (LxW.fin hU.out).2.2⟩
      | some j =>
        have hj := HJ.out j rfl
        dsimp only at HCL
        dsimp only [lxBest]
        have j0 : (0 : Int) ≤ j := by omega
        have j1 : ¬ (j : Int) < 0 := by omega
        have j6 : (j : Int) < 6 := by omega
        obtain ⟨wB, hwB⟩ : ∃ z, z = wr := ⟨_, rfl⟩
        subst hwB
        obtain ⟨a, ha⟩ : ∃ a, (Lx.live x j).length = a := ⟨_, rfl⟩
        have HLA := Lib.hid ha
        rw [ha] at HCL
        clear ha
        go_wp2_with fail
        refine useC (HLV.out wB _ _ (j : Int) hU.out.val) ?_
        rintro e w2 hn
        obtain ⟨LA, LC, he, hf, hrow⟩ := newrow_len hn
        rw [List.length_map, HLA.out] at he hrow
        subst he
        have HU2 := Lib.hid (hU.out.step hf)
        have HRL : Hid (RowG (fun g => G g ∧ g ≠ X ∧ g ≠ X2) w2 (.slice LA a LC) ((Lx.live x j).map fun i : Nat => (i : Int))) := by
          obtain ⟨g, hg, hs⟩ := hrow
          have h1 := hU.out.lt
          have h2 := hU.out.fr.size
          rcases hg with hg | hg
          · exact ⟨g, .inl ⟨hU.out.hG g (by omega), by omega, by omega⟩, hs⟩
          · exact ⟨g, .inr hg, hs⟩
        clear hrow hf hn b0 b1 b2 b3 b4 b5 hfx o0 o1 o2 o3 o4 o5' hfo
        obtain ⟨⟨b0, b1, b2, b3, b4, b5⟩, hfx⟩ := HU2.out.cells
        obtain ⟨⟨o0, o1, o2, o3, o4, o5'⟩, hfo⟩ := HU2.out.outs
        by_cases h4 : a = 4
        · have HRR := Lib.hid (HCL.out.trans (if_pos h4))
          have hb4 : ((a : Int) == 4) = true := by rw [h4]; rfl
          clear h4
          go_wp2
          rw [HRR.out]
          exact bodyPost_ret (v := .tuple #[.agg #[.slice A1 n1 c1, .slice A2 n2 c2, .slice A3 n3 c3, .slice A4 n4 c4, .slice (some ⟨g5, o5, none⟩) 6 c5, .int .i64 (x.head : Int)], .int .i64 0, .int .i64 7]) (lx_results3 Tryd.results7 rfl rfl rfl (LxW.fin HU2.out).1) rfl ⟨_, rfl, (LxW.fin HU2.out).2.1, (LxW.fin HU2.out).2.2⟩
        · have HRR := Lib.hid (HCL.out.trans (if_neg h4))
          have hb4 : ((a : Int) == 4) = false := beq_eq_false_iff_ne.2 (by omega)
          clear o0 o1 o2 o3 o4 o5' hfo HCL h4
          have hre : RowG (fun g => G g ∧ g ≠ X ∧ g ≠ X2) w2 (.slice (some ⟨g5, o5, none⟩) 6 c5) x.many := HU2.out.rows.re
          obtain ⟨ge, -, hse⟩ := hre
          have HSE := Lib.hid (set_any w2 _ ge x.many j 0 hse (by rw [HOK.out.lm]; exact hj) (by rw [HOK.out.lm]; decide))
          have HCUT := Lib.hid (HOK.out.cut hj)
          clear hse hU
          go_wp2_with (first
            | (have h' := HU2; clear h'; go_at_call 27; (with_reducible refine useC HSE.out ?_); rintro e w3 hn; obtain ⟨B5, m5, d5, he, hu, hr⟩ := HU2.out.row hn; subst he; obtain ⟨w5, hw5⟩ : ∃ z, z = w3.setCell ⟨X, 4, none⟩ (.slice B5 m5 d5) := ⟨_, rfl⟩; obtain ⟨_, _, _, -, hf3⟩ := hn; have HRL3 := Lib.hid ((HRL.out.fr hf3.2 (by simp)).fr (LxW.one w3 X 4 (.slice B5 m5 d5)) LxW.nX); have HU3 := Lib.hid hu; have HU5 := Lib.hid (hu.setE hr); rw [← hw5] at HU5 HRL3; have HW5 := Lib.hid hw5; clear hw5 hr hu hf3 HU2 HRL b0 b1 b2 b3 b4 b5 hfx; obtain ⟨⟨b0, b1, b2, b3, b4, b5⟩, hfx⟩ := HU3.out.cells)
            | (rw [← HW5.out]; clear HW5 HU3 b0 b1 b2 b3 b4 b5 hfx; obtain ⟨⟨b0, b1, b2, b3, b4, b5⟩, hfx⟩ := HU5.out.cells))
          have HRL5 := HRL3
          clear HRL3
          go_loopw [8] (fun i wr => ∃ m : Nat, m ≤ (Lx.live x j).length ∧ i = .int .i64 m ∧ ∃ A1 n1 c1 A2 n2 c2 A3 n3 c3 A4 n4 c4 A5 n5 c5, Hid (LxW G w wr X X2 (.slice A1 n1 c1) (.slice A2 n2 c2) (.slice A3 n3 c3) (.slice A4 n4 c4) (.slice A5 n5 c5) (Lx.dn (Lx.cut x j) (Lx.live x j) m)) ∧ Hid (RowG (fun g => G g ∧ g ≠ X ∧ g ≠ X2) wr (.slice LA a LC) ((Lx.live x j).map fun i : Nat => (i : Int)))) (fun i _ => (Lx.live x j).length - (intOf i).toNat)
          case atStart => exact ⟨0, Nat.zero_le _, rfl, _, _, _, _, _, _, _, _, _, _, _, _, _, _, _, HU5, HRL5⟩
          case round =>
            clear HU5 HRL5 b0 b1 b2 b3 b4 b5 hfx
            obtain ⟨m, hm, rfl, A1, n1, c1, A2, n2, c2, A3, n3, c3, A4, n4, c4, A5, n5, c5, hU, hL⟩ := hrel
            obtain ⟨⟨b0, b1, b2, b3, b4, b5⟩, hfx⟩ := hU.out.cells
            by_cases hlt : m < (Lx.live x j).length
            · obtain ⟨LA', lg, lo, lc, eL, -, hLA, hLc⟩ := hL.out.form
              rw [List.length_map, HLA.out] at eL
              rw [List.length_map] at hLA hLc
              injection eL with eL1 eL2 eL3
              subst eL1 eL3
              clear eL2
              obtain rfl := hLA (by omega)
              have hmI : (m : Int) < a := by rw [← HLA.out]; omega
              have m0 : (0 : Int) ≤ m := by omega
              have qL := hLc wr (Fr.refl _ _) m hlt
              have HDS := Lib.hid (Lx.dn_succ (x := Lx.cut x j) hlt)
              obtain ⟨hdo, hdp⟩ := Lx.dn_ok (HCUT.out) (Lx.live x j) m
              obtain ⟨i, hi⟩ : ∃ i, (Lx.live x j).getD m 0 = i := ⟨_, rfl⟩
              have hii : nth ((Lx.live x j).map fun i : Nat => (i : Int)) m = (i : Int) := by
                rw [← hi]
                unfold nth
                simp [List.getD, hlt]
              rw [hii] at qL
              have hip : i < x.page.length := by
                have := (Lx.mem_liveTo x j i x.page.length).1 (by rw [← hi]; simp only [List.getD_eq_getElem?_getD, List.getElem?_eq_getElem hlt, Option.getD_some]; exact List.getElem_mem hlt)
                exact this.1
              rw [hi] at HDS
              clear hi hii hLA hLc
              obtain ⟨y, hy⟩ : ∃ y, Lx.dn (Lx.cut x j) (Lx.live x j) m = y := ⟨_, rfl⟩
              rw [hy] at hU HDS hdo hdp
              clear hy
              have hdp : x.page.length ≤ y.page.length := hdp
              have hiy : i < y.page.length := by omega
              obtain ⟨P3, g3, o3, q3, e3, -, hA3, hc3⟩ := hU.out.rows.rc.form
              obtain ⟨P4, g4, o4, q4, e4, -, hA4, hc4⟩ := hU.out.rows.rd.form
              rw [hdo.lv] at e4 hA4 hc4
              injection e3 with e31 e32 e33
              injection e4 with e41 e42 e43
              subst e31 e32 e33 e41 e42 e43
              obtain rfl := hA3 (by omega)
              obtain rfl := hA4 (by omega)
              have q1 := hc3 wr (Fr.refl _ _) i hiy
              have q2 := hc4 wr (Fr.refl _ _) i hiy
              have hiI : (i : Int) < y.page.length := by omega
              have i0 : (0 : Int) ≤ i := by omega
              have HQ := Lib.hid (fun W (hW : Fr [] wr W) => And.intro (hU.out.step hW).cells (And.intro (hW.cell qL (by simp)) (And.intro (hW.cell q1 (by simp)) (hW.cell q2 (by simp)))))
              have hnm : n + m ≤ 800000 := by
                have := Lx.liveTo_le x j x.page.length
                have h2 : m ≤ x.page.length := Nat.le_trans hm this
                have := HOK.out.le
                have := HN.out
                omega
              have hm8 : m < 1000000 := by omega
              have HDW := Lib.hid (lx_Down wr.drew _ _ y (n + m) (nth y.page i) (nth y.value i) (hU.out.step (Fr.refl [] wr).drew).val hdo hnm (fun g hg => by
                have h1 := hU.out.lt
                have h2 := hU.out.fr.size
                have hg : wr.heap.size ≤ g := hg
                exact ⟨hU.out.hG g (by omega), by omega, by omega⟩))
              have hsy : Lx.step y i = (Lx.down y (nth y.page i) (nth y.value i)).1 := rfl
              rw [hsy] at HDS
              have HI := Lib.hid (And.intro hdo hiy)
              clear hsy hdo hdp hiy hA3 hA4 hc3 hc4 q1 q2 qL hip hnm
              generalize nth y.page i = y1 at *
              generalize nth y.value i = y2 at *
              generalize Lx.down y y1 y2 = r at *
              obtain ⟨y3, bb⟩ := r
              go_wp2_with fail
              (refine wp_region_mixp (Fr [] wr ·) (fun _ => True) 22 21 [(0, 0), (0, 1), (0, 2), (0, 3), (0, 4), (0, 5), (0, 6), (0, 7), (0, 8), (0, 9), (0, 10), (0, 11), (0, 12), (0, 13), (0, 14), (0, 15), (0, 16), (2, 17), (0, 18), (0, 19), (1, 20), (3, 21)] (by kernel_rfl) (by kernel_rfl) ((Fr.refl _ _).drew) ?_; simp only [pickP, List.map_cons, List.map_nil, List.getD_cons_zero, List.getD_cons_succ, List.drop_succ_cons, List.drop_zero])
              (iterate 17 (first | (refine wpMixP_take (v := ?_) (by rfl) ?_ ?_; rotate_left; (focus (intro W hW; obtain ⟨⟨⟨b0, b1, b2, b3, b4, b5⟩, hfx⟩, qL, q1, q2⟩ := HQ.out W hW; go_simp; (try with_reducible rfl); done)); try simp only [Act.put, List.setIfInBounds_toArray, List.set_cons_zero, List.set_cons_succ]) | (refine wpMixP_leave (by rfl) ?_; try simp only [Act.put, List.setIfInBounds_toArray, List.set_cons_zero, List.set_cons_succ])))
              refine wpMixP_walk ?_
              go_wp2_with (go_at_call 11; (with_reducible refine useC HDW.out ?_); rintro e w4 ⟨v4, rfl, hv4, hf4⟩; obtain ⟨B1, m1, d1, B2, m2, d2, B3, m3, d3, B4, m4, d4, B5, m5, d5, rfl, hR4⟩ := hv4.form; have HF4 : Hid (Fr [] wr w4) := (Fr.refl [] wr).drew.trans hf4; have HU4 := Lib.hid (hU.out.step HF4.out); have HV4 := Lib.hid (hU.out.put HF4.out hv4); have HL4 := Lib.hid ((hL.out.fr HF4.out (by simp)).fr (lx_set w4 X (.slice B1 m1 d1) (.slice B2 m2 d2) (.slice B3 m3 d3) (.slice B4 m4 d4) (.slice B5 m5 d5) y3.head HU4.out.box).2 LxW.nX); clear hv4 hf4 hR4)
              refine MixPQ.mk (HF4.out) ?_
              (iterate 2 (first | (refine wpMixP_take (v := ?_) (by rfl) ?_ ?_; rotate_left; (focus (intro W hW; skip; go_simp; (try with_reducible rfl); done)); try simp only [Act.put, List.setIfInBounds_toArray, List.set_cons_zero, List.set_cons_succ]) | (refine wpMixP_leave (by rfl) ?_; try simp only [Act.put, List.setIfInBounds_toArray, List.set_cons_zero, List.set_cons_succ])))
              (iterate 1 (first | (refine wpMixP_take1 (v := ?_) (by rfl) ?_ ?_; rotate_left; (focus (intro W _; go_simp; (try with_reducible rfl); done)); try simp only [Act.put, List.setIfInBounds_toArray, List.set_cons_zero, List.set_cons_succ]) | (refine wpMixP_leave1 (by rfl) ?_; try simp only [Act.put, List.setIfInBounds_toArray, List.set_cons_zero, List.set_cons_succ])))
              refine wpMixP_turn ?_
              clear b0 b1 b2 b3 b4 b5 hfx
              obtain ⟨⟨b0, b1, b2, b3, b4, b5⟩, hfx⟩ := HU4.out.cells
              go_wp2
              refine MixPQ.mk (trivial) ?_
              refine wpMixP_nil ?_
              clear b0 b1 b2 b3 b4 b5 hfx
              unfold lxSet at HV4 HL4
              go_wp2
              go_roundw
              case rel => exact ⟨m + 1, by omega, by go_num, _, _, _, _, _, _, _, _, _, _, _, _, _, _, _, by show LxW _ _ _ _ _ _ _ _ _ _ _; rw [HDS.out]; exact HV4.out, HL4⟩
              case measure => (simp [intOf]; try omega)
            · have hmI : ¬ (m : Int) < a := by rw [← HLA.out]; omega
              obtain rfl : m = (Lx.live x j).length := by omega
              have HU7 := Lib.hid hU.out
              rw [Lx.dn_end] at HU7
              obtain ⟨yy, hyy⟩ : ∃ yy, (Lx.live x j).foldl Lx.step (Lx.cut x j) = yy := ⟨_, rfl⟩
              rw [hyy] at HU7 HRR
              clear hU hL hyy b0 b1 b2 b3 b4 b5 hfx hm hlt
              obtain ⟨⟨b0, b1, b2, b3, b4, b5⟩, hfx⟩ := HU7.out.cells
              obtain ⟨⟨o0, o1, o2, o3, o4, o5'⟩, hfo⟩ := HU7.out.outs
              go_wp2
              rw [HRR.out]
              exact bodyPost_ret (v := .tuple #[.agg #[.slice A1 n1 c1, .slice A2 n2 c2, .slice A3 n3 c3, .slice A4 n4 c4, .slice A5 n5 c5, .int .i64 (yy.head : Int)], .int .i64 (j : Int), .int .i64 0]) (lx_results3 Tryd.results7 rfl rfl rfl (LxW.fin HU7.out).1) rfl ⟨_, rfl, (LxW.fin HU7.out).2.1, (LxW.fin HU7.out).2.2⟩
end Go.Proofs.YtbedfffmicbgmaaDoor
