/- The document's answer for package lfs: Live. -/
import Derived.Test.YtbedfffmicbgmaaDoorLxWalk
namespace Go.Proofs.YtbedfffmicbgmaaDoor
open Go.RowKit

/-- The places, as integers. -/
def Lx.liveI (x : Lx.X) (s : Int) (n : Nat) : List Int := (Lx.liveTo x s n).map fun i : Nat => (i : Int)
theorem Lx.liveI_succ (x : Lx.X) (s : Int) (n : Nat) : Lx.liveI x s (n + 1) = Lx.liveI x s n ++ if nth x.sg n = s ∧ Lx.last x (nth x.page n) = n then [(n : Int)] else [] := by
  unfold Lx.liveI
  rw [show Lx.liveTo x s (n + 1) = Lx.liveTo x s n ++ if nth x.sg n = s ∧ Lx.last x (nth x.page n) = n then [n] else [] from rfl, List.map_append]
  split <;> rfl
theorem Lx.liveI_len (x : Lx.X) (s : Int) (n : Nat) : (Lx.liveI x s n).length ≤ n := by
  unfold Lx.liveI
  rw [List.length_map]
  exact Lx.liveTo_le x s n
/-- What the rounds know. -/
structure LxL (wB wr : World) (u : Value) (l : List Int) : Prop where
  own : Own wr wB.heap.size 3 u l
  fr : Fr [] wB wr
set_option maxRecDepth 100000 in
set_option maxHeartbeats 2000000 in
theorem lx_Live (w : World) (G : Nat → Prop) (v : Value) (x : Lx.X) (s : Int) (hv : LxV G w v x) (hl : x.sg.length = x.page.length) (hn : x.page.length ≤ 900000) :
    Calls Tryd.prog 16 #[v, .int .i64 s] w (NewRow ((Lx.live x s).map fun i : Nat => (i : Int)) w) := by
  have hfin : (Lx.live x s).map (fun i : Nat => (i : Int)) = Lx.liveI x s x.page.length := rfl
  rw [hfin]
  clear hfin
  obtain ⟨A1, n1, c1, A2, n2, c2, A3, n3, c3, A4, n4, c4, A5, n5, c5, rfl, hR⟩ := hv.form
  have HB := Lib.hid (LxB.start hR)
  obtain ⟨A, g, o, c, e3, hm0, hA, hc⟩ := HB.out.rows.rc.form
  injection e3 with e31 e32 e33
  subst e31 e32 e33
  obtain ⟨A', g', o', c', e1, -, hA', hc'⟩ := HB.out.rows.ra.form
  rw [hl] at e1 hA' hc'
  injection e1 with e11 e12 e13
  subst e11 e12 e13
  have HA := Lib.hid (And.intro hA hA')
  have HC := Lib.hid (And.intro hc hc')
  obtain ⟨b0, b1, b2, b3, b4, b5⟩ := HB.out.box.cells
  clear hA hc hA' hc' hv hR hl
  go_enter Tryd.func16, Tryd.ntmps16
  go_wp2_with fail
  generalize hW : w.alloc (.cells #[.slice A1 x.page.length c1, .slice A2 n2 c2, .slice A3 x.page.length c3, .slice A4 n4 c4, .slice A5 n5 c5, .int .i64 (x.head : Int)] 27) = wB at *
  clear hW
  have HG0 : Hid (LxL wB wB (.slice none 0 0) (Lx.liveI x s 0)) := ⟨Own.nil _ _ _, Fr.refl _ _⟩
  have HLS := Lib.hid (Lx.liveI_succ x s)
  have HLL := Lib.hid (Lx.liveI_len x s)
  clear b0 b1 b2 b3 b4 b5
  go_loopw [5, 6] (fun u i wr => ∃ k : Nat, k ≤ x.page.length ∧ i = .int .i64 k ∧ Hid (LxL wB wr u (Lx.liveI x s k))) (fun _ i _ => x.page.length - (intOf i).toNat)
  case atStart => exact ⟨0, Nat.zero_le _, rfl, HG0⟩
  case round =>
    clear HG0
    obtain ⟨k, hk, rfl, hI⟩ := hrel
    have HBR := Lib.hid (HB.out.step hI.out.fr)
    obtain ⟨b0, b1, b2, b3, b4, b5⟩ := HBR.out.box.cells
    by_cases hlt : k < x.page.length
    · obtain ⟨rfl, rfl⟩ := And.intro (HA.out.1 (by omega)) (HA.out.2 (by omega))
      have q1 := HC.out.1 wr hI.out.fr k hlt
      have q2 := HC.out.2 wr hI.out.fr k hlt
      have kI : (k : Int) < x.page.length := by omega
      have k0 : (0 : Int) ≤ k := by omega
      have hls := HLS.out k
      have hll : (Lx.liveI x s k).length < 1000000 := by have := HLL.out k; omega
      have HV := Lib.hid (fun W (hW : Fr [] wr W) => (HBR.out.step hW).val)
      by_cases h1 : nth x.sg k = s
      · have hb1 : (nth x.sg k == s) = true := beq_iff_eq.2 h1
        have HQ := Lib.hid (fun W (hW : Fr [] wr W) => And.intro (HBR.out.step hW).box.cells (And.intro (hW.cell q1 (by simp)) (hW.cell q2 (by simp))))
        have HP : Hid (Lx.liveI x s (k + 1) = Lx.liveI x s k ++ if Lx.last x (nth x.page k) = k then [(k : Int)] else []) := by
          show _ = _
          rw [hls]
          congr 1
          by_cases hq : Lx.last x (nth x.page k) = k
          · rw [if_pos ⟨h1, hq⟩, if_pos hq]
          · rw [if_neg (fun h => hq h.2), if_neg hq]
        clear hls h1
        generalize nth x.sg k = y1 at *
        generalize nth x.page k = y2 at *
        go_wp2_with fail
        (refine wp_region_mix (Fr [] wr ·) 16 [(true, 0), (true, 1), (true, 2), (true, 3), (true, 4), (true, 5), (true, 6), (true, 7), (true, 8), (true, 9), (true, 10), (true, 11), (true, 12), (true, 13), (true, 15), (false, 14)] (by kernel_rfl) (by kernel_rfl) ((Fr.refl _ _).drew) ?_; simp only [pickOps, List.map_cons, List.map_nil, List.getD_cons_zero, List.getD_cons_succ, List.drop_succ_cons, List.drop_zero])
        (iterate 15 (first | (refine wpMix_take (v := ?_) (by rfl) ?_ ?_; rotate_left; (focus (intro W hW; obtain ⟨⟨b0, b1, b2, b3, b4, b5⟩, q1, q2⟩ := HQ.out W hW; go_simp; (try with_reducible rfl); done)); try simp only [Act.put, List.setIfInBounds_toArray, List.set_cons_zero, List.set_cons_succ]) | (refine wpMix_leave (by rfl) ?_; try simp only [Act.put, List.setIfInBounds_toArray, List.set_cons_zero, List.set_cons_succ])))
        refine wpMix_walk ?_
        go_wp2_with (go_at_call 35; (with_reducible refine useC (lx_last _ _ _ x y2 (HV.out _ (Fr.refl _ _).drew)) ?_); rintro e w1 ⟨rfl, hf⟩; have HF1 : Hid (Fr [] wr w1) := ((Fr.refl [] wr).drew).trans hf; clear hf)
        refine MixQ.mk (HF1.out) ?_
        refine wpMix_nil ?_
        have HO1 : Hid (Own w1 wB.heap.size 3 u5 (Lx.liveI x s k)) := hI.out.own.kept HF1.out (by simp)
        have HFB : Hid (Fr [] wB w1) := hI.out.fr.trans HF1.out
        by_cases h2 : Lx.last x y2 = k
        · have hb2 : (Lx.last x y2 == (k : Int)) = true := beq_iff_eq.2 h2
          rw [if_pos h2] at HP
          obtain ⟨A6, c6, hu⟩ := HO1.out.form0
          subst hu
          clear h2
          generalize Lx.last x y2 = y3 at *
          go_wp2_with (at_builtin; refine wpList_push_int (wr := w1) Tryd.intT rfl _ _ rfl wB.heap.size _ _ rfl HO1.out rfl hll HFB.out.size ?_; intro v' w2 h1 _ h3; have HI2 : Hid (LxL wB w2 v' (Lx.liveI x s k ++ [(k : Int)])) := ⟨h1, HFB.out.below_step h3 (Nat.le_refl _)⟩; clear h1 h3)
          go_roundw
          case rel => exact ⟨k + 1, by omega, by go_num, by show LxL _ _ _ _; rw [HP.out]; exact HI2.out⟩
          case measure => (simp [intOf]; try omega)
        · have hb2 : (Lx.last x y2 == (k : Int)) = false := beq_eq_false_iff_ne.2 h2
          rw [if_neg h2, List.append_nil] at HP
          clear h2
          generalize Lx.last x y2 = y3 at *
          go_wp2
          go_roundw
          case rel => exact ⟨k + 1, by omega, by go_num, by show LxL _ _ _ _; rw [HP.out]; exact ⟨HO1.out, HFB.out⟩⟩
          case measure => (simp [intOf]; try omega)
      · have hb1 : (nth x.sg k == s) = false := beq_eq_false_iff_ne.2 h1
        have HP : Hid (Lx.liveI x s (k + 1) = Lx.liveI x s k) := by
          show _ = _
          rw [hls, if_neg (fun h => h1 h.1), List.append_nil]
        have HQ := Lib.hid (fun W (hW : Fr [] wr W) => And.intro (HBR.out.step hW).box.cells (And.intro (hW.cell q1 (by simp)) (hW.cell q2 (by simp))))
        clear hls h1
        generalize nth x.sg k = y1 at *
        generalize nth x.page k = y2 at *
        go_wp2_with fail
        (refine wp_region_mix (Fr [] wr ·) 16 [(true, 0), (true, 1), (true, 2), (true, 3), (true, 4), (true, 5), (true, 6), (true, 7), (true, 8), (true, 9), (true, 10), (true, 11), (true, 12), (true, 13), (true, 15), (false, 14)] (by kernel_rfl) (by kernel_rfl) ((Fr.refl _ _).drew) ?_; simp only [pickOps, List.map_cons, List.map_nil, List.getD_cons_zero, List.getD_cons_succ, List.drop_succ_cons, List.drop_zero])
        (iterate 15 (first | (refine wpMix_take (v := ?_) (by rfl) ?_ ?_; rotate_left; (focus (intro W hW; obtain ⟨⟨b0, b1, b2, b3, b4, b5⟩, q1, q2⟩ := HQ.out W hW; go_simp; (try with_reducible rfl); done)); try simp only [Act.put, List.setIfInBounds_toArray, List.set_cons_zero, List.set_cons_succ]) | (refine wpMix_leave (by rfl) ?_; try simp only [Act.put, List.setIfInBounds_toArray, List.set_cons_zero, List.set_cons_succ])))
        refine wpMix_skip (by rfl) ?_
        try simp only [Act.put, List.setIfInBounds_toArray, List.set_cons_zero, List.set_cons_succ]
        refine wpMix_nil ?_
        have HI2 : Hid (LxL wB wr.drew u5 (Lx.liveI x s k)) := ⟨hI.out.own.kept (Fr.refl [] wr).drew (by simp), hI.out.fr.drew⟩
        go_wp2
        go_roundw
        case rel => exact ⟨k + 1, by omega, by go_num, by show LxL _ _ _ _; rw [HP.out]; exact HI2.out⟩
        case measure => (simp [intOf]; try omega)
    · obtain rfl : k = x.page.length := by omega
      have kI : ¬ ((x.page.length : Nat) : Int) < x.page.length := by omega
      have HI := Lib.hid hI.out
      clear hI hlt
      go_wp2
      go_ret
      exact HI.out.own.newRow (by have := HB.out.fr.size; omega) (HB.out.fr.trans HI.out.fr)
end Go.Proofs.YtbedfffmicbgmaaDoor
