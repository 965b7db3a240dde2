/- The document's answer for package soft: Sync. -/
import Derived.Test.YtcldaaebncclmaaDoorSxRef
import Derived.Test.YtcldaaebncclmaaDoorSxSyncP
import Derived.Test.YtcldaaebncclmaaDoorMix
namespace Go.Proofs.YtcldaaebncclmaaDoor
open Go.RowKit

theorem So4.sync_of {L : List Int} {k : Nat} (h : So.OK L k) : So4.of (So.sync L).1 = ⟨part L 20 8, part L 28 12, part L 20 8, part L 28 12⟩ := by
  have hl := h.shp.len
  have hs := (So.sync_ok h).1.shp.len
  have ha := So.sync_all h
  have hp : ∀ o m q, o + m ≤ 40 → q + m ≤ 40 → (∀ j, j < m → nth (So.sync L).1 (o + j) = nth L (q + j)) → part (So.sync L).1 o m = part L q m := fun o m q h1 h2 hh =>
    eq_of_getD (by rw [part_len (by omega), part_len (by omega)]) (fun j hj => by
      rw [part_len (by omega)] at hj
      rw [part_nth hj, part_nth hj]
      exact hh j hj)
  unfold So4.of
  rw [hp 20 8 20 (by decide) (by decide) (fun j hj => (ha j (by omega)).2), hp 28 12 28 (by decide) (by decide) (fun j hj => by
    have := (ha (8 + j) (by omega)).2
    rwa [show 20 + (8 + j) = 28 + j by omega] at this), hp 0 8 20 (by decide) (by decide) (fun j hj => by rw [Nat.zero_add]; exact (ha j (by omega)).1), hp 8 12 28 (by decide) (by decide) (fun j hj => by
    have := (ha (8 + j) (by omega)).1
    rwa [show 20 + (8 + j) = 28 + j by omega] at this)]
theorem So4.p1_of {L : List Int} (h40 : L.length = 40) (k : Nat) (hk : k < 12) : So4.of (So.p1 L (k + 1)).1 = (if 0 ≤ nth (So.p1 L k).1 (8 + k) ∧ nth (So.p1 L k).1 (28 + k) ≠ nth (So.p1 L k).1 (8 + k) then ⟨(So4.of (So.p1 L k).1).c, (So4.of (So.p1 L k).1).e, (So4.of (So.p1 L k).1).dc, (So4.of (So.p1 L k).1).de.set k (-1)⟩ else So4.of (So.p1 L k).1) := by
  have hl := (So.p1_mem L h40 k (by omega)).1
  conv => lhs; unfold So.p1
  split
  · have := So4.of_de hl hk (-1)
    rw [show 0 + 8 + k = 8 + k by omega]
    exact this
  · rfl
theorem So.p1_cnt (L : List Int) (k : Nat) : (So.p1 L (k + 1)).2 = if 0 ≤ nth (So.p1 L k).1 (8 + k) ∧ nth (So.p1 L k).1 (28 + k) ≠ nth (So.p1 L k).1 (8 + k) then (So.p1 L k).2 + 1 else (So.p1 L k).2 := by
  conv => lhs; unfold So.p1
  split <;> rfl
theorem So.p1_cle (L : List Int) : ∀ k, (So.p1 L k).2 ≤ k
  | 0 => Nat.le_refl _
  | k + 1 => by have := So.p1_cle L k; rw [So.p1_cnt]; split <;> omega
/-- Rows of the struct, as they read. -/
theorem sx_read {w : World} {v : Value} {P : Nat → Prop} {xs : List Int} (h : ∃ g, P g ∧ Sl w v g xs) (hx : 0 < xs.length) : ∃ g o c, v = .slice (some ⟨g, o, none⟩) xs.length c ∧ ∀ j, j < xs.length → w.cell? ⟨g, o + j, none⟩ = some (.int .i64 (nth xs j)) := by
  obtain ⟨g, -, hs⟩ := h
  obtain ⟨A, o, c, rfl, -, hA, hc⟩ := hs.form
  exact ⟨g, o, c, by rw [hA hx], hc⟩
set_option maxRecDepth 100000 in
set_option maxHeartbeats 1000000 in
theorem sx_Sync (w : World) (G : Nat → Prop) (v : Value) (L : List Int) (n : Nat) (hv : SxV G w v (So4.of L)) (hO : So.OK L n) (hG : ∀ k, w.heap.size ≤ k → G k) :
    Calls Tryd.prog 20 #[v] w (SxDn G (So4.of (So.sync L).1) ((So.sync L).2 : Int) w) := by
  have h40 := hO.shp.len
  have hs := So4.of_ok h40
  have hV := hv
  obtain ⟨A1, c1, A2, c2, A3, c3, A4, c4, rfl⟩ := hv.form hs
  have HSO := Lib.hid (So4.sync_of hO)
  have HCN := Lib.hid (So.sync_cnt hO)
  generalize So.sync L = Z at *
  obtain ⟨hsz, fA, y0, y1⟩ := sx_two w (.cells #[.slice A1 8 c1, .slice A2 12 c2, .slice A3 8 c3, .slice A4 12 c4] 50) (.cells #[.slice none 0 0, .slice none 0 0, .slice none 0 0, .slice none 0 0] 50)
  go_enter Tryd.func20, Tryd.ntmps20
  go_wp2_with fail
  generalize hW : ((w.alloc (.cells #[.slice A1 8 c1, .slice A2 12 c2, .slice A3 8 c3, .slice A4 12 c4] 50)).alloc (.cells #[.slice none 0 0, .slice none 0 0, .slice none 0 0, .slice none 0 0] 50)) = W0 at *
  clear hW
  obtain ⟨X, hX⟩ : ∃ X, X = w.heap.size := ⟨_, rfl⟩
  rw [← hX] at hsz y0 y1 ⊢
  obtain ⟨X2, hX2⟩ : ∃ X2, X2 = X + 1 := ⟨_, rfl⟩
  rw [← hX2] at y1 ⊢
  have HU0 : Hid (SxW G w W0 X X2 (.slice A1 8 c1) (.slice A2 12 c2) (.slice A3 8 c3) (.slice A4 12 c4) (So4.of (So.p1 L 0).1)) := SxW.start hV hs hG fA y0 y1 (by omega) (by omega) (by omega)
  have HMM := Lib.hid (fun k (hk : k ≤ 12) => So.p1_mem L h40 k hk)
  have HOF := Lib.hid (fun k (hk : k < 12) => So4.p1_of h40 k hk)
  have HP1 := Lib.hid (So.p1_cnt L)
  have HLE := Lib.hid (So.p1_cle L)
  clear hX hX2 hV hv hs fA y0 y1 hsz hO hG
  have h00 : (So.p1 L 0).2 = 0 := rfl
  generalize So.p1 L = S at *
  have H00 := Lib.hid h00
  clear h00
  go_loopw [4, 5] (fun m i wr => ∃ k : Nat, k ≤ 12 ∧ i = .int .i64 k ∧ m = .int .i64 (S k).2 ∧ ∃ A4 c4, Hid (SxW G w wr X X2 (.slice A1 8 c1) (.slice A2 12 c2) (.slice A3 8 c3) (.slice A4 12 c4) (So4.of (S k).1))) (fun _ i _ => 12 - (intOf i).toNat)
  case atStart => exact ⟨0, Nat.zero_le _, rfl, by rw [H00.out]; rfl, _, _, HU0⟩
  case round =>
    clear HU0
    obtain ⟨k, hk, rfl, rfl, A4, c4, hU⟩ := hrel
    have hm40 := (HMM.out k hk).1
    have hof := So4.of_ok hm40
    obtain ⟨⟨b0, b1, b2, b3⟩, hfx⟩ := hU.out.cells
    by_cases hlt : k < 12
    · have kI : (k : Int) < 12 := by omega
      have k0 : (0 : Int) ≤ k := by omega
      obtain ⟨g4, o4, q4, e4, r4⟩ := sx_read hU.out.rd (by rw [hof.de]; decide)
      obtain ⟨g2, o2, q2, e2, r2⟩ := sx_read hU.out.rb (by rw [hof.e]; decide)
      injection e4 with e4 el4 e4'
      injection e2 with e2 el2 e2'
      clear el4 el2
      subst e4 e4' e2 e2'
      have z4 := r4 k (by rw [hof.de]; exact hlt)
      have z2 := r2 k (by rw [hof.e]; exact hlt)
      rw [show nth (So4.of (S k).1).de k = nth (S k).1 (8 + k) from part_nth hlt] at z4
      rw [show nth (So4.of (S k).1).e k = nth (S k).1 (28 + k) from part_nth hlt] at z2
      have HO := Lib.hid (HOF.out k hlt)
      have HC := Lib.hid (HP1.out k)
      have hle := HLE.out k
      have HDL := Lib.hid hof.de
      clear r4 r2 hof
      generalize nth (S k).1 (8 + k) = y4 at *
      generalize nth (S k).1 (28 + k) = y2 at *
      have HUD := Lib.hid (hU.out.step ((Fr.refl [] wr).drew))
      by_cases hc : 0 ≤ y4 ∧ y2 ≠ y4
      · have HO2 := Lib.hid (HO.out.trans (if_pos hc))
        have HC2 := Lib.hid (HC.out.trans (if_pos hc))
        have hy4 := hc.1
        have hne : (y4 == y2) = false := by
          have := hc.2
          simpa using fun e : y4 = y2 => this e.symm
        have hxn : (So4.of (S k).1).de.set k (-1) ≠ [] := fun e => by
          have := congrArg List.length e
          rw [List.length_set, HDL.out] at this
          cases this
        obtain ⟨gd, -, hsd⟩ := HUD.out.rd
        have HSD := Lib.hid (set_any wr.drew _ gd _ k (-1) hsd (by rw [HDL.out]; exact hlt) (by rw [HDL.out]; decide))
        have HXN := Lib.hid hxn
        clear hc HO HC hxn hsd
        generalize (S k).2 = m0 at *
        go_wp2_with fail
        (refine wp_region_mixq 17 [(true, 0), (true, 1), (true, 2), (true, 3), (true, 4), (true, 5), (true, 6), (true, 7), (true, 8), (true, 9), (true, 10), (true, 11), (true, 12), (true, 13), (true, 14), (true, 15), (true, 16)] (by kernel_rfl) (by kernel_rfl) ?_; simp only [pickOps, List.map_cons, List.map_nil, List.getD_cons_zero, List.getD_cons_succ, List.drop_succ_cons, List.drop_zero]; (iterate 17 (first | (refine wpMix_take (v := ?_) (by rfl) ?_ ?_; rotate_left; (focus (intro W hW; subst hW; go_simp; (try with_reducible rfl); done)); try simp only [Act.put, List.setIfInBounds_toArray, List.set_cons_zero, List.set_cons_succ]) | (refine wpMix_leave (by rfl) ?_; try simp only [Act.put, List.setIfInBounds_toArray, List.set_cons_zero, List.set_cons_succ]))); refine wpMix_nil ?_)
        go_wp2_with (go_at_call 27; (with_reducible refine useC HSD.out ?_); rintro e w6 hn; obtain ⟨A6, c6, he, hu6, hf6, hr6⟩ := HUD.out.row hn HXN.out; rw [List.length_set, HDL.out] at he hr6; subst he; have HU7 := Lib.hid (hu6.setD hr6); clear hf6 hn hr6 b0 b1 b2 b3 hfx; obtain ⟨⟨b0, b1, b2, b3⟩, hfx⟩ := hu6.cells; clear hu6)
        go_roundw
        case rel => exact ⟨k + 1, by omega, by go_num, by rw [HC2.out]; go_num, _, _, by show SxW _ _ _ _ _ _ _ _ _ _; rw [HO2.out]; exact HU7.out⟩
        case measure => (simp [intOf]; try omega)
      · have HO2 := Lib.hid (HO.out.trans (if_neg hc))
        have HC2 := Lib.hid (HC.out.trans (if_neg hc))
        have hor : decide (0 ≤ y4) = false ∨ (decide (0 ≤ y4) = true ∧ (y4 == y2) = true) := by
          by_cases h : 0 ≤ y4
          · refine .inr ⟨decide_eq_true h, ?_⟩
            have : ¬ y2 ≠ y4 := fun e => hc ⟨h, e⟩
            have : y4 = y2 := by omega
            simpa using this
          · exact .inl (decide_eq_false h)
        clear hc HO HC
        generalize (S k).2 = m0 at *
        rcases hor with hy4 | ⟨hy4, hee⟩
        all_goals
          go_wp2_with fail
          (refine wp_region_mixq 17 [(true, 0), (true, 1), (true, 2), (true, 3), (true, 4), (true, 5), (true, 6), (true, 7), (true, 8), (true, 9), (true, 10), (true, 11), (true, 12), (true, 13), (true, 14), (true, 15), (true, 16)] (by kernel_rfl) (by kernel_rfl) ?_; simp only [pickOps, List.map_cons, List.map_nil, List.getD_cons_zero, List.getD_cons_succ, List.drop_succ_cons, List.drop_zero]; (iterate 17 (first | (refine wpMix_take (v := ?_) (by rfl) ?_ ?_; rotate_left; (focus (intro W hW; subst hW; go_simp; (try with_reducible rfl); done)); try simp only [Act.put, List.setIfInBounds_toArray, List.set_cons_zero, List.set_cons_succ]) | (refine wpMix_leave (by rfl) ?_; try simp only [Act.put, List.setIfInBounds_toArray, List.set_cons_zero, List.set_cons_succ]))); refine wpMix_nil ?_)
          go_wp2
          go_roundw
          case rel => exact ⟨k + 1, by omega, by go_num, by rw [HC2.out], _, _, by show SxW _ _ _ _ _ _ _ _ _ _; rw [HO2.out]; exact HUD.out⟩
          case measure => (simp [intOf]; try omega)
    · have kI : ¬ (k : Int) < 12 := by omega
      obtain rfl : k = 12 := by omega
      clear hlt kI hm40
      have hmm := HMM.out 12 (Nat.le_refl _)
      have hn12 := HLE.out 12
      generalize hM : (S 12).1 = M at *
      generalize (S 12).2 = N1 at *
      have hof := So4.of_ok hmm.1
      have HOK := Lib.hid hof
      have HCC := Lib.hid (And.intro (So.c2_le M) (So.c3_le M))
      have HC2 := Lib.hid (fun k => (show So.c2 M (k + 1) = So.c2 M k + if nth M k ≠ nth M (20 + k) then 1 else 0 from rfl))
      have HC3 := Lib.hid (fun k => (show So.c3 M (k + 1) = So.c3 M k + if nth M (8 + k) ≠ nth M (28 + k) then 1 else 0 from rfl))
      have HC20 : Hid (So.c2 M 0 = 0) := rfl
      have HC30 : Hid (So.c3 M 0 = 0) := rfl
      generalize So.c2 M = C2 at *
      generalize So.c3 M = C3 at *
      have HFIN : Hid ((So4.of M).c = part L 20 8 ∧ (So4.of M).e = part L 28 12) := by
        have hpp : ∀ o m, 20 ≤ o → o + m ≤ 40 → part M o m = part L o m := fun o m h1 h2 => eq_of_getD (by rw [part_len (by omega), part_len (by omega)]) (fun j hj => by
          rw [part_len (by omega)] at hj
          rw [part_nth hj, part_nth hj]
          exact hmm.2 _ (by omega))
        exact ⟨hpp 20 8 (by omega) (by omega), hpp 28 12 (by omega) (by omega)⟩
      have HV0 : Hid (SxW G w wr X X2 (.slice A1 8 c1) (.slice A2 12 c2) (.slice A3 8 c3) (.slice A4 12 c4) (So4.of M)) := hU
      clear hU hmm hof HMM HOF HP1 HLE hM
      go_wp2_with fail
      go_loopw [4, 6] (fun m i wr => ∃ k : Nat, k ≤ 8 ∧ i = .int .i64 k ∧ m = .int .i64 ((N1 + C2 k : Nat) : Int) ∧ Hid (SxW G w wr X X2 (.slice A1 8 c1) (.slice A2 12 c2) (.slice A3 8 c3) (.slice A4 12 c4) (So4.of M))) (fun _ i _ => 8 - (intOf i).toNat)
      case atStart => exact ⟨0, Nat.zero_le _, rfl, by rw [HC20.out]; rfl, HV0⟩
      case round =>
        clear HV0 b0 b1 b2 b3 hfx
        obtain ⟨k, hk, rfl, rfl, hU⟩ := hrel
        obtain ⟨⟨b0, b1, b2, b3⟩, hfx⟩ := hU.out.cells
        by_cases hlt : k < 8
        · have kI : (k : Int) < 8 := by omega
          have k0 : (0 : Int) ≤ k := by omega
          obtain ⟨g1, o1, q1, e1, r1⟩ := sx_read hU.out.ra (by rw [HOK.out.c]; decide)
          obtain ⟨g3, o3, q3, e3, r3⟩ := sx_read hU.out.rc (by rw [HOK.out.dc]; decide)
          injection e1 with e1 el1 e1'
          injection e3 with e3 el3 e3'
          clear el1 el3
          subst e1 e1' e3 e3'
          have z1 := r1 k (by rw [HOK.out.c]; exact hlt)
          have z3 := r3 k (by rw [HOK.out.dc]; exact hlt)
          rw [show nth (So4.of M).c k = nth M (20 + k) from part_nth hlt] at z1
          rw [show nth (So4.of M).dc k = nth M k from by rw [show (So4.of M).dc = part M 0 8 from rfl, part_nth hlt, Nat.zero_add]] at z3
          have HC := Lib.hid (HC2.out k)
          have hcl := HCC.out.1 k
          clear r1 r3
          generalize nth M (20 + k) = y1 at *
          generalize nth M k = y3 at *
          have HUD := Lib.hid (hU.out.step ((Fr.refl [] wr).drew))
          have hor : ((y3 != y1) = true ∧ Hid (C2 (k + 1) = C2 k + 1)) ∨ ((y3 != y1) = false ∧ Hid (C2 (k + 1) = C2 k)) := by
            by_cases h : y3 = y1
            · exact .inr ⟨by simpa using h, HC.out.trans (by rw [if_neg (fun e => e h)]; rfl)⟩
            · exact .inl ⟨by simpa using h, HC.out.trans (by rw [if_pos h])⟩
          clear HC
          generalize C2 k = m0 at *
          rcases hor with ⟨hb, HM⟩ | ⟨hb, HM⟩
          all_goals
            go_wp2_with fail
            (refine wp_region_mixq 10 [(true, 0), (true, 1), (true, 2), (true, 3), (true, 4), (true, 5), (true, 6), (true, 7), (true, 8), (true, 9)] (by kernel_rfl) (by kernel_rfl) ?_; simp only [pickOps, List.map_cons, List.map_nil, List.getD_cons_zero, List.getD_cons_succ, List.drop_succ_cons, List.drop_zero]; (iterate 10 (first | (refine wpMix_take (v := ?_) (by rfl) ?_ ?_; rotate_left; (focus (intro W hW; subst hW; go_simp; (try with_reducible rfl); done)); try simp only [Act.put, List.setIfInBounds_toArray, List.set_cons_zero, List.set_cons_succ]) | (refine wpMix_leave (by rfl) ?_; try simp only [Act.put, List.setIfInBounds_toArray, List.set_cons_zero, List.set_cons_succ]))); refine wpMix_nil ?_)
            go_wp2
            go_roundw
            case rel => exact ⟨k + 1, by omega, by go_num, by rw [HM.out]; (try go_num), HUD⟩
            case measure => (simp [intOf]; try omega)
        · have kI : ¬ (k : Int) < 8 := by omega
          obtain rfl : k = 8 := by omega
          have hcl := HCC.out.1 8
          have HV1 : Hid (SxW G w wr X X2 (.slice A1 8 c1) (.slice A2 12 c2) (.slice A3 8 c3) (.slice A4 12 c4) (So4.of M)) := hU
          clear hU hlt kI
          generalize C2 8 = m2 at *
          go_wp2_with fail
          go_loopw [4, 7] (fun m i wr => ∃ k : Nat, k ≤ 12 ∧ i = .int .i64 k ∧ m = .int .i64 ((N1 + m2 + C3 k : Nat) : Int) ∧ Hid (SxW G w wr X X2 (.slice A1 8 c1) (.slice A2 12 c2) (.slice A3 8 c3) (.slice A4 12 c4) (So4.of M))) (fun _ i _ => 12 - (intOf i).toNat)
          case atStart => exact ⟨0, Nat.zero_le _, rfl, by rw [HC30.out]; rfl, HV1⟩
          case round =>
            clear HV1 b0 b1 b2 b3 hfx
            obtain ⟨k, hk, rfl, rfl, hU⟩ := hrel
            obtain ⟨⟨b0, b1, b2, b3⟩, hfx⟩ := hU.out.cells
            by_cases hlt : k < 12
            · have kI : (k : Int) < 12 := by omega
              have k0 : (0 : Int) ≤ k := by omega
              obtain ⟨g2, o2, q2, e2, r2⟩ := sx_read hU.out.rb (by rw [HOK.out.e]; decide)
              obtain ⟨g4, o4, q4, e4, r4⟩ := sx_read hU.out.rd (by rw [HOK.out.de]; decide)
              injection e2 with e2 el2 e2'
              injection e4 with e4 el4 e4'
              clear el2 el4
              subst e2 e2' e4 e4'
              have z2 := r2 k (by rw [HOK.out.e]; exact hlt)
              have z4 := r4 k (by rw [HOK.out.de]; exact hlt)
              rw [show nth (So4.of M).e k = nth M (28 + k) from part_nth hlt] at z2
              rw [show nth (So4.of M).de k = nth M (8 + k) from part_nth hlt] at z4
              have HC := Lib.hid (HC3.out k)
              have hcl3 := HCC.out.2 k
              clear r2 r4
              generalize nth M (28 + k) = y2 at *
              generalize nth M (8 + k) = y4 at *
              have HUD := Lib.hid (hU.out.step ((Fr.refl [] wr).drew))
              have hor : ((y4 != y2) = true ∧ Hid (C3 (k + 1) = C3 k + 1)) ∨ ((y4 != y2) = false ∧ Hid (C3 (k + 1) = C3 k)) := by
                by_cases h : y4 = y2
                · exact .inr ⟨by simpa using h, HC.out.trans (by rw [if_neg (fun e => e h)]; rfl)⟩
                · exact .inl ⟨by simpa using h, HC.out.trans (by rw [if_pos h])⟩
              clear HC
              generalize C3 k = m0 at *
              rcases hor with ⟨hb, HM⟩ | ⟨hb, HM⟩
              all_goals
                go_wp2_with fail
                (refine wp_region_mixq 10 [(true, 0), (true, 1), (true, 2), (true, 3), (true, 4), (true, 5), (true, 6), (true, 7), (true, 8), (true, 9)] (by kernel_rfl) (by kernel_rfl) ?_; simp only [pickOps, List.map_cons, List.map_nil, List.getD_cons_zero, List.getD_cons_succ, List.drop_succ_cons, List.drop_zero]; (iterate 10 (first | (refine wpMix_take (v := ?_) (by rfl) ?_ ?_; rotate_left; (focus (intro W hW; subst hW; go_simp; (try with_reducible rfl); done)); try simp only [Act.put, List.setIfInBounds_toArray, List.set_cons_zero, List.set_cons_succ]) | (refine wpMix_leave (by rfl) ?_; try simp only [Act.put, List.setIfInBounds_toArray, List.set_cons_zero, List.set_cons_succ]))); refine wpMix_nil ?_)
                go_wp2
                go_roundw
                case rel => exact ⟨k + 1, by omega, by go_num, by rw [HM.out]; (try go_num), HUD⟩
                case measure => (simp [intOf]; try omega)
            · have kI : ¬ (k : Int) < 12 := by omega
              obtain rfl : k = 12 := by omega
              have hu1 := hU.out.setC hU.out.ra
              obtain ⟨w5, hw5⟩ : ∃ z, z = wr.setCell ⟨X, 2, none⟩ (.slice A1 8 c1) := ⟨_, rfl⟩
              rw [← hw5] at hu1
              have hu2 := hu1.setD hu1.rb
              obtain ⟨w6, hw6⟩ : ∃ z, z = w5.setCell ⟨X, 3, none⟩ (.slice A2 12 c2) := ⟨_, rfl⟩
              rw [← hw6] at hu2
              have HU1 := Lib.hid hu1
              have HU2 := Lib.hid hu2
              have HW5 := Lib.hid hw5
              have HW6 := Lib.hid hw6
              clear hu1 hu2 hw5 hw6 hlt kI
              generalize C3 12 = m3 at *
              go_wp2_with (first
                | (rw [← HW5.out]; clear HW5 b0 b1 b2 b3 hfx; obtain ⟨⟨b0, b1, b2, b3⟩, hfx⟩ := HU1.out.cells)
                | (rw [← HW6.out]; clear HW6 b0 b1 b2 b3 hfx; obtain ⟨⟨b0, b1, b2, b3⟩, hfx⟩ := HU2.out.cells; obtain ⟨⟨o0', o1', o2', o3'⟩, hfo⟩ := HU2.out.outs))
              rw [HSO.out, HCN.out, ← HFIN.out.1, ← HFIN.out.2]
              exact bodyPost_ret (v := .tuple #[.agg #[.slice A1 8 c1, .slice A2 12 c2, .slice A1 8 c1, .slice A2 12 c2], .int .i64 ((N1 + m2 + m3 : Nat) : Int)]) (sx_results Tryd.results20 rfl (by first | rfl | (simp; done)) (SxW.fin HU2.out).1) rfl ((SxW.fin HU2.out).2 _)
end Go.Proofs.YtcldaaebncclmaaDoor
