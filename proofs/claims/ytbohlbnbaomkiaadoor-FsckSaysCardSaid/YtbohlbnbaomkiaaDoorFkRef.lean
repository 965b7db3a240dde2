/- The contracts of the document's own functions for package fsck: Image, Wrong, Named. -/
import Derived.Test.YtbohlbnbaomkiaaDoorFkImg
namespace Go.Proofs.YtbohlbnbaomkiaaDoor
open Go.RowKit

theorem inr1_any (n lo hi : Int) (w : World) :
    Calls Tryd.prog 20 #[.int .i64 n, .int .i64 lo, .int .i64 hi] w fun e w' => e = .returned (.bool (decide (lo ≤ n ∧ n ≤ hi))) ∧ w = w' := by
  go_enter Tryd.func20, Tryd.ntmps20
  go_wp2
  all_goals (go_ret; refine ⟨?_, rfl⟩; congr; try simp; try omega)
theorem inr1_is (n lo hi : Int) (b : Bool) (w : World) (h : decide (lo ≤ n ∧ n ≤ hi) = b) :
    Calls Tryd.prog 20 #[.int .i64 n, .int .i64 lo, .int .i64 hi] w fun e w' => e = .returned (.bool b) ∧ w' = w :=
  (inr1_any n lo hi w).mono fun _ _ ⟨h1, h2⟩ => ⟨by rw [h1, h], h2.symm⟩
theorem inr3_any (n lo hi : Int) (w : World) :
    Calls Tryd.prog 14 #[.int .i64 n, .int .i64 lo, .int .i64 hi] w fun e w' => e = .returned (.bool (decide (lo ≤ n ∧ n ≤ hi))) ∧ w = w' := by
  go_enter Tryd.func14, Tryd.ntmps14
  go_wp2
  all_goals (go_ret; refine ⟨?_, rfl⟩; congr; try simp; try omega)
theorem inr3_is (n lo hi : Int) (b : Bool) (w : World) (h : decide (lo ≤ n ∧ n ≤ hi) = b) :
    Calls Tryd.prog 14 #[.int .i64 n, .int .i64 lo, .int .i64 hi] w fun e w' => e = .returned (.bool b) ∧ w' = w :=
  (inr3_any n lo hi w).mono fun _ _ ⟨h1, h2⟩ => ⟨by rw [h1, h], h2.symm⟩
theorem rall_any (w : World) (v : Value) (g : Nat) (xs : List Int) (lo hi : Int) (h : Sl w v g xs) :
    Calls Tryd.prog 13 #[v, .int .i64 lo, .int .i64 hi] w fun e w' => e = .returned (.bool (allIn xs lo hi)) ∧ w = w' := by
  obtain ⟨A, o, c, rfl, hm, hA, hc⟩ := h.form
  clear h
  have HA := Lib.hid hA
  have HC := Lib.hid hc
  clear hA hc
  go_enter Tryd.func13, Tryd.ntmps13
  go_wp2
  go_loop [7] (fun i => ∃ k : Nat, k ≤ xs.length ∧ i = .int .i64 k ∧ Hid (∀ j, j < k → decide (lo ≤ nth xs j ∧ nth xs j ≤ hi) = true)) (fun i => xs.length - (intOf i).toNat)
  case atStart => exact ⟨0, Nat.zero_le _, rfl, fun j hj => absurd hj (Nat.not_lt_zero _)⟩
  case round =>
    obtain ⟨k, hk, rfl, hs⟩ := hrel
    by_cases hlt : k < xs.length
    · obtain rfl := HA.out (by omega)
      have hcell := HC.out k hlt
      by_cases hy : lo ≤ nth xs k ∧ nth xs k ≤ hi
      · have e1 := decide_eq_true hy
        have HS : Hid (∀ j, j < k + 1 → decide (lo ≤ nth xs j ∧ nth xs j ≤ hi) = true) := fun j hj => by
          by_cases e : j = k
          · subst e; exact e1
          · exact hs.out j (by omega)
        clear hy
        generalize nth xs k = y at *
        go_wp2_with (go_at_call 20; (with_reducible refine useC (inr1_is _ _ _ true _ e1) ?_); rintro e w2 ⟨rfl, rfl⟩)
        go_round
        case rel => exact ⟨k + 1, by omega, by go_num, HS⟩
        case measure => simp [intOf]; omega
      · have e1 := decide_eq_false hy
        have hr := Lib.hid (allIn_cut hlt e1)
        clear hy
        generalize nth xs k = y at *
        go_wp2_with (go_at_call 20; (with_reducible refine useC (inr1_is _ _ _ false _ e1) ?_); rintro e w2 ⟨rfl, rfl⟩)
        go_ret
        exact ⟨ret_bool hr.out.symm, rfl⟩
    · have hr := Lib.hid (allIn_full (fun j hj => hs.out j (by omega)))
      go_wp2
      go_ret
      exact ⟨ret_bool hr.out.symm, rfl⟩
set_option maxRecDepth 100000 in
set_option maxHeartbeats 1000000 in
theorem fk_RImage (w : World) (v : Value) (C : List Int) (E : List (Int × Int)) (hv : ImV w v C E) :
    Calls Tryd.prog 4 #[v] w fun e w' => e = .returned (.int .i64 (Fk.check C E)) ∧ Fr [] w w' := by
  obtain ⟨c, e, g1, g2, rfl, hC, hE⟩ := hv
  obtain ⟨A1, o1, c1, rfl, m1, hA1, hc1⟩ := hC.form
  obtain ⟨A2, o2, c2, rfl, m2, hA2, hc2⟩ := hE.formE
  have HC := Lib.hid (fun W (hW : Fr [] w W) => hC.fr hW (by simp))
  have HA2 := Lib.hid hA2
  have HE := Lib.hid (fun W (hW : Fr [] w W) k (hk : k < E.length) => And.intro (hW.cell (hc2 k hk).1 (by simp)) (hW.cell (hc2 k hk).2 (by simp)))
  have HF : Hid (Fr [] w (w.alloc (.cells #[.slice A1 C.length c1, .slice A2 E.length c2] 25))) := (Fr.refl _ _).alloc _
  have HB := Lib.hid (im2_new w (.slice A1 C.length c1) (.slice A2 E.length c2))
  clear hC hE hA1 hc1 hA2 hc2
  by_cases h8 : C.length ≤ 8
  · have h8' : ¬ (8 : Int) < C.length := by omega
    by_cases h12 : E.length ≤ 12
    · have h12' : ¬ (12 : Int) < E.length := by omega
      cases hoc : allIn C 0 1000 with
      | false =>
        have er := Lib.hid (show Fk.check C E = 1 from by unfold Fk.check; rw [if_pos ⟨h8, h12⟩, Fk.okC_allIn, hoc]; rfl)
        have HO := Lib.hid hoc
        clear hoc
        go_enter Tryd.func4, Tryd.ntmps4
        go_wp2_with (go_at_call 13; (with_reducible refine useC (rall_any _ _ _ _ _ _ (HC.out _ HF.out)) ?_); rw [HO.out]; rintro e w2 ⟨rfl, rfl⟩)
        go_ret
        exact ⟨by rw [er.out]; rfl, HF.out⟩
      | true =>
        have HO := Lib.hid hoc
        have er0 := Lib.hid (show Fk.check C E = if Fk.okE E then 0 else 1 from by unfold Fk.check; rw [if_pos ⟨h8, h12⟩, Fk.okC_allIn, hoc]; rfl)
        clear hoc
        go_enter Tryd.func4, Tryd.ntmps4
        go_wp2_with fail
        revert HF HB
        generalize (w.alloc (.cells #[.slice A1 C.length c1, .slice A2 E.length c2] 25)) = w1
        intro HF HB
        refine useC (rall_any w1 _ _ _ _ _ (HC.out _ HF.out)) ?_
        rw [HO.out]
        rintro e w1 ⟨rfl, rfl⟩
        obtain ⟨d0, d1⟩ := HB.out.cells
        go_wp2
        go_loop [3] (fun i => ∃ k : Nat, k ≤ E.length ∧ i = .int .i64 k ∧ Hid (∀ j, j < k → (decide (0 ≤ entN E j ∧ entN E j ≤ 1000) && decide (0 ≤ entI E j ∧ entI E j ≤ 1000)) = true)) (fun i => E.length - (intOf i).toNat)
        case atStart => exact ⟨0, Nat.zero_le _, rfl, fun j hj => absurd hj (Nat.not_lt_zero _)⟩
        case round =>
          obtain ⟨k, hk, rfl, hs⟩ := hrel
          by_cases hlt : k < E.length
          · obtain rfl := HA2.out (by omega)
            obtain ⟨q0, q1⟩ := HE.out w1 HF.out k hlt
            have hcut := Lib.hid (fun h => Fk.okE_cut (E := E) hlt h)
            have hstep : Hid ((decide (0 ≤ entN E k ∧ entN E k ≤ 1000) && decide (0 ≤ entI E k ∧ entI E k ≤ 1000)) = true → ∀ j, j < k + 1 → (decide (0 ≤ entN E j ∧ entN E j ≤ 1000) && decide (0 ≤ entI E j ∧ entI E j ≤ 1000)) = true) := fun h j hj => by
              by_cases e : j = k
              · subst e; exact h
              · exact hs.out j (by omega)
            have i1 : (k : Int) < E.length := by omega
            have i2 : (0 : Int) ≤ (k : Int) := by omega
            generalize entN E k = x at *
            generalize entI E k = y at *
            cases e1 : decide (0 ≤ x ∧ x ≤ 1000) with
            | false =>
              have er := Lib.hid (show Fk.check C E = 1 from by rw [er0.out, hcut.out (by rw [e1]; rfl)]; rfl)
              clear hcut hstep
              go_wp2_with (first
                | (go_at_call 14; (with_reducible refine useC (inr3_is x _ _ false _ e1) ?_); rintro e w2 ⟨rfl, rfl⟩))
              go_ret
              exact ⟨by rw [er.out]; rfl, HF.out⟩
            | true =>
              cases e2 : decide (0 ≤ y ∧ y ≤ 1000) with
              | false =>
                have er := Lib.hid (show Fk.check C E = 1 from by rw [er0.out, hcut.out (by rw [e1, e2]; rfl)]; rfl)
                clear hcut hstep
                go_wp2_with (first
                  | (go_at_call 14; (with_reducible refine useC (inr3_is _ _ _ true _ e1) ?_); rintro e w2 ⟨rfl, rfl⟩)
                  | (go_at_call 14; (with_reducible refine useC (inr3_is _ _ _ false _ e2) ?_); rintro e w2 ⟨rfl, rfl⟩))
                go_ret
                exact ⟨by rw [er.out]; rfl, HF.out⟩
              | true =>
                have HS := Lib.hid (hstep.out (by rw [e1, e2]; rfl))
                clear hcut hstep
                go_wp2_with (first
                  | (go_at_call 14; (with_reducible refine useC (inr3_is _ _ _ true _ e1) ?_); rintro e w2 ⟨rfl, rfl⟩)
                  | (go_at_call 14; (with_reducible refine useC (inr3_is _ _ _ true _ e2) ?_); rintro e w2 ⟨rfl, rfl⟩))
                go_round
                case rel => exact ⟨k + 1, by omega, by go_num, HS⟩
                case measure => simp [intOf]; omega
          · have er := Lib.hid (show Fk.check C E = 0 from by rw [er0.out, Fk.okE_full (fun j hj => hs.out j (by omega))]; rfl)
            go_wp2
            go_ret
            exact ⟨by rw [er.out]; rfl, HF.out⟩
    · have h12' : (12 : Int) < E.length := by omega
      have er := Lib.hid (show Fk.check C E = 4 from by unfold Fk.check; rw [if_neg (by omega)])
      clear h8 h12
      go_enter Tryd.func4, Tryd.ntmps4
      go_wp2
      go_ret
      exact ⟨by rw [er.out]; rfl, HF.out⟩
  · have h8' : (8 : Int) < C.length := by omega
    have er := Lib.hid (show Fk.check C E = 4 from by unfold Fk.check; rw [if_neg (by omega)])
    clear h8
    go_enter Tryd.func4, Tryd.ntmps4
    go_wp2
    go_ret
    exact ⟨by rw [er.out]; rfl, HF.out⟩
/-- The count by the first n entries, as the document's loop has it. -/
theorem Fk.nm_next (C : List Int) (E : List (Int × Int)) (n : Nat) (i : Int) : Fk.nm C E (n + 1) i = if (!Fk.wrong C E n && entI E n == i) = true then Fk.nm C E n i + 1 else Fk.nm C E n i := by
  rw [Fk.nm_step]
  cases Fk.wrong C E n
  · by_cases e : entI E n = i
    · simp [e]
    · simp [e]
  · simp
theorem Fk.seen_no {E : List (Int × Int)} {n : Nat} (hn : n ≤ E.length) {x : Int} (h : ∀ j, j < n → entN E j ≠ x) : Fk.seen E n x = false := by
  unfold Fk.seen
  rw [List.any_eq_false]
  intro e he
  rw [List.mem_take_iff_getElem] at he
  obtain ⟨j, hj, rfl⟩ := he
  have := h j (by omega)
  unfold entN at this
  rw [show E.getD j (0, 0) = E[j] by simp [List.getD, show j < E.length by omega]] at this
  simpa using this
theorem Fk.seen_yes {E : List (Int × Int)} {n j : Nat} (hj : j < n) (hn : n ≤ E.length) {x : Int} (h : entN E j = x) : Fk.seen E n x = true := by
  unfold Fk.seen
  rw [List.any_eq_true]
  refine ⟨E[j]'(by omega), ?_, ?_⟩
  · rw [List.mem_take_iff_getElem]
    exact ⟨j, by omega, rfl⟩
  · unfold entN at h
    rw [show E.getD j (0, 0) = E[j]'(by omega) by simp [List.getD, show j < E.length by omega]] at h
    simpa using h
set_option maxRecDepth 100000 in
set_option maxHeartbeats 2000000 in
theorem fk_Wrong (w : World) (v : Value) (C : List Int) (E : List (Int × Int)) (n : Nat) (hv : ImV w v C E) (hn : n < E.length) (hok : Fk.okE E = true) :
    Calls Tryd.prog 7 #[v, .int .i64 n] w fun e w' => e = .returned (.bool (Fk.wrong C E n)) ∧ Fr [] w w' := by
  obtain ⟨c, e, g1, g2, rfl, hC, hE⟩ := hv
  obtain ⟨A1, o1, c1, rfl, m1, hA1, hc1⟩ := hC.form
  obtain ⟨A2, o2, c2, rfl, m2, hA2, hc2⟩ := hE.formE
  obtain ⟨b1, b2, b3, b4⟩ := Fk.ent_ok hok hn
  have HC := Lib.hid (fun W (hW : Fr [] w W) k (hk : k < C.length) => hW.cell (hc1 k hk) (by simp))
  have HA1 := Lib.hid hA1
  obtain rfl := hA2 (by omega)
  have HE := Lib.hid (fun W (hW : Fr [] w W) k (hk : k < E.length) => And.intro (hW.cell (hc2 k hk).1 (by simp)) (hW.cell (hc2 k hk).2 (by simp)))
  have HF : Hid (Fr [] w (w.alloc (.cells #[.slice A1 C.length c1, .slice (some ⟨g2, o2, none⟩) E.length c2] 25))) := (Fr.refl _ _).alloc _
  have HB := Lib.hid (im2_new w (.slice A1 C.length c1) (.slice (some ⟨g2, o2, none⟩) E.length c2))
  have HSN := Lib.hid (fun h => Fk.seen_no (E := E) (n := n) (x := entN E n) (by omega) h)
  have HSY := Lib.hid (fun j (hj : j < n) h => Fk.seen_yes (E := E) (x := entN E n) hj (by omega) h)
  obtain ⟨q, hq⟩ : ∃ q : Nat, entI E n = q := ⟨(entI E n).toNat, by omega⟩
  have HQ := Lib.hid hq
  have HWY := Lib.hid (fun h => Fk.wrong_seen (C := C) (E := E) (k := n) h)
  have HWU := Lib.hid (fun h => Fk.wrong_used (C := C) (E := E) (k := n) h)
  have hn2 : (n : Int) < E.length := by omega
  clear hC hE hA1 hc1 hA2 hc2 hok b1 b2 b3 b4 hq
  go_enter Tryd.func7, Tryd.ntmps7
  go_wp2
  revert HF HB
  generalize (w.alloc (.cells #[.slice A1 C.length c1, .slice (some ⟨g2, o2, none⟩) E.length c2] 25)) = w1
  generalize w.heap.size = B
  intro HF HB
  go_loopw [5] (fun i wr => ∃ k : Nat, k ≤ n ∧ i = .int .i64 k ∧ Hid (∀ j, j < k → entN E j ≠ entN E n) ∧ Hid (Fr [] w1 wr)) (fun i _ => n - (intOf i).toNat)
  case atStart => exact ⟨0, Nat.zero_le _, rfl, fun j hj => absurd hj (Nat.not_lt_zero _), Fr.refl _ _⟩
  case round =>
    obtain ⟨k, hk, rfl, hs, hF⟩ := hrel
    obtain ⟨d0, d1⟩ := Im2.cells (hF.out.get HB.out (by simp))
    by_cases hlt : k < n
    · obtain ⟨q0, _⟩ := HE.out wr (HF.out.trans hF.out) k (by omega)
      obtain ⟨r0, _⟩ := HE.out wr (HF.out.trans hF.out) n hn
      have i1 : (k : Int) < n := by omega
      have i2 : (0 : Int) ≤ (k : Int) := by omega
      have i3 : (k : Int) < E.length := by omega
      by_cases he : entN E k = entN E n
      · have hw := Lib.hid (HWY.out (HSY.out k hlt he))
        rw [he] at q0
        clear he
        go_wp2
        (refine wp_region_mixq 12 [(true, 0), (true, 1), (true, 2), (true, 3), (true, 4), (true, 5), (true, 6), (true, 7), (true, 8), (true, 9), (true, 10), (true, 11)] (by kernel_rfl) (by kernel_rfl) ?_; simp only [pickOps, List.map_cons, List.map_nil, List.getD_cons_zero, List.getD_cons_succ, List.drop_succ_cons, List.drop_zero]; (iterate 12 (first | (refine wpMix_take (v := ?_) (by rfl) ?_ ?_; rotate_left; (focus (intro W hW; subst hW; go_simp; (try with_reducible rfl); done)); try simp only [Act.put, List.setIfInBounds_toArray, List.set_cons_zero, List.set_cons_succ]) | (refine wpMix_leave (by rfl) ?_; try simp only [Act.put, List.setIfInBounds_toArray, List.set_cons_zero, List.set_cons_succ]))); refine wpMix_nil ?_)
        go_wp2
        go_ret
        exact ⟨by rw [hw.out]; rfl, (HF.out.trans hF.out).drew⟩
      · have eB : (entN E k == entN E n) = false := by simpa using he
        have HS : Hid (∀ j, j < k + 1 → entN E j ≠ entN E n) := fun j hj => by
          by_cases e : j = k
          · subst e; exact he
          · exact hs.out j (by omega)
        clear he
        go_wp2
        (refine wp_region_mixq 12 [(true, 0), (true, 1), (true, 2), (true, 3), (true, 4), (true, 5), (true, 6), (true, 7), (true, 8), (true, 9), (true, 10), (true, 11)] (by kernel_rfl) (by kernel_rfl) ?_; simp only [pickOps, List.map_cons, List.map_nil, List.getD_cons_zero, List.getD_cons_succ, List.drop_succ_cons, List.drop_zero]; (iterate 12 (first | (refine wpMix_take (v := ?_) (by rfl) ?_ ?_; rotate_left; (focus (intro W hW; subst hW; go_simp; (try with_reducible rfl); done)); try simp only [Act.put, List.setIfInBounds_toArray, List.set_cons_zero, List.set_cons_succ]) | (refine wpMix_leave (by rfl) ?_; try simp only [Act.put, List.setIfInBounds_toArray, List.set_cons_zero, List.set_cons_succ]))); refine wpMix_nil ?_)
        go_wp2
        go_roundw
        case rel => exact ⟨k + 1, by omega, by go_num, HS, hF.out.drew⟩
        case measure => simp [intOf]; omega
    · have hw := Lib.hid (HWU.out (HSN.out (fun j hj => hs.out j (by omega))))
      obtain ⟨_, r1⟩ := HE.out wr (HF.out.trans hF.out) n hn
      rw [HQ.out] at r1
      by_cases hin : q < C.length
      · have j1 : ¬ (C.length : Int) ≤ (q : Int) := by omega
        have j2 : (q : Int) < C.length := by omega
        have j3 : (0 : Int) ≤ (q : Int) := by omega
        obtain rfl := HA1.out (by omega)
        have hc := HC.out wr (HF.out.trans hF.out) q hin
        have hz : Hid (Fk.wrong C E n = (nth C q == 0)) := by
          show _ = _
          rw [hw.out, HQ.out]
          unfold Fk.used
          rw [Int.toNat_natCast, decide_eq_true j2]
          simp
        generalize nth C q = x at *
        go_wp2
        go_ret
        exact ⟨by rw [hz.out]; rfl, HF.out.trans hF.out⟩
      · have j1 : (C.length : Int) ≤ (q : Int) := by omega
        have hz : Hid (Fk.wrong C E n = true) := by
          show _ = _
          rw [hw.out, HQ.out]
          unfold Fk.used
          rw [decide_eq_false (by omega)]
          rfl
        go_wp2
        go_ret
        exact ⟨by rw [hz.out]; rfl, HF.out.trans hF.out⟩
set_option maxRecDepth 100000 in
set_option maxHeartbeats 2000000 in
theorem fk_Named (w : World) (v : Value) (C : List Int) (E : List (Int × Int)) (i : Int) (hv : ImV w v C E) (hok : Fk.okE E = true) (hl : E.length ≤ 12) :
    Calls Tryd.prog 8 #[v, .int .i64 i] w fun e w' => e = .returned (.int .i64 (Fk.nm C E E.length i)) ∧ Fr [] w w' := by
  have HV := Lib.hid (fun W (hW : Fr [] w W) => hv.fr hW)
  obtain ⟨c, e, g1, g2, rfl, hC, hE⟩ := hv
  obtain ⟨A1, o1, c1, rfl, m1, hA1, hc1⟩ := hC.form
  obtain ⟨A2, o2, c2, rfl, m2, hA2, hc2⟩ := hE.formE
  have HA2 := Lib.hid hA2
  have HE := Lib.hid (fun W (hW : Fr [] w W) k (hk : k < E.length) => And.intro (hW.cell (hc2 k hk).1 (by simp)) (hW.cell (hc2 k hk).2 (by simp)))
  have HF : Hid (Fr [] w (w.alloc (.cells #[.slice A1 C.length c1, .slice A2 E.length c2] 25))) := (Fr.refl _ _).alloc _
  have HB := Lib.hid (im2_new w (.slice A1 C.length c1) (.slice A2 E.length c2))
  have HOK := Lib.hid hok
  have HN := Lib.hid (fun n => And.intro (Fk.nm_next C E n i) (Fk.nm_nonneg C E n i))
  clear hC hE hA1 hc1 hA2 hc2 hok
  go_enter Tryd.func8, Tryd.ntmps8
  go_wp2
  revert HF HB
  generalize (w.alloc (.cells #[.slice A1 C.length c1, .slice A2 E.length c2] 25)) = w1
  generalize w.heap.size = B
  intro HF HB
  go_loopw [5, 6] (fun t i' wr => ∃ k : Nat, k ≤ E.length ∧ i' = .int .i64 k ∧ ∃ x : Int, t = .int .i64 x ∧ Hid (x = Fk.nm C E k i) ∧ Hid (Fr [] w1 wr)) (fun _ i' _ => E.length - (intOf i').toNat)
  case atStart => exact ⟨0, Nat.zero_le _, rfl, 0, rfl, (by show _ = _; simp [Fk.nm]), Fr.refl _ _⟩
  case round =>
    obtain ⟨k, hk, rfl, x, rfl, hx, hF⟩ := hrel
    obtain ⟨d0, d1⟩ := Im2.cells (hF.out.get HB.out (by simp))
    by_cases hlt : k < E.length
    · obtain rfl := HA2.out (by omega)
      have i1 : (k : Int) < E.length := by omega
      have i2 : (0 : Int) ≤ (k : Int) := by omega
      have hb := (HN.out k).2
      rw [← hx.out] at hb
      obtain ⟨b1, b2⟩ := hb
      have HN1 := Lib.hid ((HN.out k).1)
      have HWR := Lib.hid (fun W (hW : Fr [] w W) => fk_Wrong W _ C E k (HV.out W hW) hlt HOK.out)
      cases hw : Fk.wrong C E k with
      | true =>
        have HW := Lib.hid hw
        have HN2 := Lib.hid (show Fk.nm C E (k + 1) i = x from by rw [HN1.out, hw, hx.out]; rfl)
        clear hw
        go_wp2_with (go_at_call 7; (with_reducible refine useC (HWR.out _ (HF.out.trans hF.out)) ?_); rw [HW.out]; rintro e w5 ⟨rfl, hf⟩; have HF5 := Lib.hid (hF.out.trans hf); clear hf)
        go_roundw
        case rel => exact ⟨k + 1, by omega, by go_num, x, rfl, HN2.out.symm, HF5.out⟩
        case measure => simp [intOf]; omega
      | false =>
        have HW := Lib.hid hw
        by_cases hi : entI E k = i
        · have HN2 := Lib.hid (show Fk.nm C E (k + 1) i = x + 1 from by rw [HN1.out, hw, hx.out, hi]; simp)
          have HI := Lib.hid hi
          clear hw hi
          go_wp2_with (go_at_call 7; (with_reducible refine useC (HWR.out _ (HF.out.trans hF.out)) ?_); rw [HW.out]; rintro e w5 ⟨rfl, hf⟩; have HF5 := Lib.hid (hF.out.trans hf); obtain ⟨d2, d3⟩ := Im2.cells ((hF.out.trans hf).get HB.out (by simp)); obtain ⟨_, q1⟩ := HE.out w5 (HF.out.trans (hF.out.trans hf)) k hlt; rw [HI.out] at q1; clear hf)
          go_roundw
          case rel => exact ⟨k + 1, by omega, by go_num, x + 1, rfl, HN2.out.symm, HF5.out⟩
          case measure => simp [intOf]; omega
        · have HN2 := Lib.hid (show Fk.nm C E (k + 1) i = x from by rw [HN1.out, hw, hx.out]; simp [hi])
          have eB : (entI E k == i) = false := by simpa using hi
          clear hw hi
          go_wp2_with (go_at_call 7; (with_reducible refine useC (HWR.out _ (HF.out.trans hF.out)) ?_); rw [HW.out]; rintro e w5 ⟨rfl, hf⟩; have HF5 := Lib.hid (hF.out.trans hf); obtain ⟨d2, d3⟩ := Im2.cells ((hF.out.trans hf).get HB.out (by simp)); obtain ⟨_, q1⟩ := HE.out w5 (HF.out.trans (hF.out.trans hf)) k hlt; clear hf)
          go_roundw
          case rel => exact ⟨k + 1, by omega, by go_num, x, rfl, HN2.out.symm, HF5.out⟩
          case measure => simp [intOf]; omega
    · have hk' : k = E.length := by omega
      rw [hk'] at hx
      clear hk'
      go_wp2
      go_ret
      exact ⟨by rw [← hx.out]; rfl, HF.out.trans hF.out⟩
end Go.Proofs.YtbohlbnbaomkiaaDoor
