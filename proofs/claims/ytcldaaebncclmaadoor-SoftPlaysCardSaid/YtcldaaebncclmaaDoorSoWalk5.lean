/- The contract of package soft's Sync. -/
import Derived.Test.YtcldaaebncclmaaDoorSoWalk4
namespace Go.Proofs.YtcldaaebncclmaaDoor
open Go.RowKit

/-- The closure in Sync: it counts. -/
theorem so_step (w : World) (c : Int) (ch : Bool) (p : Nat) (m r : Nat) (hm : m ≤ 1000) (hp : w.heap[p]? = some (.cells (ints [(m : Int)]) 3 (0, 0))) (hr : Hid (r = m + if c = 0 ∧ ch = true then 1 else 0)) :
    Calls Tryd.prog 36 #[errV c, .bool ch, .pointer (some ⟨p, 0, none⟩)] w fun e w' => e = .returned (.tuple #[]) ∧ w'.heap[p]? = some (.cells (ints [(r : Int)]) 3 (0, 0)) ∧ Fr [p] w w' := by
  have HP := Lib.hid hp
  have hc := cell_ints hp (i := 0) (by simp)
  have hf := free_block hp 0 none
  have hm0 : nth [(m : Int)] 0 = m := rfl
  rw [hm0] at hc
  clear hp hm0
  by_cases h0 : c = 0
  · subst h0
    have ee : errV 0 = .nilIface := rfl
    rw [ee]
    clear ee
    cases ch
    · have hr' : r = m := by have := hr.out; simpa using this
      subst hr'
      clear hr
      go_enter Tryd.func36, Tryd.ntmps36
      go_wp2
      go_returns
      exact ⟨rfl, HP.out, Fr.refl _ _⟩
    · have hr' : r = m + 1 := by have := hr.out; simpa using this
      subst hr'
      clear hr
      go_enter Tryd.func36, Tryd.ntmps36
      go_wp2
      go_returns
      exact ⟨rfl, set_ints (i := 0) HP.out ((m : Int) + 1), (Fr.refl _ _).setCell (.inl (by simp)) _⟩
  · rw [errV_no h0]
    have hr' : r = m := by have := hr.out; rw [if_neg (fun h => h0 h.1)] at this; exact this
    subst hr'
    have HC := Lib.hid h0
    clear h0 hr
    go_enter Tryd.func36, Tryd.ntmps36
    go_wp2
    go_returns
    exact ⟨rfl, HP.out, Fr.refl _ _⟩

theorem So.p1_le (L : List Int) : ∀ n, (So.p1 L n).2 ≤ n
  | 0 => Nat.le_refl _
  | n + 1 => by have := So.p1_le L n; unfold So.p1; split <;> simp <;> omega
theorem So.p2_le (s : List Int × Nat) : ∀ n, (So.p2 s n).2 ≤ s.2 + n
  | 0 => Nat.le_refl _
  | n + 1 => by have := So.p2_le s n; unfold So.p2; simp only; split <;> omega
theorem So.p3_le (s : List Int × Nat) : ∀ n, (So.p3 s n).2 ≤ s.2 + n
  | 0 => Nat.le_refl _
  | n + 1 => by have := So.p3_le s n; unfold So.p3; simp only; split <;> omega
/-- An entry that goes: what is written in between is as it was. -/
theorem So.goes {M : List Int} (hM : So.Shp M) {j : Nat} (hj : j < 12) : So.Shp (M.set (28 + j) (-1)) ∧ So.entry (M.set (28 + j) (-1)) j = (So.next (M.set (28 + j) (-1)) j, 0) ∧ (So.next (M.set (28 + j) (-1)) j).set (28 + j) (nth M (28 + j)) = M.set (0 + 8 + j) (-1) := by
  have hl := hM.len
  have N : ∀ q, nth (M.set (28 + j) (-1)) q = if 28 + j = q then -1 else nth M q := fun q => So.nth_set _ _ _ _ (by omega)
  refine ⟨⟨by simp [hl], fun e he => ?_, fun e he => ?_⟩, ?_, ?_⟩
  · rw [N, if_neg (by omega)]; exact hM.eD e he
  · rw [N]; split
    · omega
    · exact hM.eM e he
  · unfold So.entry
    rw [if_neg (by omega), Int.toNat_natCast]
    unfold So.entryAt
    rw [if_neg (fun h => ?_)]
    have h1 := h.1
    rw [N, if_pos rfl] at h1
    omega
  · unfold So.next
    rw [N, if_pos rfl, List.set_comm _ _ (by omega), List.set_set]
    congr 1
    apply List.ext_getElem (by simp)
    intro i a b
    rw [List.getElem_set]
    split
    · rename_i e; subst e; simp [nth, List.getD, b]
    · rfl
theorem So.inode_at {M : List Int} {j : Nat} (hj : j < 8) : So.inode M j = So.inodeAt M j := by unfold So.inode; rw [if_neg (by omega), Int.toNat_natCast]
theorem So.entry_at {M : List Int} {j : Nat} (hj : j < 12) : So.entry M j = So.entryAt M j := by unfold So.entry; rw [if_neg (by omega), Int.toNat_natCast]

/-- What the rounds of Sync know: the numbers, the counter. -/
structure SySt (w wr : World) (b p : Nat) (s : List Int × Nat) : Prop where
  disk : SoD wr b s.1
  cnt : wr.heap[p]? = some (.cells (ints [(s.2 : Int)]) 3 (0, 0))
  fr : Fr [b] w wr
  new : w.heap.size ≤ p
theorem SySt.drew {w wr : World} {b p : Nat} {s : List Int × Nat} (h : SySt w wr b p s) : SySt w wr.drew b p s := ⟨h.disk, h.cnt, h.fr.drew, h.new⟩
set_option maxRecDepth 100000 in
set_option maxHeartbeats 4000000 in
theorem so_Sync (w : World) (b : Nat) (L : List Int) (k : Nat) (hD : SoD w b L) (hO : So.OK L k) :
    Calls Tryd.prog 21 #[.pointer (some ⟨b, 0, none⟩)] w (SoAns b (.int .i64 ((So.sync L).2 : Int)) (So.sync L).1 w) := by
  have hb := lt_of_heap hD
  have HO1 := Lib.hid (fun n (hn : n ≤ 12) => (So.p1_ok hO n hn).1)
  have HO2 := Lib.hid (fun n (hn : n ≤ 8) => (So.p2_ok (s := So.p1 L 12) (HO1.out 12 (Nat.le_refl _)) n hn).1)
  have HO3 := Lib.hid (fun n (hn : n ≤ 12) => (So.p3_ok (s := So.p2 (So.p1 L 12) 8) (HO2.out 8 (Nat.le_refl _)) n hn).1)
  have HB1 := Lib.hid (So.p1_le L)
  have HB2 := Lib.hid (So.p2_le (So.p1 L 12))
  have HB3 := Lib.hid (So.p3_le (So.p2 (So.p1 L 12) 8))
  have h0 : Hid (SySt w (w.alloc (.cells #[.int .i64 0] 3)) b w.heap.size (So.p1 L 0)) := (⟨hD.fr ((Fr.refl [] w).alloc _) (by simp), heap_alloc_new w _, (Fr.refl _ _).alloc _, Nat.le_refl _⟩ : SySt w _ b w.heap.size (So.p1 L 0))
  have hfz : (w.alloc (.cells #[.int .i64 0] 3)).frozen? ⟨w.heap.size, 0, none⟩ = false := free_block (heap_alloc_new w _) 0 none
  clear hD hO
  go_enter Tryd.func21, Tryd.ntmps21
  go_wp2
  clear hfz
  revert h0
  generalize (w.alloc (.cells #[.int .i64 0] 3)) = w0
  generalize hp : w.heap.size = p
  intro h0
  have hbp : b < p := by omega
  have hne : p ∉ [b] := by simp; omega
  have hne' : b ∉ [p] := by simp; omega
  go_loopw [12] (fun c wr => ∃ j : Nat, j ≤ 12 ∧ c = .int .i64 j ∧ Hid (SySt w wr b p (So.p1 L j))) (fun c _ => 12 - (intOf c).toNat)
  case atStart => exact ⟨0, Nat.zero_le _, rfl, h0⟩
  case round =>
    obtain ⟨j, hj, rfl, hS⟩ := hrel
    clear h0
    by_cases hlt : j < 12
    · have hj0 : (j : Int) < 12 := by omega
      have hok := HO1.out j (by omega)
      have hl := hok.shp.len
      have hx := hok.shp.eM j hlt
      have hc1 := hS.out.disk.cell (i := 8 + j) (by omega)
      have hc2 := hS.out.disk.cell (i := 28 + j) (by omega)
      have hf := hS.out.disk.free (28 + j)
      have hgo := Lib.hid (So.goes hok.shp hlt)
      have hm := HB1.out j
      have hsucc : Hid (So.p1 L (j + 1) = if 0 ≤ nth (So.p1 L j).1 (8 + j) ∧ nth (So.p1 L j).1 (28 + j) ≠ nth (So.p1 L j).1 (8 + j) then ((So.p1 L j).1.set (0 + 8 + j) (-1), (So.p1 L j).2 + 1) else So.p1 L j) := rfl
      have Hl := Lib.hid hl
      clear hok hl
      generalize So.p1 L j = s at *
      obtain ⟨M, m⟩ := s
      simp only at hsucc hgo hm hx hc1 hc2 Hl
      by_cases h1 : 0 ≤ nth M (8 + j)
      · have d1 : decide (0 ≤ nth M (8 + j)) = true := decide_eq_true h1
        by_cases h2 : nth M (28 + j) = nth M (8 + j)
        · have hs := Lib.hid (show So.p1 L (j + 1) = (M, m) from by rw [hsucc.out, if_neg (fun h => h.2 h2)])
          have eB : (nth M (28 + j) != nth M (8 + j)) = false := by simpa using h2
          have H2 := Lib.hid h2
          clear hsucc h2 hgo hx
          generalize nth M (8 + j) = x1 at *
          generalize nth M (28 + j) = x2 at *
          go_wp2
          (refine wp_region_mixq 23 [(true, 0), (true, 1), (true, 2), (true, 3), (true, 4), (true, 5), (true, 6), (true, 7), (true, 8), (true, 9), (true, 10), (true, 11), (true, 12), (true, 13), (true, 14), (true, 15), (true, 16), (true, 17), (true, 18), (true, 19), (true, 20), (true, 21), (true, 22)] (by kernel_rfl) (by kernel_rfl) ?_; simp only [pickOps, List.map_cons, List.map_nil, List.getD_cons_zero, List.getD_cons_succ, List.drop_succ_cons, List.drop_zero]; (iterate 23 (first | (refine wpMix_take (v := ?_) (by rfl) ?_ ?_; rotate_left; (focus (intro W hW; subst hW; go_simp; (try with_reducible rfl); done)); try simp only [Act.put, List.setIfInBounds_toArray, List.set_cons_zero, List.set_cons_succ]) | (refine wpMix_leave (by rfl) ?_; try simp only [Act.put, List.setIfInBounds_toArray, List.set_cons_zero, List.set_cons_succ]))); refine wpMix_nil ?_)
          go_wp2
          go_roundw
          case rel => exact ⟨j + 1, by omega, by go_num, by rw [hs.out]; exact hS.out.drew⟩
          case measure => simp [intOf]; omega
        · have hs := Lib.hid (show So.p1 L (j + 1) = (M.set (0 + 8 + j) (-1), m + 1) from by rw [hsucc.out, if_pos ⟨h1, h2⟩])
          have eB : (nth M (28 + j) != nth M (8 + j)) = true := by simpa using h2
          have H2 := Lib.hid h2
          have hDE : Hid (SoD ((wr.setCell ⟨b, 28 + j, none⟩ (.int .i64 (-1))).drew) b (M.set (28 + j) (-1))) := SoD.put hS.out.disk (28 + j) (-1)
          have HE : Hid (Calls Tryd.prog 37 #[.pointer (some ⟨b, 0, none⟩), .int .i64 j] ((wr.setCell ⟨b, 28 + j, none⟩ (.int .i64 (-1))).drew) (SoAns b (errV 0) (So.next (M.set (28 + j) (-1)) j) ((wr.setCell ⟨b, 28 + j, none⟩ (.int .i64 (-1))).drew))) := by
            have h := so_Entry _ b _ (j : Int) hDE.out hgo.out.1
            rw [hgo.out.2.1] at h
            exact h
          have HG2 := Lib.hid hgo.out.2.2
          clear hsucc h2 hgo
          have HSD := Lib.hid hS.out.drew
          have HST := Lib.hid (fun W (hW : W.heap[p]? = _) => so_step W 0 true p m (m + 1) (by omega) hW (by show _ = _; simp))
          generalize nth M (8 + j) = x1 at *
          generalize hx2 : nth M (28 + j) = x2 at *
          clear hx2
          go_wp2
          (refine wp_region_mixq 23 [(true, 0), (true, 1), (true, 2), (true, 3), (true, 4), (true, 5), (true, 6), (true, 7), (true, 8), (true, 9), (true, 10), (true, 11), (true, 12), (true, 13), (true, 14), (true, 15), (true, 16), (true, 17), (true, 18), (true, 19), (true, 20), (true, 21), (true, 22)] (by kernel_rfl) (by kernel_rfl) ?_; simp only [pickOps, List.map_cons, List.map_nil, List.getD_cons_zero, List.getD_cons_succ, List.drop_succ_cons, List.drop_zero]; (iterate 23 (first | (refine wpMix_take (v := ?_) (by rfl) ?_ ?_; rotate_left; (focus (intro W hW; subst hW; go_simp; (try with_reducible rfl); done)); try simp only [Act.put, List.setIfInBounds_toArray, List.set_cons_zero, List.set_cons_succ]) | (refine wpMix_leave (by rfl) ?_; try simp only [Act.put, List.setIfInBounds_toArray, List.set_cons_zero, List.set_cons_succ]))); refine wpMix_nil ?_)
          go_wp2_with (first
            | (go_at_call 37; (with_reducible refine useC HE.out ?_); rintro e w1 ⟨rfl, hd1, hf1⟩; have HD1 := Lib.hid hd1; have HF1 := Lib.hid (hS.out.fr.trans ((((Fr.refl [b] wr).setCell (.inl (by simp)) (.int .i64 (-1))).drew).trans hf1)); have hp1 := Lib.hid (((((Fr.refl [b] wr).setCell (.inl (by simp)) (.int .i64 (-1))).drew).trans hf1).get hS.out.cnt hne); clear hd1 hf1)
            | (go_at_call 36; (with_reducible refine useC (HST.out w1 hp1.out) ?_); rintro e w2 ⟨rfl, hc3, hf3⟩; have HC3 := Lib.hid hc3; have HD3 := Lib.hid (HD1.out.fr hf3 hne'); have HF3 := Lib.hid (HF1.out.step hf3 (fun x hx => .inr (by simp at hx; omega))); have hcx := HD3.out.cell (i := 28 + j) (by simp [So.next, Hl.out]; omega); have hfx := HD3.out.free (28 + j); clear hc3 hf3))
          go_roundw
          case rel => exact ⟨j + 1, by omega, by go_num, by rw [hs.out]; exact ⟨by rw [← HG2.out]; exact HD3.out.put (28 + j) x2, ((Fr.refl [b] w2).setCell (.inl (by simp)) _).get HC3.out hne, HF3.out.trans ((Fr.refl [b] w2).setCell (.inl (by simp)) _), by omega⟩⟩
          case measure => simp [intOf]; omega
      · have hs := Lib.hid (show So.p1 L (j + 1) = (M, m) from by rw [hsucc.out, if_neg (fun h => h1 h.1)])
        have d1 : decide (0 ≤ nth M (8 + j)) = false := decide_eq_false h1
        have h1' : nth M (8 + j) < 0 := by omega
        clear hsucc h1 hgo hx
        generalize nth M (8 + j) = x1 at *
        generalize nth M (28 + j) = x2 at *
        go_wp2
        (refine wp_region_mixq 23 [(true, 0), (true, 1), (true, 2), (true, 3), (true, 4), (true, 5), (true, 6), (true, 7), (true, 8), (true, 9), (true, 10), (true, 11), (true, 12), (true, 13), (true, 14), (true, 15), (true, 16), (true, 17), (true, 18), (true, 19), (true, 20), (true, 21), (true, 22)] (by kernel_rfl) (by kernel_rfl) ?_; simp only [pickOps, List.map_cons, List.map_nil, List.getD_cons_zero, List.getD_cons_succ, List.drop_succ_cons, List.drop_zero]; (iterate 23 (first | (refine wpMix_take (v := ?_) (by rfl) ?_ ?_; rotate_left; (focus (intro W hW; subst hW; go_simp; (try with_reducible rfl); done)); try simp only [Act.put, List.setIfInBounds_toArray, List.set_cons_zero, List.set_cons_succ]) | (refine wpMix_leave (by rfl) ?_; try simp only [Act.put, List.setIfInBounds_toArray, List.set_cons_zero, List.set_cons_succ]))); refine wpMix_nil ?_)
        go_wp2
        go_roundw
        case rel => exact ⟨j + 1, by omega, by go_num, by rw [hs.out]; exact hS.out.drew⟩
        case measure => simp [intOf]; omega
    · have hj12 : j = 12 := by omega
      have h1 : Hid (SySt w wr b p (So.p2 (So.p1 L 12) 0)) := by have h := hS; rw [hj12] at h; exact h
      clear hS hj12
      go_wp2
      go_loopw [66] (fun c wr => ∃ j : Nat, j ≤ 8 ∧ c = .int .i64 j ∧ Hid (SySt w wr b p (So.p2 (So.p1 L 12) j))) (fun c _ => 8 - (intOf c).toNat)
      case atStart => exact ⟨0, Nat.zero_le _, rfl, h1⟩
      case round =>
        obtain ⟨j, hj, rfl, hS⟩ := hrel
        clear h1
        by_cases hlt : j < 8
        · have hj0 : (j : Int) < 8 := by omega
          have hok := HO2.out j (by omega)
          have hl := hok.shp.len
          have hc1 := hS.out.disk.cell (i := j) (by omega)
          have hc2 := hS.out.disk.cell (i := 20 + j) (by omega)
          have hm : (So.p2 (So.p1 L 12) j).2 ≤ 20 := by have a := HB2.out j; have b := HB1.out 12; omega
          have hsucc : Hid (So.p2 (So.p1 L 12) (j + 1) = ((So.inodeAt (So.p2 (So.p1 L 12) j).1 j).1, (So.p2 (So.p1 L 12) j).2 + if (So.inodeAt (So.p2 (So.p1 L 12) j).1 j).2 = 0 ∧ nth (So.p2 (So.p1 L 12) j).1 j ≠ nth (So.p2 (So.p1 L 12) j).1 (20 + j) then 1 else 0)) := rfl
          have HE := Lib.hid (so_Inode wr.drew b _ (j : Int) hS.out.drew.disk hok.shp)
          rw [So.inode_at hlt] at HE
          have HSD := Lib.hid hS.out.drew
          clear hok hl
          generalize So.p2 (So.p1 L 12) j = s at *
          obtain ⟨M, m⟩ := s
          simp only at hm hc1 hc2 HE
          obtain ⟨r, hr⟩ : ∃ r : Nat, r = m + if (So.inodeAt M j).2 = 0 ∧ nth M j ≠ nth M (20 + j) then 1 else 0 := ⟨_, rfl⟩
          have hs : Hid (So.p2 (So.p1 L 12) (j + 1) = ((So.inodeAt M j).1, r)) := by rw [hr]; exact hsucc
          have eB : (nth M j != nth M (20 + j)) = decide (nth M j ≠ nth M (20 + j)) := by by_cases h : nth M j = nth M (20 + j) <;> simp [h]
          have hr' : Hid (r = m + if (So.inodeAt M j).2 = 0 ∧ decide (nth M j ≠ nth M (20 + j)) = true then 1 else 0) := by show _ = _; rw [hr]; simp only [decide_eq_true_eq]
          clear hr hsucc
          generalize decide (nth M j ≠ nth M (20 + j)) = ch at *
          have HST := Lib.hid (fun W (hW : W.heap[p]? = _) => so_step W (So.inodeAt M j).2 ch p m r (by omega) hW hr')
          generalize nth M j = x1 at *
          generalize nth M (20 + j) = x2 at *
          generalize So.inodeAt M j = z at *
          clear hr'
          go_wp2
          (refine wp_region_mixq 14 [(true, 0), (true, 1), (true, 2), (true, 3), (true, 4), (true, 5), (true, 6), (true, 7), (true, 8), (true, 9), (true, 10), (true, 11), (true, 12), (true, 13)] (by kernel_rfl) (by kernel_rfl) ?_; simp only [pickOps, List.map_cons, List.map_nil, List.getD_cons_zero, List.getD_cons_succ, List.drop_succ_cons, List.drop_zero]; (iterate 14 (first | (refine wpMix_take (v := ?_) (by rfl) ?_ ?_; rotate_left; (focus (intro W hW; subst hW; go_simp; (try with_reducible rfl); done)); try simp only [Act.put, List.setIfInBounds_toArray, List.set_cons_zero, List.set_cons_succ]) | (refine wpMix_leave (by rfl) ?_; try simp only [Act.put, List.setIfInBounds_toArray, List.set_cons_zero, List.set_cons_succ]))); refine wpMix_nil ?_)
          go_wp2_with (first
            | (go_at_call 38; (with_reducible refine useC HE.out ?_); rintro e w1 ⟨rfl, hd1, hf1⟩; have HD1 := Lib.hid hd1; have HF1 := Lib.hid (HSD.out.fr.trans hf1); have hp1 := Lib.hid (hf1.get HSD.out.cnt hne); clear hd1 hf1)
            | (go_at_call 36; (with_reducible refine useC (HST.out w1 hp1.out) ?_); rintro e w2 ⟨rfl, hc3, hf3⟩; have HC3 := Lib.hid hc3; have HD3 := Lib.hid (HD1.out.fr hf3 hne'); have HF3 := Lib.hid (HF1.out.step hf3 (fun x hx => .inr (by simp at hx; omega))); clear hc3 hf3))
          go_roundw
          case rel => exact ⟨j + 1, by omega, by go_num, by rw [hs.out]; exact ⟨HD3.out, HC3.out, HF3.out, by omega⟩⟩
          case measure => simp [intOf]; omega
        · have hj8 : j = 8 := by omega
          have h2 : Hid (SySt w wr b p (So.p3 (So.p2 (So.p1 L 12) 8) 0)) := by have h := hS; rw [hj8] at h; exact h
          clear hS hj8
          go_wp2
          go_loopw [91] (fun c wr => ∃ j : Nat, j ≤ 12 ∧ c = .int .i64 j ∧ Hid (SySt w wr b p (So.p3 (So.p2 (So.p1 L 12) 8) j))) (fun c _ => 12 - (intOf c).toNat)
          case atStart => exact ⟨0, Nat.zero_le _, rfl, h2⟩
          case round =>
            obtain ⟨j, hj, rfl, hS⟩ := hrel
            clear h2
            by_cases hlt : j < 12
            · have hj0 : (j : Int) < 12 := by omega
              have hok := HO3.out j (by omega)
              have hl := hok.shp.len
              have hc1 := hS.out.disk.cell (i := 8 + j) (by omega)
              have hc2 := hS.out.disk.cell (i := 28 + j) (by omega)
              have hm : (So.p3 (So.p2 (So.p1 L 12) 8) j).2 ≤ 40 := by have a := HB3.out j; have b := HB2.out 8; have c := HB1.out 12; omega
              have hsucc : Hid (So.p3 (So.p2 (So.p1 L 12) 8) (j + 1) = ((So.entryAt (So.p3 (So.p2 (So.p1 L 12) 8) j).1 j).1, (So.p3 (So.p2 (So.p1 L 12) 8) j).2 + if (So.entryAt (So.p3 (So.p2 (So.p1 L 12) 8) j).1 j).2 = 0 ∧ nth (So.p3 (So.p2 (So.p1 L 12) 8) j).1 (8 + j) ≠ nth (So.p3 (So.p2 (So.p1 L 12) 8) j).1 (28 + j) then 1 else 0)) := rfl
              have HE := Lib.hid (so_Entry wr.drew b _ (j : Int) hS.out.drew.disk hok.shp)
              rw [So.entry_at hlt] at HE
              have HSD := Lib.hid hS.out.drew
              clear hok hl
              generalize So.p3 (So.p2 (So.p1 L 12) 8) j = s at *
              obtain ⟨M, m⟩ := s
              simp only at hm hc1 hc2 HE
              obtain ⟨r, hr⟩ : ∃ r : Nat, r = m + if (So.entryAt M j).2 = 0 ∧ nth M (8 + j) ≠ nth M (28 + j) then 1 else 0 := ⟨_, rfl⟩
              have hs : Hid (So.p3 (So.p2 (So.p1 L 12) 8) (j + 1) = ((So.entryAt M j).1, r)) := by rw [hr]; exact hsucc
              have eB : (nth M (8 + j) != nth M (28 + j)) = decide (nth M (8 + j) ≠ nth M (28 + j)) := by by_cases h : nth M (8 + j) = nth M (28 + j) <;> simp [h]
              have hr' : Hid (r = m + if (So.entryAt M j).2 = 0 ∧ decide (nth M (8 + j) ≠ nth M (28 + j)) = true then 1 else 0) := by show _ = _; rw [hr]; simp only [decide_eq_true_eq]
              clear hr hsucc
              generalize decide (nth M (8 + j) ≠ nth M (28 + j)) = ch at *
              have HST := Lib.hid (fun W (hW : W.heap[p]? = _) => so_step W (So.entryAt M j).2 ch p m r (by omega) hW hr')
              generalize nth M (8 + j) = x1 at *
              generalize nth M (28 + j) = x2 at *
              generalize So.entryAt M j = z at *
              clear hr'
              go_wp2
              (refine wp_region_mixq 14 [(true, 0), (true, 1), (true, 2), (true, 3), (true, 4), (true, 5), (true, 6), (true, 7), (true, 8), (true, 9), (true, 10), (true, 11), (true, 12), (true, 13)] (by kernel_rfl) (by kernel_rfl) ?_; simp only [pickOps, List.map_cons, List.map_nil, List.getD_cons_zero, List.getD_cons_succ, List.drop_succ_cons, List.drop_zero]; (iterate 14 (first | (refine wpMix_take (v := ?_) (by rfl) ?_ ?_; rotate_left; (focus (intro W hW; subst hW; go_simp; (try with_reducible rfl); done)); try simp only [Act.put, List.setIfInBounds_toArray, List.set_cons_zero, List.set_cons_succ]) | (refine wpMix_leave (by rfl) ?_; try simp only [Act.put, List.setIfInBounds_toArray, List.set_cons_zero, List.set_cons_succ]))); refine wpMix_nil ?_)
              go_wp2_with (first
                | (go_at_call 37; (with_reducible refine useC HE.out ?_); rintro e w1 ⟨rfl, hd1, hf1⟩; have HD1 := Lib.hid hd1; have HF1 := Lib.hid (HSD.out.fr.trans hf1); have hp1 := Lib.hid (hf1.get HSD.out.cnt hne); clear hd1 hf1)
                | (go_at_call 36; (with_reducible refine useC (HST.out w1 hp1.out) ?_); rintro e w2 ⟨rfl, hc3, hf3⟩; have HC3 := Lib.hid hc3; have HD3 := Lib.hid (HD1.out.fr hf3 hne'); have HF3 := Lib.hid (HF1.out.step hf3 (fun x hx => .inr (by simp at hx; omega))); clear hc3 hf3))
              go_roundw
              case rel => exact ⟨j + 1, by omega, by go_num, by rw [hs.out]; exact ⟨HD3.out, HC3.out, HF3.out, by omega⟩⟩
              case measure => simp [intOf]; omega
            · have hj12 : j = 12 := by omega
              subst hj12
              have he : Hid (SySt w wr b p (So.sync L)) := hS
              have hcn := cell_ints he.out.cnt (i := 0) (by simp)
              rw [show nth [((So.sync L).2 : Int)] 0 = ((So.sync L).2 : Int) from rfl] at hcn
              clear hS
              go_wp2
              go_ret
              exact ⟨rfl, he.out.disk, he.out.fr⟩
end Go.Proofs.YtcldaaebncclmaaDoor
