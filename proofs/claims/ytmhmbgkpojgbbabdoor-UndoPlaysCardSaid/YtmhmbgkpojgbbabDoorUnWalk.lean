/- The contracts of package undo's functions: turn, Write, Values, Busy, New. -/
import Derived.Test.YtmhmbgkpojgbbabDoorUnHeap
import Derived.Test.YtmhmbgkpojgbbabDoorMix
import Derived.Test.YtmhmbgkpojgbbabDoorCopy
import Derived.Test.YtmhmbgkpojgbbabDoorCClone
import Derived.Handy
namespace Go.Proofs.YtmhmbgkpojgbbabDoor
open Go.RowKit

theorem un_turn (t : Int) (w : World) : Calls Tryd.prog 19 #[.int .i64 t] w fun e w' => e = .returned (errV (Un.turnErr t)) ∧ w' = w := by
  by_cases ht : 0 ≤ t ∧ t ≤ 19
  · have e1 := decide_eq_true ht
    have er := Lib.hid (show Un.turnErr t = 0 from if_pos ht)
    clear ht
    go_enter Tryd.func19, Tryd.ntmps19
    go_wp2_with (go_at_call 22; (with_reducible refine useC (within_is _ _ _ true _ e1) ?_); rintro e w ⟨rfl, rfl⟩)
    go_ret
    exact ⟨by rw [er.out]; rfl, rfl⟩
  · have e1 := decide_eq_false ht
    have er := Lib.hid (show Un.turnErr t = 1 from if_neg ht)
    clear ht
    go_enter Tryd.func19, Tryd.ntmps19
    go_wp2_with (go_at_call 22; (with_reducible refine useC (within_is _ _ _ false _ e1) ?_); rintro e w ⟨rfl, rfl⟩)
    go_ret
    exact ⟨by rw [er.out]; rfl, rfl⟩
theorem un_turn_ok {t : Int} (h : Un.okT t) (w : World) : Calls Tryd.prog 19 #[.int .i64 t] w fun e w' => e = .returned .nilIface ∧ w' = w := (un_turn t w).mono fun _ _ ⟨h1, h2⟩ => ⟨by rw [h1, show Un.turnErr t = 0 from if_pos h]; rfl, h2⟩
theorem un_turn_no {t : Int} (h : ¬ Un.okT t) (w : World) : Calls Tryd.prog 19 #[.int .i64 t] w fun e w' => e = .returned (.iface 55 (.int .i64 1)) ∧ w' = w := (un_turn t w).mono fun _ _ ⟨h1, h2⟩ => ⟨by rw [h1, show Un.turnErr t = 1 from if_neg h]; rfl, h2⟩
theorem put_new (w : World) (a b c : Int) : (w.alloc (.cells #[.int .i64 a, .int .i64 b, .int .i64 c] 36)).heap[w.heap.size]? = some (.cells #[.int .i64 a, .int .i64 b, .int .i64 c] 36 (0, 0)) := heap_alloc_new w _
theorem put_cells {w : World} {B : Nat} {a b c : Value} (h : w.heap[B]? = some (.cells #[a, b, c] 36 (0, 0))) : w.cell? ⟨B, 0, none⟩ = some a ∧ w.cell? ⟨B, 1, none⟩ = some b ∧ w.cell? ⟨B, 2, none⟩ = some c := by
  refine ⟨?_, ?_, ?_⟩ <;> rw [cell_of_row w B _ _ _ _ h] <;> rfl
theorem un_Values (w : World) (P : Nat → Prop) (b : Nat) (d : Un.D) (h : UnF P w b d) :
    Calls Tryd.prog 15 #[.pointer (some ⟨b, 0, none⟩)] w (NewRow d.blk w) := by
  obtain ⟨hO, lv, hB⟩ := h
  have HC := clone_any w _ b d.blk (hB.sl hO.blk) (by rw [hO.blk]; decide)
  have HCL := Lib.hid HC
  clear hO hB HC
  go_enter Tryd.func15, Tryd.ntmps15
  go_wp2_with (go_at_call 25; (with_reducible refine useC HCL.out ?_); rintro e w' ⟨v, g, rfl, h1, h2, h3⟩; have H1 := Lib.hid (And.intro h1 (And.intro h2 h3)); clear h1 h2 h3)
  go_ret
  exact ⟨v, g, rfl, H1.out.1, H1.out.2.1, H1.out.2.2⟩
/-- Whose a block is; -1: nobody's. -/
def Un.busyAt (d : Un.D) (k : Int) : Int := if 0 ≤ k ∧ k ≤ 7 then nth d.busy k.toNat else -1
theorem un_Busy (w : World) (P : Nat → Prop) (b : Nat) (d : Un.D) (k : Int) (h : UnF P w b d) :
    Calls Tryd.prog 16 #[.pointer (some ⟨b, 0, none⟩), .int .i64 k] w fun e w' => e = .returned (.int .i64 (Un.busyAt d k)) ∧ w' = w := by
  obtain ⟨hO, lv, hB⟩ := h
  by_cases hk : 0 ≤ k ∧ k ≤ 7
  · have e1 := decide_eq_true hk
    obtain ⟨n, rfl⟩ : ∃ n : Nat, k = n := ⟨k.toNat, by omega⟩
    have er := Lib.hid (show Un.busyAt d n = nth d.busy n from if_pos hk)
    have hc := hB.busy hO.blk (i := n) (by rw [hO.busy]; omega)
    have hn : (n : Int) < 8 := by omega
    have hn8 : n < 8 := by omega
    clear hk hB hO
    generalize nth d.busy n = y at *
    go_enter Tryd.func16, Tryd.ntmps16
    go_wp2_with (go_at_call 22; (with_reducible refine useC (within_is _ _ _ true _ e1) ?_); rintro e w ⟨rfl, rfl⟩)
    go_ret
    exact ⟨by rw [er.out]; rfl, rfl⟩
  · have e1 := decide_eq_false hk
    have er := Lib.hid (show Un.busyAt d k = -1 from if_neg hk)
    clear hk hB hO
    go_enter Tryd.func16, Tryd.ntmps16
    go_wp2_with (go_at_call 22; (with_reducible refine useC (within_is _ _ _ false _ e1) ?_); rintro e w ⟨rfl, rfl⟩)
    go_ret
    exact ⟨by rw [er.out]; rfl, rfl⟩
theorem un_New (w : World) : Calls Tryd.prog 4 #[] w fun e w' => ∃ b, e = .returned (.pointer (some ⟨b, 0, none⟩)) ∧ UnF (w.heap.size ≤ ·) w' b Un.new ∧ Fr [] w w' := by
  go_enter Tryd.func4, Tryd.ntmps4
  go_wp2
  go_rounds 9
  go_ret
  exact ⟨_, rfl, ⟨Un.new_ok, .slice none 0 0, ⟨Nat.le_refl _, (fun g hg => by cases hg), heap_alloc_new w _, OwnR.nil⟩⟩, (Fr.refl _ _).alloc _⟩
/-- What Write hands back. -/
abbrev UnWr (P : Nat → Prop) (b : Nat) (d : Un.D) (t k v : Int) (w : World) (e : Ending) (w' : World) : Prop := UnAns P b (errV (Un.wrErr d t k v)) (Un.write d t k v) w e w'
set_option maxRecDepth 100000 in
set_option maxHeartbeats 1000000 in
theorem un_Write_no (w : World) (P : Nat → Prop) (b : Nat) (d : Un.D) (t k v : Int) (h : UnF P w b d) (hw : Un.wrErr d t k v ≠ 0) :
    Calls Tryd.prog 10 #[.pointer (some ⟨b, 0, none⟩), .agg #[.int .i64 t, .int .i64 k, .int .i64 v]] w (UnWr P b d t k v w) := by
  have HH := Lib.hid h
  have HF : Hid (Fr [] w (w.alloc (.cells #[.int .i64 t, .int .i64 k, .int .i64 v] 36))) := (Fr.refl _ _).alloc _
  obtain ⟨c0, c1, c2⟩ := put_cells (put_new w t k v)
  have eW : Un.write d t k v = d := by unfold Un.write; rw [if_neg hw]
  unfold UnWr
  rw [eW]
  obtain ⟨hO, lv, hB⟩ := h
  have hbl := hB.lt.1
  clear eW
  by_cases ht : Un.okT t
  · have HT := Lib.hid (fun W => un_turn_ok ht W)
    by_cases h1 : 0 ≤ k ∧ k ≤ 7
    · have e1 := decide_eq_true h1
      by_cases h2 : 0 ≤ v ∧ v ≤ 1000
      · have e2 := decide_eq_true h2
        obtain ⟨n, rfl⟩ : ∃ n : Nat, k = n := ⟨k.toNat, by omega⟩
        have hn8 : n < 8 := by omega
        have hnI : (n : Int) < 8 := by omega
        have cb := hB.busy hO.blk (i := n) (by rw [hO.busy]; exact hn8)
        obtain ⟨A, c, rfl⟩ := hB.form
        have cw := hB.was hO.blk
        by_cases hc : Un.clash d t n
        · have er := Lib.hid (show Un.wrErr d t n v = 6 from by unfold Un.wrErr; rw [if_pos ht, if_pos ⟨h1, h2⟩, if_pos hc])
          unfold Un.clash at hc
          rw [Int.toNat_natCast] at hc
          obtain ⟨hc1, hc2⟩ := hc
          have hcb : (nth d.busy n == t) = false := beq_eq_false_iff_ne.2 hc2
          rw [er.out]
          clear hB hO hw ht h1 h2
          generalize nth d.busy n = y at *
          go_enter Tryd.func10, Tryd.ntmps10
          go_wp2_with (first
            | (go_at_call 19; (with_reducible refine useC (HT.out _) ?_); rintro e w2 ⟨rfl, rfl⟩)
            | (go_at_call 22; (with_reducible refine useC (within_is n _ _ true _ e1) ?_); rintro e w2 ⟨rfl, rfl⟩)
            | (go_at_call 22; (with_reducible refine useC (within_is v _ _ true _ e2) ?_); rintro e w2 ⟨rfl, rfl⟩))
          (refine wp_region_mixq 5 [(true, 0), (true, 1), (true, 2), (true, 3), (true, 4)] (by kernel_rfl) (by kernel_rfl) ?_; simp only [pickOps, List.map_cons, List.map_nil, List.getD_cons_zero, List.getD_cons_succ, List.drop_succ_cons, List.drop_zero]; (iterate 5 (first | (refine wpMix_take (v := ?_) (by rfl) ?_ ?_; rotate_left; (focus (intro W hW; subst hW; go_simp; (try with_reducible rfl); done)); try simp only [Act.put, List.setIfInBounds_toArray, List.set_cons_zero, List.set_cons_succ]) | (refine wpMix_leave (by rfl) ?_; try simp only [Act.put, List.setIfInBounds_toArray, List.set_cons_zero, List.set_cons_succ]))); refine wpMix_nil ?_)
          go_wp2
          go_ret
          exact UnAns.none HH.out rfl HF.out.drew
        · have hl60 : d.was.length = 60 := by
            unfold Un.wrErr at hw
            rw [if_pos ht, if_pos ⟨h1, h2⟩, if_neg hc] at hw
            split at hw
            · assumption
            · exact absurd rfl hw
          have er := Lib.hid (show Un.wrErr d t n v = 4 from by unfold Un.wrErr; rw [if_pos ht, if_pos ⟨h1, h2⟩, if_neg hc, if_pos hl60])
          unfold Un.clash at hc
          rw [Int.toNat_natCast] at hc
          rw [er.out]
          rw [hl60] at cw
          clear hB hO hw ht h1 h2 hl60
          generalize nth d.busy n = y at *
          by_cases hy : 0 ≤ y
          · have hyt : y = t := by omega
            have hcb : (y == t) = true := by simpa using hyt
            subst hyt
            go_enter Tryd.func10, Tryd.ntmps10
            go_wp2_with (first
              | (go_at_call 19; (with_reducible refine useC (HT.out _) ?_); rintro e w2 ⟨rfl, rfl⟩)
              | (go_at_call 22; (with_reducible refine useC (within_is n _ _ true _ e1) ?_); rintro e w2 ⟨rfl, rfl⟩)
              | (go_at_call 22; (with_reducible refine useC (within_is v _ _ true _ e2) ?_); rintro e w2 ⟨rfl, rfl⟩))
            (refine wp_region_mixq 5 [(true, 0), (true, 1), (true, 2), (true, 3), (true, 4)] (by kernel_rfl) (by kernel_rfl) ?_; simp only [pickOps, List.map_cons, List.map_nil, List.getD_cons_zero, List.getD_cons_succ, List.drop_succ_cons, List.drop_zero]; (iterate 5 (first | (refine wpMix_take (v := ?_) (by rfl) ?_ ?_; rotate_left; (focus (intro W hW; subst hW; go_simp; (try with_reducible rfl); done)); try simp only [Act.put, List.setIfInBounds_toArray, List.set_cons_zero, List.set_cons_succ]) | (refine wpMix_leave (by rfl) ?_; try simp only [Act.put, List.setIfInBounds_toArray, List.set_cons_zero, List.set_cons_succ]))); refine wpMix_nil ?_)
            go_wp2
            go_ret
            exact UnAns.none HH.out rfl HF.out.drew
          · go_enter Tryd.func10, Tryd.ntmps10
            go_wp2_with (first
              | (go_at_call 19; (with_reducible refine useC (HT.out _) ?_); rintro e w2 ⟨rfl, rfl⟩)
              | (go_at_call 22; (with_reducible refine useC (within_is n _ _ true _ e1) ?_); rintro e w2 ⟨rfl, rfl⟩)
              | (go_at_call 22; (with_reducible refine useC (within_is v _ _ true _ e2) ?_); rintro e w2 ⟨rfl, rfl⟩))
            (refine wp_region_mixq 5 [(true, 0), (true, 1), (true, 2), (true, 3), (true, 4)] (by kernel_rfl) (by kernel_rfl) ?_; simp only [pickOps, List.map_cons, List.map_nil, List.getD_cons_zero, List.getD_cons_succ, List.drop_succ_cons, List.drop_zero]; (iterate 5 (first | (refine wpMix_take (v := ?_) (by rfl) ?_ ?_; rotate_left; (focus (intro W hW; subst hW; go_simp; (try with_reducible rfl); done)); try simp only [Act.put, List.setIfInBounds_toArray, List.set_cons_zero, List.set_cons_succ]) | (refine wpMix_leave (by rfl) ?_; try simp only [Act.put, List.setIfInBounds_toArray, List.set_cons_zero, List.set_cons_succ]))); refine wpMix_nil ?_)
            go_wp2
            go_ret
            exact UnAns.none HH.out rfl HF.out.drew
      · have e2 := decide_eq_false h2
        have er := Lib.hid (show Un.wrErr d t k v = 1 from by unfold Un.wrErr; rw [if_pos ht, if_neg (fun h => h2 h.2)])
        rw [er.out]
        clear hB hO hw ht h1 h2
        go_enter Tryd.func10, Tryd.ntmps10
        go_wp2_with (first
          | (go_at_call 19; (with_reducible refine useC (HT.out _) ?_); rintro e w2 ⟨rfl, rfl⟩)
          | (go_at_call 22; (with_reducible refine useC (within_is k _ _ true _ e1) ?_); rintro e w2 ⟨rfl, rfl⟩)
          | (go_at_call 22; (with_reducible refine useC (within_is v _ _ false _ e2) ?_); rintro e w2 ⟨rfl, rfl⟩))
        go_ret
        exact UnAns.none HH.out rfl HF.out
    · have e1 := decide_eq_false h1
      have er := Lib.hid (show Un.wrErr d t k v = 1 from by unfold Un.wrErr; rw [if_pos ht, if_neg (fun h => h1 h.1)])
      rw [er.out]
      clear hB hO hw ht h1
      go_enter Tryd.func10, Tryd.ntmps10
      go_wp2_with (first
        | (go_at_call 19; (with_reducible refine useC (HT.out _) ?_); rintro e w2 ⟨rfl, rfl⟩)
        | (go_at_call 22; (with_reducible refine useC (within_is k _ _ false _ e1) ?_); rintro e w2 ⟨rfl, rfl⟩))
      go_ret
      exact UnAns.none HH.out rfl HF.out
  · have HT := Lib.hid (fun W => un_turn_no ht W)
    have er := Lib.hid (show Un.wrErr d t k v = 1 from by unfold Un.wrErr; rw [if_neg ht])
    rw [er.out]
    clear hB hO hw ht
    go_enter Tryd.func10, Tryd.ntmps10
    go_wp2_with (go_at_call 19; (with_reducible refine useC (HT.out _) ?_); rintro e w2 ⟨rfl, rfl⟩)
    go_ret
    exact UnAns.none HH.out rfl HF.out
set_option maxRecDepth 100000 in
set_option maxHeartbeats 2000000 in
theorem un_Write_ok (w : World) (P : Nat → Prop) (b : Nat) (d : Un.D) (t k v : Int) (h : UnF P w b d) (hw : Un.wrErr d t k v = 0) :
    Calls Tryd.prog 10 #[.pointer (some ⟨b, 0, none⟩), .agg #[.int .i64 t, .int .i64 k, .int .i64 v]] w (UnWr P b d t k v w) := by
  obtain ⟨hO, lv, hB⟩ := h
  have HOK := Lib.hid (Un.write_ok hO t k v)
  have eW : Un.write d t k v = Un.put d t k.toNat v := by unfold Un.write; rw [if_pos hw]
  unfold UnWr
  rw [hw]
  rw [eW] at HOK ⊢
  obtain ⟨h1, h2, h3, h4, h5⟩ := Un.wrErr_zero hw
  obtain ⟨n, rfl⟩ : ∃ n : Nat, k = n := ⟨k.toNat, by omega⟩
  rw [Int.toNat_natCast] at HOK ⊢
  have HT := Lib.hid (fun W => un_turn_ok h1 W)
  have e1 := decide_eq_true h2
  have e2 := decide_eq_true h3
  have hn8 : n < 8 := by omega
  have hnI : (n : Int) < 8 := by omega
  have hl60 : d.was.length < 60 := by have := hO.len; omega
  have HL := Lib.hid (And.intro hO.blk hO.busy)
  have hyc : ¬ (0 ≤ nth d.busy n ∧ nth d.busy n ≠ t) := by
    unfold Un.clash at h4
    rwa [Int.toNat_natCast] at h4
  obtain ⟨A, c, rfl⟩ := hB.form
  have hne : ((d.was.length : Int) == 60) = false := beq_eq_false_iff_ne.2 (by omega)
  have HB0 := Lib.hid hB
  have hnb := Lib.hid hB.ne2
  have hbl := hB.lt.1
  have HF : Hid (Fr [] w (w.alloc (.cells #[.int .i64 t, .int .i64 n, .int .i64 v] 36))) := (Fr.refl _ _).alloc _
  have HB1 : Hid (UnB P (w.alloc (.cells #[.int .i64 t, .int .i64 n, .int .i64 v] 36)) b (.slice A d.was.length c) d) := hB.keep HF.out
  have HX := Lib.hid (put_new w t n v)
  clear hO hB eW hw h1 h2 h3 h4 h5
  obtain ⟨c0, c1, c2⟩ := put_cells HX.out
  have cb := HB1.out.busy HL.out.1 (i := n) (by rw [HL.out.2]; exact hn8)
  have cw := HB1.out.was HL.out.1
  go_enter Tryd.func10, Tryd.ntmps10
  go_wp2_with (first
    | (go_at_call 19; (with_reducible refine useC (HT.out _) ?_); rintro e w2 ⟨rfl, rfl⟩)
    | (go_at_call 22; (with_reducible refine useC (within_is n _ _ true _ e1) ?_); rintro e w2 ⟨rfl, rfl⟩)
    | (go_at_call 22; (with_reducible refine useC (within_is v _ _ true _ e2) ?_); rintro e w2 ⟨rfl, rfl⟩))
  revert HF HB1 HX c0 c1 c2 cb cw
  generalize (w.alloc (.cells #[.int .i64 t, .int .i64 n, .int .i64 v] 36)) = w1
  generalize hX : w.heap.size = X
  intro HF HB1 HX c0 c1 c2 cb cw
  have hxn : ∀ g, (Value.slice A d.was.length c).ownBlock = some g → g ≠ X := fun g hg e => by have := (HB0.out.lt.2 g hg); omega
  have HRD : Hid (∀ W, Fr (Value.slice A d.was.length c).ownBlock.toList w1 W → (W.cell? ⟨b, 8, none⟩ = some (.slice A d.was.length c) ∧ W.frozen? ⟨b, 8, none⟩ = false) ∧ W.cell? ⟨b, n, none⟩ = some (.int .i64 (nth d.blk n)) ∧ W.cell? ⟨X, 0, none⟩ = some (.int .i64 t) ∧ W.cell? ⟨X, 1, none⟩ = some (.int .i64 n) ∧ W.cell? ⟨X, 2, none⟩ = some (.int .i64 v) ∧ W.heap[X]? = some (.cells #[.int .i64 t, .int .i64 n, .int .i64 v] 36 (0, 0))) := fun W hW => by
    have q1 := hW.get HB1.out.file (by simpa using hnb.out)
    have q2 := hW.get HX.out (by simp; intro e; exact hxn _ e rfl)
    obtain ⟨z0, z1, z2⟩ := put_cells q2
    refine ⟨⟨?_, free_block q1 8 none⟩, ?_, z0, z1, z2, q2⟩
    · rw [cell_of_row W b _ _ _ _ q1]; exact unRow_was HL.out.1
    · rw [cell_of_row W b _ _ _ _ q1]; exact unRow_blk n (by rw [HL.out.1]; exact hn8)
  have hor : (0 ≤ nth d.busy n ∧ (nth d.busy n == t) = true) ∨ ¬ 0 ≤ nth d.busy n := by
    by_cases hy : 0 ≤ nth d.busy n
    · exact .inl ⟨hy, beq_iff_eq.2 (Classical.byContradiction fun h => hyc ⟨hy, h⟩)⟩
    · exact .inr hy
  clear hyc
  generalize hy : nth d.busy n = y at hor cb
  clear hy
  rcases hor with ⟨hy, hyt⟩ | hy
  all_goals
    (refine wp_region_mixq 5 [(true, 0), (true, 1), (true, 2), (true, 3), (true, 4)] (by kernel_rfl) (by kernel_rfl) ?_; simp only [pickOps, List.map_cons, List.map_nil, List.getD_cons_zero, List.getD_cons_succ, List.drop_succ_cons, List.drop_zero]; (iterate 5 (first | (refine wpMix_take (v := ?_) (by rfl) ?_ ?_; rotate_left; (focus (intro W hW; subst hW; go_simp; (try with_reducible rfl); done)); try simp only [Act.put, List.setIfInBounds_toArray, List.set_cons_zero, List.set_cons_succ]) | (refine wpMix_leave (by rfl) ?_; try simp only [Act.put, List.setIfInBounds_toArray, List.set_cons_zero, List.set_cons_succ]))); refine wpMix_nil ?_)
    go_wp2_with fail
    clear c0 c1 c2 cb cw
    (refine wp_region_mix (Fr (Value.slice A d.was.length c).ownBlock.toList w1 ·) 19 [(true, 0), (true, 1), (true, 2), (true, 3), (true, 4), (true, 5), (true, 6), (true, 7), (true, 8), (true, 9), (true, 10), (true, 11), (true, 12), (true, 13), (true, 14), (true, 15), (true, 16), (false, 17), (false, 18)] (by kernel_rfl) (by kernel_rfl) (((Fr.refl _ _).drew).drew) ?_; simp only [pickOps, List.map_cons, List.map_nil, List.getD_cons_zero, List.getD_cons_succ, List.drop_succ_cons, List.drop_zero])
    (iterate 17 (first | (refine wpMix_take (v := ?_) (by rfl) ?_ ?_; rotate_left; (focus (intro W hW; obtain ⟨⟨q0, q1⟩, q2, q3, q4, q5, q6⟩ := HRD.out W hW; go_simp; (try with_reducible rfl); done)); try simp only [Act.put, List.setIfInBounds_toArray, List.set_cons_zero, List.set_cons_succ]) | (refine wpMix_leave (by rfl) ?_; try simp only [Act.put, List.setIfInBounds_toArray, List.set_cons_zero, List.set_cons_succ])))
    refine wpMix_walk ?_
    go_wp2
    have HBd : Hid (UnB P w1.drew.drew b (.slice A d.was.length c) d) := HB1.out.keep (((Fr.refl [] w1).drew).drew)
    refine MixQ.mk (((((Fr.refl _ w1).drew).drew).alloc _)) ?_
    refine wpMix_walk ?_
    go_wp2_with (at_builtin; refine wpList_push_enc2 (E := enP) (y := ⟨t, n, nth d.blk n⟩) (wr := w1.drew.drew) Tryd.underlying26 Tryd.info_put rfl (by decide) rfl _ _ rfl 0 (.slice A d.was.length c) d.was rfl rfl HBd.out.row rfl (by omega) (Nat.zero_le _) ?_; intro v' w2 h1 h2 h3; have HO := Lib.hid h1; have HG := Lib.hid h2; have HM := Lib.hid h3; clear h1 h2 h3)
    have HF2 : Hid (Fr (Value.slice A d.was.length c).ownBlock.toList w1 w2) := (((Fr.refl _ w1).drew).drew).grown HG.out (fun g e => .inl (by rw [e]; simp))
    obtain ⟨A', c', rfl⟩ : ∃ A' c', v' = .slice A' (d.was.length + 1) c' := by
      obtain ⟨h1, h2⟩ := HO.out
      rcases h2 with ⟨_, h3⟩ | ⟨g, cap, cur, rfl, _⟩
      · simp at h3
      · exact ⟨some ⟨g, 0, none⟩, cap, by simp⟩
    refine MixQ.mk (HF2.out) ?_
    refine wpMix_nil ?_
    obtain ⟨⟨q0, q1⟩, -, -, -, -, q6⟩ := HRD.out w2 HF2.out
    have hs1 : w1.drew.drew.heap.size = w1.heap.size := rfl
    have hs := HF.out.size
    have hs2 := HF2.out.size
    have hnb2 : (Value.slice A' (d.was.length + 1) c').ownBlock ≠ some b := by
      rcases HM.out with e | e
      · rw [e]; exact hnb.out
      · rw [e]; intro e; injection e with e; omega
    have hgP : ∀ g, (Value.slice A' (d.was.length + 1) c').ownBlock = some g → OrNew P w g := fun g hg => by
      rcases HM.out with e | e
      · exact .inl (HB0.out.gl g (by rw [← e]; exact hg))
      · rw [hg] at e
        injection e with e
        exact .inr (by omega)
    have HB3 := Lib.hid (HB1.out.newWas HL.out.1 HF2.out (by simpa using hnb.out) HO.out hnb2 (fun _ h => .inl h) hgP)
    have hp1 : FrP P w w2 := ((FrP.refl P w).step HF.out (by simp)).step HF2.out (fun x hx => .inl (HB0.out.gl x (by simpa using hx)))
    have HP3 : Hid (FrP P w (w2.setCell ⟨b, 8, none⟩ (.slice A' (d.was.length + 1) c'))) := hp1.step ((Fr.refl [b] w2).setCell (.inl (by simp)) _) (fun x hx => by simp only [List.mem_singleton] at hx; subst hx; exact .inl HB0.out.gb)
    have HX3 : Hid ((w2.setCell ⟨b, 8, none⟩ (.slice A' (d.was.length + 1) c')).heap[X]? = some (.cells #[.int .i64 t, .int .i64 n, .int .i64 v] 36 (0, 0))) := (UnB.one w2 b 8 _).get q6 (by simp; omega)
    clear hs1 hs2 hp1 q6
    go_wp2_with (refine wpList_store_one rfl 26 _ _ rfl b 8 (.slice A' (d.was.length + 1) c') (.slice A d.was.length c) rfl rfl (by kernel_rfl) rfl rfl q0 q1 ?_; intro w3 hw3; clear q0 q1)
    rw [← hw3] at HB3 HP3 HX3
    clear hw3
    have HXR := Lib.hid (fun W (hW : Fr [b] w3 W) => put_cells (hW.get HX3.out (by simp; omega)))
    have HB4 := Lib.hid ((HB3.out.keep ((Fr.refl [] w3).drew)).setBlk HL.out.1 hn8 v)
    have HF4 : Hid (Fr [b] w3 (w3.drew.setCell ⟨b, n, none⟩ (.int .i64 v))) := ((Fr.refl _ _).drew).setCell (.inl (by simp)) _
    (refine wp_region_mix (Fr [b] w3 ·) 16 [(true, 0), (true, 1), (true, 2), (true, 3), (true, 4), (true, 5), (true, 6), (true, 7), (true, 8), (true, 9), (true, 10), (true, 11), (true, 12), (true, 14), (true, 15), (false, 13)] (by kernel_rfl) (by kernel_rfl) ((Fr.refl _ _).drew) ?_; simp only [pickOps, List.map_cons, List.map_nil, List.getD_cons_zero, List.getD_cons_succ, List.drop_succ_cons, List.drop_zero])
    (iterate 15 (first | (refine wpMix_take (v := ?_) (by rfl) ?_ ?_; rotate_left; (focus (intro W hW; obtain ⟨z0, z1, z2⟩ := HXR.out W hW; go_simp; (try with_reducible rfl); done)); try simp only [Act.put, List.setIfInBounds_toArray, List.set_cons_zero, List.set_cons_succ]) | (refine wpMix_leave (by rfl) ?_; try simp only [Act.put, List.setIfInBounds_toArray, List.set_cons_zero, List.set_cons_succ])))
    have k1 := HB3.out.blk (i := n) (by rw [HL.out.1]; exact hn8)
    have k2 := HB3.out.free n
    refine wpMix_walk ?_
    go_wp2_with (refine wpList_store_one rfl 3 _ _ rfl b n (.int .i64 v) _ rfl rfl (by kernel_rfl) rfl rfl k1 k2 ?_; intro w4 hw4; rw [← hw4] at HB4 HF4; clear hw4 k1 k2)
    refine MixQ.mk (HF4.out) ?_
    refine wpMix_nil ?_
    have HB5 := Lib.hid (HB4.out.setBusy (by rw [List.length_set]; exact HL.out.1) n t)
    have k3 := HB4.out.busy (by rw [List.length_set]; exact HL.out.1) (i := n) (by rw [HL.out.2]; exact hn8)
    have k4 := HB4.out.free (9 + n)
    go_wp2
    go_ret
    refine ⟨rfl, ⟨HOK.out, _, HB5.out⟩, ?_⟩
    exact HP3.out.step (HF4.out.setCell (.inl (by simp)) _) (fun x hx => by simp only [List.mem_singleton] at hx; subst hx; exact .inl HB0.out.gb)
theorem un_Write (w : World) (P : Nat → Prop) (b : Nat) (d : Un.D) (t k v : Int) (h : UnF P w b d) :
    Calls Tryd.prog 10 #[.pointer (some ⟨b, 0, none⟩), .agg #[.int .i64 t, .int .i64 k, .int .i64 v]] w (UnWr P b d t k v w) := by
  by_cases hw : Un.wrErr d t k v = 0
  · exact un_Write_ok w P b d t k v h hw
  · exact un_Write_no w P b d t k v h hw
end Go.Proofs.YtmhmbgkpojgbbabDoor
