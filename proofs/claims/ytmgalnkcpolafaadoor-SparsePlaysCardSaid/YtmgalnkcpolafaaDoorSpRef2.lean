/- The contract of the reference's Write, when nothing is wrong. -/
import Derived.Test.YtmgalnkcpolafaaDoorSpRef
namespace Go.Proofs.YtmgalnkcpolafaaDoor
open Go.RowKit

set_option maxRecDepth 100000 in
set_option maxHeartbeats 4000000 in
theorem sr_Write_ok (w : World) (G : Nat → Prop) (v u : Value) (g : Nat) (f : Sp.F) (a : Nat) (l : List Int) (hv : SpV G w v f) (hO : Sp.OK f) (hG : ∀ k, w.heap.size ≤ k → G k) (hs : Sl w u g l) (hw : Sp.wrong a l = 0) :
    Calls Tryd.prog 27 #[v, .int .i64 a, u] w (SpA G (Sp.wr f a l) 0 w) := by
  obtain ⟨vb, vk, gb, gk, rfl, hgg, hb, hk⟩ := hv
  obtain ⟨w1, w2, w3, w4⟩ := Sp.wrong_zero hw
  have hQ0 := Lib.hid (SpQ.start w hgg hb hk hO hG)
  clear hG hgg
  have HB := Lib.hid (fun W (hW : Fr [] w W) => r1Bytes W u g l 64 (hs.fr hW (by simp)))
  have hz : r1bytes l 64 = 0 := by unfold r1bytes; rw [if_neg (by omega), ← Sp.okL_r1, w2]; rfl
  have e1 : decide ((0 : Int) ≤ a ∧ (a : Int) ≤ 64) = true := decide_eq_true (by omega)
  have hal : a + l.length ≤ 64 := by omega
  obtain ⟨Ab, ob, cb, rfl, -, -, -⟩ := hb.form
  obtain ⟨Ak, ok, ck, rfl, -, -, -⟩ := hk.form
  obtain ⟨Al, ol, cl, rfl, -, hA, hC⟩ := hs.form
  have HA := Lib.hid hA
  have HC := Lib.hid (fun W (hW : Fr [] w W) i (hi : i < l.length) => hW.cell (hC i hi) (by simp))
  clear hb hk hO hs hw w1 w2 w3 w4 hA hC
  go_enter Tryd.func27, Tryd.ntmps27
  go_wp2_with fail
  revert hQ0
  generalize (w.alloc (.cells #[.slice Ab f.byt.length cb, .int .i64 f.size, .slice Ak f.blk.length ck] 49)).alloc (.cells #[.slice none 0 0, .int .i64 0, .slice none 0 0] 49) = w1
  intro hQ0
  generalize w.heap.size = B at *
  refine useC (HB.out w1 hQ0.out.fr) ?_
  rw [hz]
  clear HB hz
  rintro e w1 ⟨rfl, rfl⟩
  go_wp2_with (go_at_call 39; (with_reducible refine useC (r2in_is a _ _ true _ e1) ?_); rintro e w1 ⟨rfl, rfl⟩)
  go_loopw [9] (fun i wr => ∃ k : Nat, k ≤ l.length ∧ i = .int .i64 k ∧ ∃ vb vk, Hid (SpQ G w wr B vb vk ⟨Sp.szT f a k, Sp.wrB f.byt a l k, Sp.wrK f.blk a k⟩)) (fun i _ => l.length - (intOf i).toNat)
  case atStart => exact ⟨0, Nat.zero_le _, rfl, _, _, hQ0⟩
  case round =>
    clear hQ0
    obtain ⟨k, hk, rfl, vb, vk, hQ⟩ := hrel
    obtain ⟨c0, c1, c2⟩ := hQ.out.box.cells
    have hfz := fun i => free_block hQ.out.box i none
    by_cases hlt : k < l.length
    · obtain rfl := HA.out (by omega)
      have hcell := HC.out _ hQ.out.fr k hlt
      have hlI : (k : Int) < l.length := by omega
      obtain ⟨q, hq⟩ : ∃ q : Nat, q = (a + k) / 4 := ⟨_, rfl⟩
      obtain ⟨p, hp⟩ : ∃ p : Nat, p = a + k := ⟨_, rfl⟩
      have hpI : (a : Int) + k = p := by omega
      have hqI : (p : Int) / 4 = q := by omega
      have hp64 : p < 64 := by omega
      have hq16 : q < 16 := by omega
      generalize hy : nth l k = y at *
      have HC1 : Hid (Calls Tryd.prog 20 #[vb, .int .i64 p, .int .i64 y] wr.drew fun e w2 => ∃ A c, e = .returned (.slice A 64 c) ∧ SpQ G w w2 B vb vk ⟨Sp.szT f a k, Sp.wrB f.byt a l k, Sp.wrK f.blk a k⟩ ∧ SpQ G w (w2.setCell ⟨B, 0, none⟩ (.slice A 64 c)) B (.slice A 64 c) vk ⟨Sp.szT f a k, Sp.wrB f.byt a l (k + 1), Sp.wrK f.blk a k⟩) := by
        have hQd := hQ.out.step ((Fr.refl [] wr).drew)
        obtain ⟨g1, _, hs1⟩ := hQd.byt
        have hl := hQd.lenB
        exact (set_any _ vb g1 _ p y hs1 (by rw [hl]; exact hp64) (by rw [hl]; decide)).mono fun _ _ h => hQd.row0 (by rw [List.length_set]; exact hl) (by rw [Sp.wrB, hy, hp]) h
      have HSK : Hid ((Sp.wrK f.blk a k).set q 1 = Sp.wrK f.blk a (k + 1)) := by
        show _ = Sp.wrK f.blk a (k + 1)
        rw [Sp.wrK, hq]
      have HSZ : Hid (Sp.szT f a (k + 1) = if Sp.szT f a k ≤ p then p + 1 else Sp.szT f a k) := by
        show Sp.szT f a (k + 1) = _
        rw [Sp.szT, ← hp]
      generalize Sp.szT f a k = z at *
      clear hQ hy hp hq
      by_cases hge : z ≤ p
      · rw [if_pos hge] at HSZ
        have hgI : (z : Int) ≤ p := by omega
        clear hge
        go_wp2_with fail
        (refine wp_region_mixq 9 [(true, 0), (true, 1), (true, 2), (true, 3), (true, 4), (true, 5), (true, 6), (true, 7), (true, 8)] (by kernel_rfl) (by kernel_rfl) ?_; simp only [pickOps, List.map_cons, List.map_nil, List.getD_cons_zero, List.getD_cons_succ, List.drop_succ_cons, List.drop_zero]; (iterate 9 (first | (refine wpMix_take (v := ?_) (by rfl) ?_ ?_; rotate_left; (focus (intro W hW; subst hW; go_simp; (try with_reducible rfl); done)); try simp only [Act.put, List.setIfInBounds_toArray, List.set_cons_zero, List.set_cons_succ]) | (refine wpMix_leave (by rfl) ?_; try simp only [Act.put, List.setIfInBounds_toArray, List.set_cons_zero, List.set_cons_succ]))); refine wpMix_nil ?_)
        go_wp2_with (first
          | (go_at_call 20; (with_reducible refine useC HC1.out ?_); rintro e w2 ⟨A2, cc2, rfl, hQ2, hQ3⟩; have HQ3 := Lib.hid hQ3; clear hQ3 c0 c1 c2 hfz hcell; obtain ⟨d0, d1, d2⟩ := hQ2.box.cells; have hfz2 := free_block hQ2.box 0 none
             have HC2 : Hid (Calls Tryd.prog 20 #[vk, .int .i64 q, .int .i64 1] (w2.setCell ⟨B, 0, none⟩ (.slice A2 64 cc2)) fun e w3 => ∃ A c, e = .returned (.slice A 16 c) ∧ SpQ G w w3 B (.slice A2 64 cc2) vk ⟨z, Sp.wrB f.byt a l (k + 1), Sp.wrK f.blk a k⟩ ∧ SpQ G w (w3.setCell ⟨B, 2, none⟩ (.slice A 16 c)) B (.slice A2 64 cc2) (.slice A 16 c) ⟨z, Sp.wrB f.byt a l (k + 1), Sp.wrK f.blk a (k + 1)⟩) := by
               obtain ⟨g1, _, hs1⟩ := HQ3.out.blk
               have hl := HQ3.out.lenK
               exact (set_any _ vk g1 _ q 1 hs1 (by rw [hl]; exact hq16) (by rw [hl]; decide)).mono fun _ _ h => HQ3.out.row2 (by rw [List.length_set]; exact hl) HSK.out h
             clear hQ2)
          | (go_at_call 20; (with_reducible refine useC HC2.out ?_); rintro e w3 ⟨A3, cc3, rfl, hQ4, hQ5⟩; have HQ5 := Lib.hid hQ5; clear hQ5 d0 d1 d2 hfz2; obtain ⟨d0, d1, d2⟩ := hQ4.box.cells; have hfz2 := fun i => free_block hQ4.box i none; clear hQ4))
        go_roundw
        case rel =>
          have h := HQ5.out.put1 (p + 1)
          refine ⟨k + 1, by omega, by go_num, .slice A2 64 cc2, .slice A3 16 cc3, ?_⟩
          rw [HSZ.out]
          exact h
        case measure => simp [intOf]; omega
      · rw [if_neg hge] at HSZ
        have hgI : ¬ (z : Int) ≤ p := by omega
        clear hge
        go_wp2_with fail
        (refine wp_region_mixq 9 [(true, 0), (true, 1), (true, 2), (true, 3), (true, 4), (true, 5), (true, 6), (true, 7), (true, 8)] (by kernel_rfl) (by kernel_rfl) ?_; simp only [pickOps, List.map_cons, List.map_nil, List.getD_cons_zero, List.getD_cons_succ, List.drop_succ_cons, List.drop_zero]; (iterate 9 (first | (refine wpMix_take (v := ?_) (by rfl) ?_ ?_; rotate_left; (focus (intro W hW; subst hW; go_simp; (try with_reducible rfl); done)); try simp only [Act.put, List.setIfInBounds_toArray, List.set_cons_zero, List.set_cons_succ]) | (refine wpMix_leave (by rfl) ?_; try simp only [Act.put, List.setIfInBounds_toArray, List.set_cons_zero, List.set_cons_succ]))); refine wpMix_nil ?_)
        go_wp2_with (first
          | (go_at_call 20; (with_reducible refine useC HC1.out ?_); rintro e w2 ⟨A2, cc2, rfl, hQ2, hQ3⟩; have HQ3 := Lib.hid hQ3; clear hQ3 c0 c1 c2 hfz hcell; obtain ⟨d0, d1, d2⟩ := hQ2.box.cells; have hfz2 := free_block hQ2.box 0 none
             have HC2 : Hid (Calls Tryd.prog 20 #[vk, .int .i64 q, .int .i64 1] (w2.setCell ⟨B, 0, none⟩ (.slice A2 64 cc2)) fun e w3 => ∃ A c, e = .returned (.slice A 16 c) ∧ SpQ G w w3 B (.slice A2 64 cc2) vk ⟨z, Sp.wrB f.byt a l (k + 1), Sp.wrK f.blk a k⟩ ∧ SpQ G w (w3.setCell ⟨B, 2, none⟩ (.slice A 16 c)) B (.slice A2 64 cc2) (.slice A 16 c) ⟨z, Sp.wrB f.byt a l (k + 1), Sp.wrK f.blk a (k + 1)⟩) := by
               obtain ⟨g1, _, hs1⟩ := HQ3.out.blk
               have hl := HQ3.out.lenK
               exact (set_any _ vk g1 _ q 1 hs1 (by rw [hl]; exact hq16) (by rw [hl]; decide)).mono fun _ _ h => HQ3.out.row2 (by rw [List.length_set]; exact hl) HSK.out h
             clear hQ2)
          | (go_at_call 20; (with_reducible refine useC HC2.out ?_); rintro e w3 ⟨A3, cc3, rfl, hQ4, hQ5⟩; have HQ5 := Lib.hid hQ5; clear hQ5 d0 d1 d2 hfz2; obtain ⟨d0, d1, d2⟩ := hQ4.box.cells; have hfz2 := fun i => free_block hQ4.box i none; clear hQ4))
        go_roundw
        case rel => exact ⟨k + 1, by omega, by go_num, .slice A2 64 cc2, .slice A3 16 cc3, by rw [HSZ.out]; exact HQ5⟩
        case measure => simp [intOf]; omega
    · obtain rfl : k = l.length := by omega
      have hQ1 := hQ.out
      have er := Lib.hid (show (⟨Sp.szT f a l.length, Sp.wrB f.byt a l l.length, Sp.wrK f.blk a l.length⟩ : Sp.F) = Sp.wr f a l from by unfold Sp.wr; rw [Sp.szT_eq])
      rw [er.out] at hQ1
      have HE := Lib.hid hQ1.fin
      have esz := Lib.hid (show Sp.szT f a l.length = (Sp.wr f a l).size from by rw [← er.out])
      rw [esz.out] at c1
      have hfo := fun i => free_block hQ1.out i none
      obtain ⟨o0, o1, o2⟩ := hQ1.out.cells
      obtain ⟨gb', -, hsb⟩ := hQ1.byt
      obtain ⟨gk', -, hsk⟩ := hQ1.blk
      obtain ⟨A5, ob5, cb5, rfl, -, -, -⟩ := hsb.form
      obtain ⟨A6, ob6, cb6, rfl, -, -, -⟩ := hsk.form
      clear hsb hsk hQ hQ1
      go_wp2
      exact bodyPost_ret (v := .tuple #[.agg #[.slice A5 _ cb5, .int .i64 (Sp.wr f a l).size, .slice A6 _ cb6], .int .i64 0]) (sp_results Tryd.results27 rfl rfl HE.out.1) rfl ⟨_, rfl, HE.out.2.1, HE.out.2.2⟩
theorem sr_Write (w : World) (G : Nat → Prop) (v u : Value) (g : Nat) (f : Sp.F) (a : Int) (l : List Int) (hv : SpV G w v f) (hO : Sp.OK f) (hG : ∀ k, w.heap.size ≤ k → G k) (hs : Sl w u g l) :
    Calls Tryd.prog 27 #[v, .int .i64 a, u] w (SpA G (Sp.write f a l) (Sp.wrong a l) w) := by
  by_cases hw : Sp.wrong a l = 0
  · obtain ⟨-, -, h0, h1⟩ := Sp.wrong_zero hw
    obtain ⟨n, rfl⟩ : ∃ n : Nat, a = n := ⟨a.toNat, by omega⟩
    have := sr_Write_ok w G v u g f n l hv hO hG hs hw
    rw [hw]
    unfold Sp.write
    rw [if_pos hw]
    exact this
  · exact sr_Write_no w G v u g f a l hv hO hG hs hw
end Go.Proofs.YtmgalnkcpolafaaDoor
