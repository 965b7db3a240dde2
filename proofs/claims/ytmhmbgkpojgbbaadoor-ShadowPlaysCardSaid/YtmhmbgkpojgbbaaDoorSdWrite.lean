/- The document's answer for package shadow: Write. -/
import Derived.Test.YtmhmbgkpojgbbaaDoorSdRef
namespace Go.Proofs.YtmhmbgkpojgbbaaDoor
open Go.RowKit

theorem Sh.freeFrom_least (d : Sh.D) : ∀ (n i k : Nat), Sh.freeFrom d n i = (k : Int) → ∀ j, i ≤ j → j < k → Sh.freeB d j = false
  | 0, i, k, h, j, h1, h2 => by unfold Sh.freeFrom at h; omega
  | n + 1, i, k, h, j, h1, h2 => by
    unfold Sh.freeFrom at h
    split at h
    · omega
    · rename_i hb
      by_cases e : j = i
      · subst e; simpa using hb
      · exact Sh.freeFrom_least d n (i + 1) k h j (by omega) h2
theorem Sh.freeB_has (d : Sh.D) (j : Nat) : Sh.freeB d j = (!(hasB d.old (j : Int)) && !(hasB d.now (j : Int))) := rfl
/-- What Write hands back. -/
def SdWr (G : Nat → Prop) (d : Sh.D) (s : Int) (w : World) (e : Ending) (w' : World) : Prop := ∃ v, e = .returned (.tuple #[v, .int .i64 s]) ∧ SdV G w' v d ∧ Fr [] w w'
set_option maxRecDepth 100000 in
set_option maxHeartbeats 4000000 in
theorem sd_Write (w : World) (G : Nat → Prop) (v : Value) (d : Sh.D) (p : Nat) (x : Int) (hv : SdV G w v d) (hO : Sh.OK d) (hG : ∀ k, w.heap.size ≤ k → G k) (hp : p < 8) :
    Calls Tryd.prog 10 #[v, .int .i64 p, .int .i64 x] w (SdWr G (Sh.put d p x) (nth (Sh.now1 d p) p) w) := by
  obtain ⟨s, o, n, g1, g2, g3, rfl, hg, h1, h2, h3⟩ := hv
  have hQ0 := Lib.hid (SdQ.start w hg h1 h2 h3 hO hG)
  obtain ⟨A1, o1, c1, rfl, -, -, -⟩ := h1.form
  obtain ⟨A2, o2, c2, rfl, -, hA2, hc2⟩ := h2.form
  obtain ⟨A3, o3, c3, rfl, -, hA3, hc3⟩ := h3.form
  obtain rfl := hA2 (by rw [hO.told.len]; decide)
  obtain rfl := hA3 (by rw [hO.tnow.len]; decide)
  have HQ2 := Lib.hid (fun W (hW : Fr [] w W) => hW.cell (hc2 p (by rw [hO.told.len]; exact hp)) (by simp))
  have HQ3 := Lib.hid (fun W (hW : Fr [] w W) => hW.cell (hc3 p (by rw [hO.tnow.len]; exact hp)) (by simp))
  have HH2 := Lib.hid (fun W (hW : Fr [] w W) y => has_any W _ g2 d.old y (h2.fr hW (by simp)))
  have HH3 := Lib.hid (fun W (hW : Fr [] w W) y => has_any W _ g3 d.now y (h3.fr hW (by simp)))
  have hpI : (p : Int) < 8 := by omega
  have l2 := sl_lt h2 (by rw [hO.told.len]; decide)
  have l3 := sl_lt h3 (by rw [hO.tnow.len]; decide)
  have r2 := HQ2.out w (Fr.refl _ _)
  have r3 := HQ3.out w (Fr.refl _ _)
  rw [hO.told.len] at *
  rw [hO.tnow.len] at *
  rw [hO.slots] at *
  clear h1 h2 h3 hc2 hc3 hA2 hA3 hg hG
  by_cases he : nth d.now p = nth d.old p
  · obtain ⟨k, hk, hf, hfb⟩ := Sh.free_spec hO hp he
    have HLE := Lib.hid (fun j (hj : j < k) => Sh.freeFrom_least d 16 0 k hf j (Nat.zero_le _) hj)
    have HFB := Lib.hid hfb
    have e1 : Sh.now1 d p = d.now.set p k := by unfold Sh.now1; rw [if_pos he, hf]
    have e2 : nth (d.now.set p (k : Int)) p = k := by rw [Sh.nth_set _ _ _ _ (by rw [hO.tnow.len]; exact hp), if_pos rfl]
    have HP : Hid (Sh.put d p x = ⟨d.slot.set k x, d.old, d.now.set p k⟩ ∧ nth (Sh.now1 d p) p = k) := by
      refine ⟨?_, by rw [e1, e2]⟩
      unfold Sh.put
      rw [e1, e2, Int.toNat_natCast]
    have heB : (nth d.now p == nth d.old p) = true := by simpa using he
    have HL := Lib.hid (And.intro hO.slots hO.tnow.len)
    rw [HP.out.1, HP.out.2]
    generalize nth d.now p = yn at *
    generalize nth d.old p = yo at *
    subst he
    clear e1 e2 hfb hf hO heB
    go_enter Tryd.func10, Tryd.ntmps10
    go_wp2_with fail
    revert hQ0
    generalize (w.alloc (.cells #[.slice A1 16 c1, .slice (some ⟨g2, o2, none⟩) 8 c2, .slice (some ⟨g3, o3, none⟩) 8 c3] 27)).alloc (.cells #[.slice none 0 0, .slice none 0 0, .slice none 0 0] 27) = w1
    intro hQ0
    generalize w.heap.size = B at *
    clear r2 r3 l2 l3
    go_loopw [8] (fun a wr => ∃ j : Nat, j ≤ k ∧ a = .int .i64 j ∧ Hid (SdQ G w wr B (.slice A1 16 c1) (.slice (some ⟨g2, o2, none⟩) 8 c2) (.slice (some ⟨g3, o3, none⟩) 8 c3) d)) (fun a _ => 16 - (intOf a).toNat)
    case atStart => exact ⟨0, Nat.zero_le _, rfl, hQ0⟩
    case round =>
      clear hQ0
      obtain ⟨j, hj, rfl, hQ⟩ := hrel
      obtain ⟨q0, q1, q2⟩ := hQ.out.box.cells
      have HO2 := Lib.hid (HH2.out wr hQ.out.fr j)
      have HO3 := Lib.hid (HH3.out wr hQ.out.fr j)
      by_cases hlt : j < k
      · have hb := HLE.out j hlt
        rw [Sh.freeB_has] at hb
        cases h2 : hasB d.old (j : Int) with
        | true =>
          rw [h2] at HO2
          clear hb h2
          go_wp2_with (go_at_call 37; (with_reducible refine useC HO2.out ?_); rintro e wr ⟨rfl, rfl⟩)
          go_roundw
          case rel => exact ⟨j + 1, by omega, by go_num, hQ⟩
          case measure => simp [intOf]; omega
        | false =>
          rw [h2] at hb HO2
          have h3 : hasB d.now (j : Int) = true := by simpa using hb
          rw [h3] at HO3
          clear hb h2 h3
          go_wp2_with (first
            | (go_at_call 37; (with_reducible refine useC HO2.out ?_); rintro e wr ⟨rfl, rfl⟩)
            | (go_at_call 37; (with_reducible refine useC HO3.out ?_); rintro e wr ⟨rfl, rfl⟩))
          go_roundw
          case rel => exact ⟨j + 1, by omega, by go_num, hQ⟩
          case measure => simp [intOf]; omega
      · have hje : j = k := by omega
        have hb := HFB.out
        rw [Sh.freeB_has, ← hje, Bool.and_eq_true] at hb
        have h2 : hasB d.old (j : Int) = false := by simpa using hb.1
        have h3 : hasB d.now (j : Int) = false := by simpa using hb.2
        rw [h2] at HO2
        rw [h3] at HO3
        obtain ⟨wA, hwA⟩ : ∃ x, x = wr := ⟨_, rfl⟩
        subst hwA
        have HC1 : Hid (Calls Tryd.prog 38 #[.slice (some ⟨g3, o3, none⟩) 8 c3, .int .i64 p, .int .i64 j] wA fun e w2 => ∃ A c, e = .returned (.slice A 8 c) ∧ SdQ G w w2 B (.slice A1 16 c1) (.slice (some ⟨g2, o2, none⟩) 8 c2) (.slice (some ⟨g3, o3, none⟩) 8 c3) d ∧ SdQ G w (w2.setCell ⟨B, 2, none⟩ (.slice A 8 c)) B (.slice A1 16 c1) (.slice (some ⟨g2, o2, none⟩) 8 c2) (.slice A 8 c) ⟨d.slot, d.old, d.now.set p j⟩) := by
          obtain ⟨g, _, hs⟩ := hQ.out.now
          exact (set_any _ _ g _ p j hs (by rw [HL.out.2]; exact hp) (by rw [HL.out.2]; decide)).mono fun _ _ h => hQ.out.row2 (by rw [List.length_set]; exact HL.out.2) h
        have hj16 : j < 16 := by omega
        have hjI : (j : Int) < 16 := by omega
        subst hje
        clear hb h2 h3 hlt hj hk
        go_wp2_with (first
          | (go_at_call 37; (with_reducible refine useC HO2.out ?_); rintro e wA ⟨rfl, rfl⟩)
          | (go_at_call 37; (with_reducible refine useC HO3.out ?_); rintro e wA ⟨rfl, rfl⟩)
          | (go_at_call 38; (with_reducible refine useC HC1.out ?_); rintro e w2 ⟨A4, c4, rfl, hQ2, hQ3⟩; have HQ4 := Lib.hid hQ3; clear hQ3 q0 q1 q2; obtain ⟨q0, q1, q2⟩ := hQ2.box.cells; have hfz := free_block hQ2.box 2 none
             have HC2 : Hid (Calls Tryd.prog 38 #[.slice A1 16 c1, .int .i64 j, .int .i64 x] (w2.setCell ⟨B, 2, none⟩ (.slice A4 8 c4)) fun e w3 => ∃ A c, e = .returned (.slice A 16 c) ∧ SdQ G w w3 B (.slice A1 16 c1) (.slice (some ⟨g2, o2, none⟩) 8 c2) (.slice A4 8 c4) ⟨d.slot, d.old, d.now.set p j⟩ ∧ SdQ G w (w3.setCell ⟨B, 0, none⟩ (.slice A 16 c)) B (.slice A 16 c) (.slice (some ⟨g2, o2, none⟩) 8 c2) (.slice A4 8 c4) ⟨d.slot.set j x, d.old, d.now.set p j⟩) := by
               obtain ⟨g, _, hs⟩ := HQ4.out.slot
               exact (set_any _ _ g _ j x hs (by rw [HL.out.1]; exact hj16) (by rw [HL.out.1]; decide)).mono fun _ _ h => HQ4.out.row0 (by rw [List.length_set]; exact HL.out.1) h
             clear hQ2 HC1)
          | (go_at_call 38; (with_reducible refine useC HC2.out ?_); rintro e w3 ⟨A5, c5, rfl, hQ4, hQ5⟩; have HQ5 := Lib.hid hQ5; clear hQ5 q0 q1 q2 hfz; obtain ⟨q0, q1, q2⟩ := hQ4.box.cells; have hfz := fun i => free_block hQ4.box i none; have hfo := fun i => free_block hQ4.out i none; obtain ⟨o0, o1', o2'⟩ := hQ4.out.cells; clear hQ4))
        have hE := HQ5.out.fin
        exact bodyPost_ret (v := .tuple #[.agg #[.slice A5 16 c5, .slice (some ⟨g2, o2, none⟩) 8 c2, .slice A4 8 c4], .int .i64 j]) (sd_results Tryd.results10 rfl rfl hE.1) rfl ⟨_, rfl, hE.2.1, hE.2.2⟩
  · have h0 := (hO.fresh p p hp hp he).1
    have h15 := hO.tnow.hi p hp
    obtain ⟨k, hk⟩ : ∃ k : Nat, nth d.now p = k := ⟨(nth d.now p).toNat, by omega⟩
    have e1 : Sh.now1 d p = d.now := by unfold Sh.now1; rw [if_neg he]
    have HP : Hid (Sh.put d p x = ⟨d.slot.set k x, d.old, d.now⟩ ∧ nth (Sh.now1 d p) p = k) := by
      refine ⟨?_, by rw [e1, hk]⟩
      unfold Sh.put
      rw [e1, hk, Int.toNat_natCast]
    have HL := Lib.hid (And.intro hO.slots hO.tnow.len)
    rw [HP.out.1, HP.out.2]
    rw [hk] at he r3 h15
    have hk16 : k < 16 := by omega
    have hkI : (k : Int) < 16 := by omega
    have heB : ((k : Int) == nth d.old p) = false := beq_eq_false_iff_ne.2 he
    clear e1 HQ2 HQ3 HH2 HH3 hO h0 h15 hk he
    generalize nth d.old p = yo at *
    go_enter Tryd.func10, Tryd.ntmps10
    have HC1 : Hid (Calls Tryd.prog 38 #[.slice A1 16 c1, .int .i64 k, .int .i64 x] ((w.alloc (.cells #[.slice A1 16 c1, .slice (some ⟨g2, o2, none⟩) 8 c2, .slice (some ⟨g3, o3, none⟩) 8 c3] 27)).alloc (.cells #[.slice none 0 0, .slice none 0 0, .slice none 0 0] 27)) fun e w3 => ∃ A c, e = .returned (.slice A 16 c) ∧ SdQ G w w3 w.heap.size (.slice A1 16 c1) (.slice (some ⟨g2, o2, none⟩) 8 c2) (.slice (some ⟨g3, o3, none⟩) 8 c3) d ∧ SdQ G w (w3.setCell ⟨w.heap.size, 0, none⟩ (.slice A 16 c)) w.heap.size (.slice A 16 c) (.slice (some ⟨g2, o2, none⟩) 8 c2) (.slice (some ⟨g3, o3, none⟩) 8 c3) ⟨d.slot.set k x, d.old, d.now⟩) := by
      obtain ⟨g, _, hs⟩ := hQ0.out.slot
      exact (set_any _ _ g _ k x hs (by rw [HL.out.1]; exact hk16) (by rw [HL.out.1]; decide)).mono fun _ _ h => hQ0.out.row0 (by rw [List.length_set]; exact HL.out.1) h
    go_wp2_with (go_at_call 38; (with_reducible refine useC HC1.out ?_); rintro e w3 ⟨A5, c5, rfl, hQ4, hQ5⟩; have HQ5 := Lib.hid hQ5; clear hQ5; obtain ⟨q0, q1, q2⟩ := hQ4.box.cells; have hfz := fun i => free_block hQ4.box i none; have hfo := fun i => free_block hQ4.out i none; obtain ⟨o0, o1', o2'⟩ := hQ4.out.cells; clear hQ4)
    have hE := HQ5.out.fin
    exact bodyPost_ret (v := .tuple #[.agg #[.slice A5 16 c5, .slice (some ⟨g2, o2, none⟩) 8 c2, .slice (some ⟨g3, o3, none⟩) 8 c3], .int .i64 k]) (sd_results Tryd.results10 rfl rfl hE.1) rfl ⟨_, rfl, hE.2.1, hE.2.2⟩
/-- The values by a table, so far as the k-th one. -/
theorem Sh.vals_take (l t : List Int) {k : Nat} (h : k < t.length) : Sh.vals l (t.take (k + 1)) = Sh.vals l (t.take k) ++ [Sh.val1 l (nth t k)] := by
  unfold Sh.vals
  rw [List.take_succ_eq_append_getElem h, List.map_append]
  simp [nth, List.getD, h]
set_option maxRecDepth 100000 in
set_option maxHeartbeats 1000000 in
theorem sd_Values (w : World) (G : Nat → Prop) (v u : Value) (g : Nat) (d : Sh.D) (t : List Int) (hv : SdV G w v d) (hs : d.slot.length = 16) (ht : Sl w u g t) (hl : t.length = 8) (hhi : ∀ i, i < 8 → nth t i ≤ 15) :
    Calls Tryd.prog 16 #[v, u] w (NewRow (Sh.vals d.slot t) w) := by
  obtain ⟨s, o, n, g1, g2, g3, rfl, -, h1, h2, h3⟩ := hv
  obtain ⟨A1, o1, c1, rfl, -, hA1, hc1⟩ := h1.form
  obtain ⟨A2, o2, c2, rfl, -, -, -⟩ := h2.form
  obtain ⟨A3, o3, c3, rfl, -, -, -⟩ := h3.form
  obtain ⟨A4, o4, c4, rfl, -, hA4, hc4⟩ := ht.form
  obtain rfl := hA1 (by rw [hs]; decide)
  obtain rfl := hA4 (by rw [hl]; decide)
  rw [hs] at hc1 ⊢
  rw [hl] at hc4 ⊢
  have HB0 : Hid (SdX (w.alloc (.cells #[.slice (some ⟨g1, o1, none⟩) 16 c1, .slice A2 d.old.length c2, .slice A3 d.now.length c3] 27)) w.heap.size (.slice (some ⟨g1, o1, none⟩) 16 c1) (.slice A2 d.old.length c2) (.slice A3 d.now.length c3)) := heap_alloc_new w _
  have HF0 : Hid (Fr [] w (w.alloc (.cells #[.slice (some ⟨g1, o1, none⟩) 16 c1, .slice A2 d.old.length c2, .slice A3 d.now.length c3] 27))) := (Fr.refl _ _).alloc _
  have HS := Lib.hid (fun W (hW : Fr [] w W) i (hi : i < 16) => hW.cell (hc1 i hi) (by simp))
  have HT := Lib.hid (fun W (hW : Fr [] w W) i (hi : i < 8) => hW.cell (hc4 i hi) (by simp))
  have HHI := Lib.hid hhi
  have HL := Lib.hid hl
  clear h1 h2 h3 ht hc1 hc4 hA1 hA4 hhi hs hl
  go_enter Tryd.func16, Tryd.ntmps16
  go_wp2_with fail
  revert HB0 HF0
  generalize (w.alloc (.cells #[.slice (some ⟨g1, o1, none⟩) 16 c1, .slice A2 d.old.length c2, .slice A3 d.now.length c3] 27)) = w1
  intro HB0 HF0
  have hsz := HF0.out.size
  go_loopw [5, 6] (fun a i wr => ∃ k : Nat, k ≤ 8 ∧ i = .int .i64 k ∧ Hid (Own wr w1.heap.size 3 a (Sh.vals d.slot (t.take k))) ∧ Hid (Fr [] w1 wr)) (fun _ i _ => 8 - (intOf i).toNat)
  case atStart => exact ⟨0, Nat.zero_le _, rfl, Own.nil _ _ _, Fr.refl _ _⟩
  case round =>
    obtain ⟨k, hk, rfl, hO, hF⟩ := hrel
    obtain ⟨q0, q1, q2⟩ := SdX.cells (hF.out.get HB0.out (by simp))
    have HFw := Lib.hid (HF0.out.trans hF.out)
    by_cases hlt : k < 8
    · have ct := HT.out wr HFw.out k hlt
      have kI : (k : Int) < 8 := by omega
      have h15 := HHI.out k hlt
      have HVT := Lib.hid (Sh.vals_take d.slot t (k := k) (by rw [HL.out]; exact hlt))
      have hlen : (Sh.vals d.slot (t.take k)).length < 1000000 := by unfold Sh.vals; rw [List.length_map, List.length_take]; omega
      have HLEN := Lib.hid hlen
      have hw1 := hF.out.size
      clear hlen
      by_cases hneg : nth t k < 0
      · have HV := Lib.hid (HVT.out.trans (by rw [show Sh.val1 d.slot (nth t k) = 0 from by unfold Sh.val1; rw [if_neg (by omega)]]))
        clear HVT h15
        generalize nth t k = y at *
        go_wp2_with (at_builtin; refine wpList_push_int Tryd.intT rfl _ _ rfl w1.heap.size _ _ rfl hO.out rfl HLEN.out hw1 ?_; intro v' w5 h1 _ h3; have H5 := Lib.hid (hF.out.below_step h3 (Nat.le_refl _)); have HO5 := Lib.hid h1; clear h1 h3)
        go_roundw
        case rel => exact ⟨k + 1, by omega, by go_num, by show Own _ _ _ _ _; rw [HV.out]; exact HO5.out, H5⟩
        case measure => simp [intOf]; omega
      · obtain ⟨y, hy⟩ : ∃ y : Nat, nth t k = y := ⟨(nth t k).toNat, by omega⟩
        have HV := Lib.hid (HVT.out.trans (by rw [show Sh.val1 d.slot (nth t k) = nth d.slot y from by unfold Sh.val1; rw [if_pos (by omega), hy, Int.toNat_natCast]]))
        rw [hy] at ct h15 hneg
        have hy16 : y < 16 := by omega
        have hyI : (y : Int) < 16 := by omega
        have cs := HS.out wr HFw.out y hy16
        obtain ⟨wA, hwA⟩ : ∃ x, x = wr := ⟨_, rfl⟩
        subst hwA
        have HRD := Lib.hid (fun W (hW : Fr [] wA W) => And.intro (SdX.cells ((hF.out.trans hW).get HB0.out (by simp))) (And.intro (HT.out W (HFw.out.trans hW) k hlt) (HS.out W (HFw.out.trans hW) y hy16)))
        rw [hy] at HRD
        clear HVT hneg hy
        generalize nth d.slot y = z at *
        have HOd : Hid (Own wA.drew w1.heap.size 3 u5 (Sh.vals d.slot (t.take k))) := hO.out
        go_wp2_with fail
        (refine wp_region_mix (Fr [] wA ·) 10 [(true, 0), (true, 1), (true, 2), (true, 3), (true, 4), (true, 5), (true, 6), (true, 7), (true, 8), (false, 9)] (by kernel_rfl) (by kernel_rfl) ((Fr.refl _ _).drew) ?_; simp only [pickOps, List.map_cons, List.map_nil, List.getD_cons_zero, List.getD_cons_succ, List.drop_succ_cons, List.drop_zero])
        (iterate 9 (first | (refine wpMix_take (v := ?_) (by rfl) ?_ ?_; rotate_left; (focus (intro W hW; obtain ⟨⟨q0, q1, q2⟩, ct, cs⟩ := HRD.out W hW; go_simp; (try with_reducible rfl); done)); try simp only [Act.put, List.setIfInBounds_toArray, List.set_cons_zero, List.set_cons_succ]) | (refine wpMix_leave (by rfl) ?_; try simp only [Act.put, List.setIfInBounds_toArray, List.set_cons_zero, List.set_cons_succ])))
        refine wpMix_walk ?_
        go_wp2
        refine MixQ.mk (((Fr.refl _ _).drew).alloc _) ?_
        refine wpMix_nil ?_
        go_wp2_with (at_builtin; refine wpList_push_int (wr := wA.drew) Tryd.intT rfl _ _ rfl w1.heap.size _ _ rfl HOd.out rfl HLEN.out hw1 ?_; intro v' w5 h1 _ h3; have H5 := Lib.hid ((hF.out.drew).below_step h3 (Nat.le_refl _)); have HO5 := Lib.hid h1; clear h1 h3)
        go_roundw
        case rel => exact ⟨k + 1, by omega, by go_num, by show Own _ _ _ _ _; rw [HV.out]; exact HO5.out, H5⟩
        case measure => simp [intOf]; omega
    · have hke : k = 8 := by omega
      have kI : ¬ (k : Int) < 8 := by omega
      have hO' := hO.out
      rw [hke, List.take_of_length_le (by rw [HL.out]; exact Nat.le_refl _)] at hO'
      obtain ⟨gz, hg, hs⟩ := hO'.sl
      have HSz := Lib.hid (And.intro hg hs)
      clear hke hO' hg hs hlt
      go_wp2
      go_ret
      exact ⟨_, gz, rfl, HSz.out.1.imp_left (fun h => Nat.le_trans hsz h), HSz.out.2, HFw.out⟩
end Go.Proofs.YtmhmbgkpojgbbaaDoor
