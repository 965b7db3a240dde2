/- The contract of package wal's Home. -/
import Derived.Test.YtmhmbgkpojgbbaaDoorWlVals
import Derived.Laws.CopyRow
namespace Go.Proofs.YtmhmbgkpojgbbaaDoor
open Go.RowKit

theorem wlRow_copy {home xs : List Int} {lv : Value} {s mb : Nat} (h : home.length = 8) (hx : xs.length = 8) : ((wlRow home lv s mb).toList.take 0 ++ xs.map (Value.int .i64) ++ (wlRow home lv s mb).toList.drop (0 + (xs.map (Value.int .i64)).length)).toArray = wlRow xs lv s mb := by
  unfold wlRow
  have hl : (ints home).toList.length = 8 := by simp [h]
  rw [List.take_zero, List.nil_append, List.length_map, hx, Nat.zero_add, List.drop_left' hl, ints_toList]
theorem WlB.setHome {P : Nat → Prop} {w : World} {b mb : Nat} {lv : Value} {d : Wl.D} {L xs : List Int} (h : WlB P w b mb lv d L) : WlB P (w.setRow b (wlRow xs lv d.syn mb)) b mb lv ⟨xs, d.log, d.syn⟩ L := by
  have hf : Fr [b] w (w.setRow b (wlRow xs lv d.syn mb)) := (Fr.refl _ w).setRow (.inl (by simp)) _
  exact ⟨h.gb, h.gm, h.gl, setRow_heap _ _ _ _ _ _ h.file, h.row.kept hf (fun g hm => by simp only [List.mem_singleton] at hm; rw [hm]; exact h.ne2), h.set.fr hf (by simpa using Ne.symm h.ne1)⟩
set_option maxRecDepth 100000 in
set_option maxHeartbeats 2000000 in
theorem wl_Home (w : World) (P : Nat → Prop) (b : Nat) (d : Wl.D) (h : WlF P w b d) :
    Calls Tryd.prog 33 #[.pointer (some ⟨b, 0, none⟩)] w (WlAns P b (errV (Wl.goHome d).2) (Wl.goHome d).1 w) := by
  have HH := Lib.hid h
  obtain ⟨hO, mb, lv, hB⟩ := h
  have HO := Lib.hid hO
  have HB := Lib.hid hB
  obtain ⟨A, c, rfl⟩ := hB.form
  obtain ⟨c8, c9, c10⟩ := hB.cells hO.home
  obtain ⟨gl, hRA, -, -, hcl, hcm⟩ := RwA.of hB.row
  have H10 := Lib.hid (fun W (hW : Fr [] w W) => hW.cell c10 (by simp))
  have HRA := Lib.hid (fun W (hW : Fr [] w W) => hRA.fr hW (by simp))
  have HST := Lib.hid (fun W (hW : Fr [] w W) => hB.set.fr hW (by simp))
  have hn60 := hO.len
  have HTR := Lib.hid hO.trn
  clear hO hB hRA
  go_enter Tryd.func33, Tryd.ntmps33
  go_wp2
  go_loopw [10] (fun i wr => ∃ k : Nat, k ≤ d.log.length ∧ i = .int .i64 k ∧ Hid (∀ j (h : j < d.log.length), j < k → Wl.ended d.log d.log[j].t = true) ∧ Hid (Fr [] w wr)) (fun i _ => d.log.length - (intOf i).toNat)
  case atStart => exact ⟨0, Nat.zero_le _, rfl, (fun j _ hj => absurd hj (Nat.not_lt_zero _)), Fr.refl _ _⟩
  case round =>
    obtain ⟨k, hk, rfl, hs, hF⟩ := hrel
    by_cases hlt : k < d.log.length
    · obtain ⟨rfl, hD⟩ := (HRA.out wr hF.out).use (by omega)
      obtain ⟨cur, hg, hsz, hpart⟩ := hD.room hlt
      have HPT : Hid (((cur.toList.drop (k * 4)).take 4).toArray = #[.int .i64 d.log[k].t, .int .i64 d.log[k].b, .int .i64 d.log[k].v, .bool d.log[k].e]) := hpart
      have hsz' : k * 4 + 4 ≤ cur.size := hsz
      have HG := Lib.hid hg
      have hltg := lt_of_heap hg
      have hkI : (k : Int) < d.log.length := by omega
      have HK := Lib.hid (i64_turn (HTR.out _ (List.getElem_mem hlt)))
      have HEN := Lib.hid (Wl.turns_has d.log d.log[k].t)
      have HSN : Hid (Wl.ended d.log d.log[k].t = true → ∀ j (h : j < d.log.length), j < k + 1 → Wl.ended d.log d.log[j].t = true) := fun h j hj hjk => by
        by_cases e : j = k
        · subst e; exact h
        · exact hs.out j hj (by omega)
      have HNO : Hid (Wl.ended d.log d.log[k].t = false → Wl.goHome d = (d, 7)) := fun h => by
        unfold Wl.goHome
        rw [if_neg]
        intro ha
        unfold Wl.allEnded at ha
        rw [List.all_eq_true] at ha
        have := ha d.log[k] (List.getElem_mem hlt)
        rw [h] at this
        cases this
      clear hg hsz hpart hD
      generalize d.log[k] = r at *
      have HFA : Hid (Fr [] w (wr.alloc (.cells #[.int .i64 r.t, .int .i64 r.b, .int .i64 r.v, .bool r.e] 87))) := hF.out.alloc _
      obtain ⟨d0, d1, d2, d3⟩ := rec_cells (rec_new wr r)
      have q10 := H10.out _ HFA.out
      have HSA := Lib.hid (HST.out _ HFA.out.drew)
      have hbl : b < wr.heap.size := Nat.lt_of_lt_of_le HB.out.lt.1 hF.out.size
      cases he : Wl.ended d.log r.t with
      | true =>
        have HE := Lib.hid (HEN.out.trans he)
        have HS2 := Lib.hid (HSN.out he)
        clear he HSN HNO
        go_wp2_with (refine wpList_load_part rfl 87 _ rfl gl (k * 4) 4 rfl _ cur _ _ HG.out Tryd.underlying87 rfl (by kernel_rfl) hsz' _ HPT.out ?_)
        (refine wp_region_mixq 7 [(true, 0), (true, 1), (true, 2), (true, 3), (true, 4), (true, 5), (true, 6)] (by kernel_rfl) (by kernel_rfl) ?_; simp only [pickOps, List.map_cons, List.map_nil, List.getD_cons_zero, List.getD_cons_succ, List.drop_succ_cons, List.drop_zero]; (iterate 7 (first | (refine wpMix_take (v := ?_) (by rfl) ?_ ?_; rotate_left; (focus (intro W hW; subst hW; go_simp; (try with_reducible rfl); done)); try simp only [Act.put, List.setIfInBounds_toArray, List.set_cons_zero, List.set_cons_succ]) | (refine wpMix_leave (by rfl) ?_; try simp only [Act.put, List.setIfInBounds_toArray, List.set_cons_zero, List.set_cons_succ]))); refine wpMix_nil ?_)
        go_wp2_with (at_lookup; refine wpList_lookup_set rfl _ _ rfl HSA.out Tryd.underlying3 Tryd.underlying4 Tryd.underlying80 (zero_bool _) rfl _ rfl HK.out ?_; rw [HE.out])
        go_roundw
        case rel => exact ⟨k + 1, by omega, by go_num, HS2, HFA.out.drew⟩
        case measure => simp [intOf]; omega
      | false =>
        have HE := Lib.hid (HEN.out.trans he)
        have er := Lib.hid (HNO.out he)
        clear he HSN HNO
        go_wp2_with (refine wpList_load_part rfl 87 _ rfl gl (k * 4) 4 rfl _ cur _ _ HG.out Tryd.underlying87 rfl (by kernel_rfl) hsz' _ HPT.out ?_)
        (refine wp_region_mixq 7 [(true, 0), (true, 1), (true, 2), (true, 3), (true, 4), (true, 5), (true, 6)] (by kernel_rfl) (by kernel_rfl) ?_; simp only [pickOps, List.map_cons, List.map_nil, List.getD_cons_zero, List.getD_cons_succ, List.drop_succ_cons, List.drop_zero]; (iterate 7 (first | (refine wpMix_take (v := ?_) (by rfl) ?_ ?_; rotate_left; (focus (intro W hW; subst hW; go_simp; (try with_reducible rfl); done)); try simp only [Act.put, List.setIfInBounds_toArray, List.set_cons_zero, List.set_cons_succ]) | (refine wpMix_leave (by rfl) ?_; try simp only [Act.put, List.setIfInBounds_toArray, List.set_cons_zero, List.set_cons_succ]))); refine wpMix_nil ?_)
        go_wp2_with (at_lookup; refine wpList_lookup_set rfl _ _ rfl HSA.out Tryd.underlying3 Tryd.underlying4 Tryd.underlying80 (zero_bool _) rfl _ rfl HK.out ?_; rw [HE.out])
        go_ret
        rw [er.out]
        exact WlAns.none HH.out rfl HFA.out.drew
    · have er : Hid (Wl.goHome d = (⟨Wl.values d, [], 0⟩, 0)) := by
        show _ = _
        unfold Wl.goHome
        rw [if_pos]
        unfold Wl.allEnded
        rw [List.all_eq_true]
        intro r hr
        obtain ⟨j, hj, rfl⟩ := List.getElem_of_mem hr
        exact hs.out j hj (by omega)
      have hkI : ¬ (k : Int) < d.log.length := by omega
      have HVD := Lib.hid (wl_Values wr.drew P b d (HH.out.keep hF.out.drew))
      have HL8 := Lib.hid (Wl.values_len HO.out)
      have hmm := @run_makeMap Tryd.prog
      obtain ⟨wA, hwA⟩ : ∃ x, x = wr := ⟨_, rfl⟩
      subst hwA
      clear hs hk hlt
      go_wp2_with fail
      (refine wp_region_mix (Fr [] wA ·) 6 [(true, 0), (true, 1), (true, 2), (true, 3), (true, 4), (false, 5)] (by kernel_rfl) (by kernel_rfl) ((Fr.refl _ _).drew) ?_; simp only [pickOps, List.map_cons, List.map_nil, List.getD_cons_zero, List.getD_cons_succ, List.drop_succ_cons, List.drop_zero])
      (iterate 5 (first | (refine wpMix_take (v := ?_) (by rfl) ?_ ?_; rotate_left; (focus (intro W hW; skip; go_simp; (try with_reducible rfl); done)); try simp only [Act.put, List.setIfInBounds_toArray, List.set_cons_zero, List.set_cons_succ]) | (refine wpMix_leave (by rfl) ?_; try simp only [Act.put, List.setIfInBounds_toArray, List.set_cons_zero, List.set_cons_succ])))
      refine wpMix_walk ?_
      go_wp2_with (go_at_call 35; (with_reducible refine useC HVD.out ?_); rintro e w2 ⟨v, g, rfl, -, hs, hf⟩; have HS := Lib.hid hs; have HF2 := Lib.hid ((Fr.refl [] wA).drew.trans hf); clear hs hf)
      refine MixQ.mk (HF2.out) ?_
      refine wpMix_nil ?_
      have HF3 := Lib.hid (hF.out.trans HF2.out)
      have HB3 := Lib.hid (HB.out.keep HF3.out)
      obtain ⟨A2, o2, c2, rfl, -, hA2, hc2⟩ := HS.out.form
      obtain rfl := hA2 (by rw [HL8.out]; decide)
      have hcp := fun ty => run_copy_row Tryd.prog w2 25 25 ty 3 b 0 8 8 ⟨g, o2, none⟩ 8 c2 _ _ ((Wl.values d).map (Value.int .i64)) Tryd.underlying25 (by kernel_rfl) HB3.out.file (by rw [List.length_map, HL8.out]; rfl) (fun j v hv => by
        have hj : j < (Wl.values d).length := by simpa using (List.getElem?_eq_some_iff.1 hv).1
        rw [Addr.add_lit]
        have := hc2 j hj
        simp [hj] at hv
        rw [this, ← hv]
        simp [nth, List.getD, hj]) (by rw [wlRow_size HO.out.home, List.length_map, HL8.out]; decide) (ints_one (l := Wl.values d))
      rw [wlRow_copy HO.out.home HL8.out, List.length_map] at hcp
      rw [HL8.out] at hcp ⊢
      have HB4 := Lib.hid (HB3.out.setHome (xs := Wl.values d))
      have HF4 : Hid (Fr [b] w2 (w2.setRow b (wlRow (Wl.values d) (.slice A d.log.length c) d.syn mb))) := (Fr.refl _ w2).setRow (.inl (by simp)) _
      obtain ⟨w4, hw4⟩ : ∃ x, x = w2.setRow b (wlRow (Wl.values d) (.slice A d.log.length c) d.syn mb) := ⟨_, rfl⟩
      rw [← hw4] at hcp HB4 HF4
      clear hw4 hA2 hc2
      obtain ⟨c8, c9, c10⟩ := HB4.out.cells HL8.out
      have hf8 := HB4.out.free
      have hb4 := HB4.out.lt.1
      go_wp2
      go_ret
      have hsw := HF3.out.size
      have hs4 : w2.heap.size ≤ w4.heap.size := HF4.size
      have hP : WlB (OrNew P w) w4 b mb (.slice A d.log.length c) ⟨Wl.values d, d.log, d.syn⟩ (Wl.turns d.log) := HB4.out.imp (fun _ h => .inl h)
      have h5 := hP.keep ((Fr.refl [] w4).alloc (.map #[] 0))
      have h6 := h5.setLog HL8.out (lv' := .slice none 0 0) (log := []) OwnR.nil (by intro e; cases e) (fun g hg => by cases hg)
      have h7 := h6.setSyn HL8.out 0
      have hb8 : Fr [b] (w4.alloc (.map #[] 0)) (((w4.alloc (.map #[] 0)).setCell ⟨b, 8, none⟩ (.slice none 0 0)).setCell ⟨b, 9, none⟩ (.int .i64 (0 : Nat))) := ((Fr.refl _ _).setCell (.inl (by simp)) _).setCell (.inl (by simp)) _
      have h8 := h7.setMap HL8.out (L' := []) (mb' := w4.heap.size) ((SetI.made w4 _ _ _).fr hb8 (by simp; omega)) (by omega) (.inr (by omega))
      rw [World.setCell_alloc_past _ _ _ _ hb4, World.setCell_alloc_past _ _ _ _ (by simpa [World.setCell] using hb4), World.setCell_alloc_past _ _ _ _ (by simpa [World.setCell] using hb4)] at h8
      have hok := Wl.goHome_ok HO.out
      rw [er.out] at hok ⊢
      refine ⟨rfl, ⟨hok, w4.heap.size, .slice none 0 0, h8⟩, ?_⟩
      have f1 : FrP P w w4 := ((FrP.refl P w).step HF3.out (by simp)).step HF4 (fun x hx => by simp only [List.mem_singleton] at hx; subst hx; exact .inl HB.out.gb)
      have f2 : Fr [b] w4 ((((w4.setCell ⟨b, 8, none⟩ (.slice none 0 0)).setCell ⟨b, 9, none⟩ (.int .i64 (0 : Nat))).setCell ⟨b, 10, none⟩ (.map (some w4.heap.size))).alloc (.map #[] 0)) := ((((Fr.refl _ _).setCell (.inl (by simp)) _).setCell (.inl (by simp)) _).setCell (.inl (by simp)) _).alloc _
      exact f1.step f2 (fun x hx => by simp only [List.mem_singleton] at hx; subst hx; exact .inl HB.out.gb)
end Go.Proofs.YtmhmbgkpojgbbaaDoor
