/- The document's answer for package wal: Values. -/
import Derived.Test.YtmhmbgkpojgbbaaDoorWxDown
import Derived.Test.YtmhmbgkpojgbbaaDoorPart
namespace Go.Proofs.YtmhmbgkpojgbbaaDoor
open Go.RowKit

/-- What the rounds know of the answer so far. -/
structure WxL (G : Nat → Prop) (w wr : World) (v : Value) (xs : List Int) : Prop where
  row : ∃ g, G g ∧ Sl wr v g xs
  fr : Fr [] w wr
theorem WxL.step {G : Nat → Prop} {w wr w' : World} {v : Value} {xs : List Int} (h : WxL G w wr v xs) (hf : Fr [] wr w') : WxL G w w' v xs := by
  obtain ⟨g, h1, h2⟩ := h.row
  exact ⟨⟨g, h1, h2.fr hf (by simp)⟩, h.fr.trans hf⟩
theorem WxL.new {G : Nat → Prop} {w wr w' : World} {v : Value} {xs ys : List Int} (h : WxL G w wr v xs) (hG : ∀ k, w.heap.size ≤ k → G k) (hy : ys ≠ []) {e : Ending} (hn : NewRow ys wr e w') : ∃ v', e = .returned v' ∧ WxL G w w' v' ys := by
  obtain ⟨v', g, rfl, hg, hs, hf⟩ := hn
  exact ⟨v', rfl, ⟨g, hG g (Nat.le_trans h.fr.size (hg.resolve_right hy)), hs⟩, h.fr.trans hf⟩
theorem Wl.app_at (t : Int) (l : List Wl.R) (out : List Int) (j : Nat) (hj : j < l.length) : Wl.app t (l.take (j + 1)) out = if l[j].e = false ∧ l[j].t = t then (Wl.app t (l.take j) out).set l[j].b.toNat l[j].v else Wl.app t (l.take j) out := by
  rw [List.take_succ_eq_append_getElem hj, Wl.app_snoc]
theorem Wl.vals_up (home : List Int) (l : List Wl.R) (k : Nat) (hk : k < l.length) : Wl.vals home l (k + 1) = if l[k].e = true then Wl.app l[k].t (l.take k) (Wl.vals home l k) else Wl.vals home l k := by
  rw [Wl.vals_succ, List.getElem?_eq_getElem hk]
/-- What Values hands back. -/
def WxVs (G : Nat → Prop) (xs : List Int) (w : World) (e : Ending) (w' : World) : Prop := ∃ v g, e = .returned v ∧ G g ∧ Sl w' v g xs ∧ Fr [] w w'
set_option maxRecDepth 100000 in
set_option maxHeartbeats 1000000 in
theorem wx_Values (w : World) (G : Nat → Prop) (v : Value) (d : Wl.D) (hv : WxV G w v d) (hO : Wl.OK d) (hnv : Wl.Nv d.log) (hG : ∀ k, w.heap.size ≤ k → G k) :
    Calls Tryd.prog 36 #[v] w (WxVs G (Wl.values d) w) := by
  obtain ⟨h, l, g1, g2, rfl, hg, hh, hl⟩ := hv
  obtain ⟨A, o, c, rfl, hA, hc⟩ := hl.w3
  have HF : Hid (Fr [] w (w.alloc (.cells #[h, .slice A d.log.length c, .int .i64 d.syn] 57))) := (Fr.refl _ _).alloc _
  have HX := Lib.hid (wxX_new w h (.slice A d.log.length c) d.syn)
  have HC := Lib.hid (fun W (hW : Fr [] (w.alloc (.cells #[h, .slice A d.log.length c, .int .i64 d.syn] 57)) W) i (hi : i < d.log.length) => And.intro ((HF.out.trans hW).cell (hc i hi).1 (by simp)) (And.intro ((HF.out.trans hW).cell (hc i hi).2.1 (by simp)) ((HF.out.trans hW).cell (hc i hi).2.2 (by simp))))
  have HLR := Lib.hid (fun W (hW : Fr [] (w.alloc (.cells #[h, .slice A d.log.length c, .int .i64 d.syn] 57)) W) => hl.fr (HF.out.trans hW) (by simp))
  have HA := Lib.hid hA
  have HV := Lib.hid hnv
  have HG : Hid (∀ k, (w.alloc (.cells #[h, .slice A d.log.length c, .int .i64 d.syn] 57)).heap.size ≤ k → G k) := fun k hk => hG k (by simp at hk; omega)
  have HL0 : Hid (WxL G (w.alloc (.cells #[h, .slice A d.log.length c, .int .i64 d.syn] 57)) (w.alloc (.cells #[h, .slice A d.log.length c, .int .i64 d.syn] 57)) h (Wl.vals d.home d.log 0)) := ⟨⟨g1, hg.1, hh.fr HF.out (by simp)⟩, Fr.refl _ _⟩
  have HBK := Lib.hid hO.blk
  have HHL : Hid (d.home.length = 8) := hO.home
  have hn60 := hO.len
  obtain ⟨b0, b1, b2⟩ := HX.out.cells
  clear hA hc hnv hl hh hg hG hO
  go_enter Tryd.func36, Tryd.ntmps36
  go_wp2
  generalize hw1 : w.alloc (.cells #[h, .slice A d.log.length c, .int .i64 d.syn] 57) = w1 at *
  clear hw1
  generalize w.heap.size = X at *
  have HVL := Lib.hid (fun k => Wl.vals_len d.home d.log k)
  go_loopw [3, 4] (fun u i wr => ∃ k : Nat, k ≤ d.log.length ∧ i = .int .i64 k ∧ Hid (WxL G w1 wr u (Wl.vals d.home d.log k))) (fun _ i _ => d.log.length - (intOf i).toNat)
  case atStart => exact ⟨0, Nat.zero_le _, rfl, HL0⟩
  case round =>
    clear HL0 b0 b1 b2
    obtain ⟨k, hk, rfl, hL⟩ := hrel
    obtain ⟨b0, b1, b2⟩ := WxX.cells (hL.out.fr.get HX.out (by simp))
    by_cases hlt : k < d.log.length
    · obtain rfl := HA.out (by omega)
      obtain ⟨c0, -, c2⟩ := HC.out wr hL.out.fr k hlt
      have kI : (k : Int) < d.log.length := by omega
      have k0 : (0 : Int) ≤ k := by omega
      have HVA := Lib.hid (Wl.vals_up d.home d.log k hlt)
      cases he : d.log[k].e with
      | true =>
        rw [he] at c2
        have HV2 := Lib.hid (HVA.out.trans (if_pos he))
        have HCK : Hid (∀ W, Fr [] w1 W → W.cell? ⟨g2, o + k * 3, none⟩ = some (.int .i64 d.log[k].t)) := fun W hW => (HC.out W hW k hlt).1
        clear he HVA
        generalize d.log[k].t = tk at *
        have c2' : wr.cell? ⟨g2, o + k * 3 + 2, none⟩ = some (.int .i64 (-1)) := c2
        clear c2
        go_wp2
        obtain ⟨wA, hwA⟩ : ∃ x, x = wr := ⟨_, rfl⟩
        subst hwA
        go_loopw [3, 5] (fun u i wr => ∃ j : Nat, j ≤ k ∧ i = .int .i64 j ∧ Hid (WxL G w1 wr u (Wl.app tk (d.log.take j) (Wl.vals d.home d.log k)))) (fun _ i _ => k - (intOf i).toNat)
        case atStart => exact ⟨0, Nat.zero_le _, rfl, hL⟩
        case round =>
          clear hL b0 b1 b2 c0 c2'
          obtain ⟨j, hj, rfl, hL⟩ := hrel
          obtain ⟨a0, a1, a2⟩ := WxX.cells (hL.out.fr.get HX.out (by simp))
          by_cases hjk : j < k
          · have hjx : j < d.log.length := by omega
            obtain ⟨cur, tt, ff, hgd, hsz, hvs⟩ := SlR.part (HLR.out wr hL.out.fr) hjx
            have HGD := Lib.hid hgd
            have hsz' : o + j * 3 + 3 ≤ cur.size := hsz
            have HSZ := Lib.hid hsz'
            have HVS : Hid (((cur.toList.drop (o + j * 3)).take 3).toArray = #[.int .i64 d.log[j].t, .int .i64 (if d.log[j].e then 0 else d.log[j].b), .int .i64 (if d.log[j].e then -1 else d.log[j].v)]) := hvs
            have jI : (j : Int) < k := by omega
            have jI2 : (j : Int) < d.log.length := by omega
            have HAP := Lib.hid (Wl.app_at tk d.log (Wl.vals d.home d.log k) j hjx)
            have hbk := HBK.out d.log[j] (List.getElem_mem _)
            have hnv := HV.out d.log[j] (List.getElem_mem _)
            have hal : (Wl.app tk (d.log.take j) (Wl.vals d.home d.log k)).length = 8 := by rw [Wl.app_len, HVL.out, HHL.out]
            clear hgd hsz hvs hsz'
            generalize d.log[j] = r2 at *
            obtain ⟨t2, vb, v2, e2⟩ := r2
            dsimp only at HVS HAP hbk hnv
            obtain ⟨bn, rfl⟩ : ∃ bn : Nat, vb = bn := ⟨vb.toNat, by omega⟩
            rw [Int.toNat_natCast] at HAP
            have hb8 : bn < 8 := by omega
            clear hbk
            obtain ⟨b2v, hb2v⟩ : ∃ x : Int, x = (if e2 then 0 else (bn : Int)) := ⟨_, rfl⟩
            obtain ⟨v2v, hv2v⟩ : ∃ x : Int, x = (if e2 then -1 else v2) := ⟨_, rfl⟩
            rw [← hb2v, ← hv2v] at HVS
            have HB2 := Lib.hid hb2v
            have HV3 := Lib.hid hv2v
            clear hb2v hv2v
            have HW5 := Lib.hid (hL.out.step ((Fr.refl [] wr).alloc (.cells #[.int .i64 t2, .int .i64 b2v, .int .i64 v2v] 49)))
            have HP5 := Lib.hid (heap_alloc_new wr (.cells #[.int .i64 t2, .int .i64 b2v, .int .i64 v2v] 49))
            go_wp2_with (refine wpList_load_part rfl 49 _ rfl g2 (o + j * 3) 3 rfl tt cur ff _ HGD.out Tryd.underlying49 rfl (by kernel_rfl) HSZ.out _ HVS.out ?_)
            revert HW5 HP5
            generalize wr.alloc (.cells #[.int .i64 t2, .int .i64 b2v, .int .i64 v2v] 49) = w5
            generalize wr.heap.size = X5 at *
            intro HW5 HP5
            obtain ⟨p0, p1, p2⟩ : w5.cell? ⟨X5, 0, none⟩ = some (.int .i64 t2) ∧ w5.cell? ⟨X5, 1, none⟩ = some (.int .i64 b2v) ∧ w5.cell? ⟨X5, 2, none⟩ = some (.int .i64 v2v) := by
              refine ⟨?_, ?_, ?_⟩ <;> rw [cell_of_row _ _ _ _ _ _ HP5.out] <;> rfl
            obtain ⟨b0, b1, b2⟩ := WxX.cells (HW5.out.fr.get HX.out (by simp))
            have ck := HCK.out w5 HW5.out.fr
            clear HVS HGD HSZ hL a0 a1 a2
            by_cases hm : e2 = false ∧ t2 = tk
            · have HAP2 := Lib.hid (HAP.out.trans (if_pos hm))
              obtain ⟨rfl, rfl⟩ := hm
              have hv0 := hnv rfl
              obtain rfl : b2v = (bn : Int) := by rw [HB2.out]; rfl
              obtain rfl : v2v = v2 := by rw [HV3.out]; rfl
              obtain ⟨gr, -, hsr⟩ := HW5.out.row
              have HST := Lib.hid (set_any w5.drew _ gr _ bn v2v (hsr.fr (Fr.refl [] w5).drew (by simp)) (by rw [hal]; exact hb8) (by rw [hal]; decide))
              have hne : (Wl.app t2 (d.log.take j) (Wl.vals d.home d.log k)).set bn v2v ≠ [] := fun h => by
                have := congrArg List.length h
                rw [List.length_set, hal] at this
                cases this
              have HNE := Lib.hid hne
              clear HB2 HV3 hnv HAP hsr hal hne hb8
              (refine wp_region_mixq 8 [(true, 0), (true, 1), (true, 2), (true, 3), (true, 4), (true, 5), (true, 6), (true, 7)] (by kernel_rfl) (by kernel_rfl) ?_; simp only [pickOps, List.map_cons, List.map_nil, List.getD_cons_zero, List.getD_cons_succ, List.drop_succ_cons, List.drop_zero]; (iterate 8 (first | (refine wpMix_take (v := ?_) (by rfl) ?_ ?_; rotate_left; (focus (intro W hW; subst hW; go_simp; (try with_reducible rfl); done)); try simp only [Act.put, List.setIfInBounds_toArray, List.set_cons_zero, List.set_cons_succ]) | (refine wpMix_leave (by rfl) ?_; try simp only [Act.put, List.setIfInBounds_toArray, List.set_cons_zero, List.set_cons_succ]))); refine wpMix_nil ?_)
              go_wp2_with (go_at_call 38; (with_reducible refine useC HST.out ?_); rintro e w7 hn; obtain ⟨v7, rfl, hL7⟩ := (HW5.out.step (Fr.refl [] w5).drew).new HG.out HNE.out hn; have HL7 := Lib.hid hL7; clear hn hL7)
              go_roundw
              case rel => exact ⟨j + 1, by omega, by go_num, by show WxL _ _ _ _ _; rw [HAP2.out]; exact HL7.out⟩
              case measure => simp [intOf]; omega
            · have HAP2 := Lib.hid (HAP.out.trans (if_neg hm))
              have HL6 := Lib.hid (HW5.out.step (Fr.refl [] w5).drew)
              rw [← HAP2.out] at HL6
              by_cases htt : t2 = tk
              · have e1 : (t2 == tk) = true := by simpa using htt
                have he2 : e2 = true := by
                  cases e2 with
                  | true => rfl
                  | false => exact absurd ⟨rfl, htt⟩ hm
                subst he2
                obtain rfl : v2v = -1 := by rw [HV3.out]; rfl
                clear HB2 HV3 hnv HAP hal hb8 hm htt
                (refine wp_region_mixq 8 [(true, 0), (true, 1), (true, 2), (true, 3), (true, 4), (true, 5), (true, 6), (true, 7)] (by kernel_rfl) (by kernel_rfl) ?_; simp only [pickOps, List.map_cons, List.map_nil, List.getD_cons_zero, List.getD_cons_succ, List.drop_succ_cons, List.drop_zero]; (iterate 8 (first | (refine wpMix_take (v := ?_) (by rfl) ?_ ?_; rotate_left; (focus (intro W hW; subst hW; go_simp; (try with_reducible rfl); done)); try simp only [Act.put, List.setIfInBounds_toArray, List.set_cons_zero, List.set_cons_succ]) | (refine wpMix_leave (by rfl) ?_; try simp only [Act.put, List.setIfInBounds_toArray, List.set_cons_zero, List.set_cons_succ]))); refine wpMix_nil ?_)
                go_wp2
                go_roundw
                case rel => exact ⟨j + 1, by omega, by go_num, HL6⟩
                case measure => simp [intOf]; omega
              · have e1 : (t2 == tk) = false := by simpa using htt
                clear HB2 HV3 hnv HAP hal hb8 hm htt
                (refine wp_region_mixq 8 [(true, 0), (true, 1), (true, 2), (true, 3), (true, 4), (true, 5), (true, 6), (true, 7)] (by kernel_rfl) (by kernel_rfl) ?_; simp only [pickOps, List.map_cons, List.map_nil, List.getD_cons_zero, List.getD_cons_succ, List.drop_succ_cons, List.drop_zero]; (iterate 8 (first | (refine wpMix_take (v := ?_) (by rfl) ?_ ?_; rotate_left; (focus (intro W hW; subst hW; go_simp; (try with_reducible rfl); done)); try simp only [Act.put, List.setIfInBounds_toArray, List.set_cons_zero, List.set_cons_succ]) | (refine wpMix_leave (by rfl) ?_; try simp only [Act.put, List.setIfInBounds_toArray, List.set_cons_zero, List.set_cons_succ]))); refine wpMix_nil ?_)
                go_wp2
                go_roundw
                case rel => exact ⟨j + 1, by omega, by go_num, HL6⟩
                case measure => simp [intOf]; omega
          · have hjI : ¬ (j : Int) < k := by omega
            have hje : j = k := by omega
            have HL5 := Lib.hid hL.out
            rw [hje, ← HV2.out] at HL5
            clear hje hjk hL
            go_wp2
            go_roundw
            case rel => exact ⟨k + 1, by omega, by go_num, HL5⟩
            case measure => simp [intOf]; omega
      | false =>
        have HV2 := Lib.hid (HVA.out.trans (if_neg (by rw [he]; decide)))
        have hv0 := HV.out d.log[k] (List.getElem_mem _) he
        rw [he] at c2
        have c2' : wr.cell? ⟨g2, o + k * 3 + 2, none⟩ = some (.int .i64 d.log[k].v) := c2
        clear c2 he HVA
        generalize d.log[k].t = tk at *
        generalize d.log[k].v = vk at *
        have HL5 := Lib.hid hL.out
        rw [← HV2.out] at HL5
        clear hL
        go_wp2
        go_roundw
        case rel => exact ⟨k + 1, by omega, by go_num, HL5⟩
        case measure => simp [intOf]; omega
    · have kI : ¬ (k : Int) < d.log.length := by omega
      have hke : k = d.log.length := by omega
      have HL5 := Lib.hid hL.out
      rw [hke] at HL5
      clear hke hlt hL
      go_wp2
      go_ret
      obtain ⟨gz, z1, z2⟩ := HL5.out.row
      exact ⟨_, gz, rfl, z1, z2, HF.out.trans HL5.out.fr⟩
end Go.Proofs.YtmhmbgkpojgbbaaDoor
