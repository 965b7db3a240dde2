/- The law CowPlays. -/

import Derived.Test.YtokbhiokcoldbaaDoorCq20
import Derived.Test.YtokbhiokcoldbaaDoorCq21
import Derived.Test.YtokbhiokcoldbaaDoorCq22
namespace Go.Proofs.YtokbhiokcoldbaaDoor
open Go.RowKit

theorem slR_lt {w : World} {v : Value} {g : Nat} {xs : List Int} (hs : Sl w v g xs) : g < w.heap.size ∨ xs = [] := by
  by_cases hx : xs = []
  · exact .inr hx
  · obtain ⟨A, o, c, rfl, -, -, hc⟩ := hs.form
    exact .inl (block_lt_of_cell (hc 0 (by cases xs with | nil => exact absurd rfl hx | cons a l => simp)))
theorem putErr_of {st : List Ct} {n : Nat} (hn : st.length = n) (v k x : Int) : Co.putErr st v k x = if 0 ≤ v ∧ v ≤ (n : Int) - 1 then (if (0 ≤ k ∧ k ≤ 1000) ∧ (0 ≤ x ∧ x ≤ 1000) then (if 20 < n then 4 else 0) else 1) else 1 := by
  subst hn
  rfl
set_option maxRecDepth 100000 in
set_option maxHeartbeats 16000000 in
theorem cq_plays (w : World) (v : Value) (ls : List (List Int)) (qa qb : Int) (hR : Rw w.heap.size w v ls) (hE : ErrType w) :
    Calls Tryd.prog 3 #[v, .int .i64 qa, .int .i64 qb] w (OkT w) := by
  have HE := Lib.hid (fun W (hW : Fr [] w W) => hE.fr hW (by simp))
  obtain ⟨A, g, o, c, rfl, hm, hF⟩ := hR
  have HF := Lib.hid hF
  clear hF hE
  go_enter Tryd.func3, Tryd.ntmps3
  go_wp2_with (go_at_call 8; (with_reducible refine useC (co_new w) ?_); rintro e w0 ⟨sb, rfl, hs, hf⟩; have HS := Lib.hid (CqS.start hs hf); clear hs hf)
  have HL : Hid (CqL w _ sb _ 1) := ⟨_, _, _, _, _, HS.out, Co.sq_new, rfl, rfl⟩
  revert HL
  clear HS
  generalize w0.alloc (.cells #[.slice none 0 0, .slice none 0 0, .slice none 0 0] 27) = wA
  generalize w0.heap.size = gA
  intro HL
  go_loopw [8, 9] (fun hv iv wr => ∃ k : Nat, k ≤ ls.length ∧ k ≤ 25 ∧ iv = .int .i64 k ∧ ∃ (A : Option Addr) (n c : Nat), hv = .slice A n c ∧ Hid (CqL w wr sb (.slice A n c) n)) (fun _ iv _ => 25 - (intOf iv).toNat)
  case atStart => exact ⟨0, Nat.zero_le _, Nat.zero_le _, rfl, _, 1, _, rfl, HL⟩
  case round =>
    clear HL
    obtain ⟨k, hk, hk25, rfl, Ax, n, cx, rfl, hL⟩ := hrel
    by_cases hin : k < ls.length ∧ k < 25
    · obtain ⟨hlt, h25⟩ := hin
      obtain ⟨st, vs, qs, L, F, hS, hQ, h00, hqn⟩ := hL.out
      obtain ⟨rfl, hg⟩ := HF.out.1 (by omega)
      obtain ⟨u, kb, hcell0, hkb, hsl, _⟩ := HF.out.2 k hlt
      have hcell := hS.fr.cell hcell0 (by simp)
      obtain ⟨A', o', c', rfl, hm', hA', hc'⟩ := hsl.form
      have i0 : (0 : Int) ≤ k := by omega
      have i1 : (k : Int) < ls.length := by omega
      have i4 : (k : Int) < 25 := by omega
      have HS := Lib.hid hS
      have HQ := Lib.hid hQ
      have H00 := Lib.hid h00
      have HQN := Lib.hid hqn
      have hsn : st.length = n := by rw [← hQ.len]; exact hqn
      have HSN := Lib.hid hsn
      have hn21 := hS.s.ok.len
      rw [hsn] at hn21
      clear hsl hS hQ h00 hqn hL hsn
      by_cases hl3 : (nthR ls k).length = 3
      · obtain rfl := hA' (by omega)
        have c0 := hc' 0 (by omega)
        have c1 := hc' 1 (by omega)
        have c2 := hc' 2 (by omega)
        rw [Nat.add_zero] at c0
        have HC0 := Lib.hid (And.intro c0 (And.intro c1 c2))
        rw [hl3] at hcell
        clear hc' hA' hkb hcell0 c0 c1 c2 hl3
        obtain ⟨x0, hx0⟩ : ∃ x, nth (nthR ls k) 0 = x := ⟨_, rfl⟩
        obtain ⟨x1, hx1⟩ : ∃ x, nth (nthR ls k) 1 = x := ⟨_, rfl⟩
        obtain ⟨x2, hx2⟩ : ∃ x, nth (nthR ls k) 2 = x := ⟨_, rfl⟩
        rw [hx0, hx1, hx2] at HC0
        have HCF := Lib.hid (fun W (hW : Fr [] w W) => And.intro (hW.cell HC0.out.1 (by simp)) (And.intro (hW.cell HC0.out.2.1 (by simp)) (hW.cell HC0.out.2.2 (by simp))))
        obtain ⟨q0, q1, q2⟩ := HCF.out wr HS.out.fr
        clear hx0 hx1 hx2
        have hpe := putErr_of HSN.out x0 x1 x2
        have HPE := Lib.hid hpe
        have nw : IntKind.i64.wrap ((n : Int) - 1) = (n : Int) - 1 := by rw [IntKind.wrap_i64]; omega
        obtain ⟨ec, hec⟩ : ∃ ec, Co.putErr st x0 x1 x2 = ec := ⟨_, rfl⟩
        rw [hec] at hpe
        have HEC := Lib.hid hec
        have HM0 : Hid (ec ≠ 0 → CqM w wr sb st qs (.slice Ax n cx) n x0 x1 x2) := fun hne => ⟨vs, qs, L, HS.out, HQN.out, .inr ⟨by rw [HEC.out]; exact hne, rfl⟩⟩
        clear hec
        go_upto_region 10 with (fail)
        obtain ⟨bad, hbad⟩ : ∃ b : Bool, (!decide ((0 ≤ x0 ∧ x0 ≤ (n : Int) - 1) ∧ (0 ≤ x1 ∧ x1 ≤ 1000) ∧ (0 ≤ x2 ∧ x2 ≤ 1000))) = b := ⟨_, rfl⟩
        have HBAD := Lib.hid hbad
        clear hbad
        obtain ⟨wz, hwz⟩ : ∃ x, x = wr := ⟨_, rfl⟩
        subst hwz
        go_cut [66] from 45 to 111 (fun tv wc => tv = .bool bad ∧ wc = wz)
        case first =>
          have HOK : Hid ((0 ≤ x0 ∧ x0 ≤ (n : Int) - 1) ∧ (0 ≤ x1 ∧ x1 ≤ 1000) ∧ (0 ≤ x2 ∧ x2 ≤ 1000) → bad = false) := fun h => by rw [← HBAD.out, decide_eq_true h]; rfl
          have HNO : Hid (¬ ((0 ≤ x0 ∧ x0 ≤ (n : Int) - 1) ∧ (0 ≤ x1 ∧ x1 ≤ 1000) ∧ (0 ≤ x2 ∧ x2 ≤ 1000)) → bad = true) := fun h => by rw [← HBAD.out, decide_eq_false h]; rfl
          by_cases hv : 0 ≤ x0 ∧ x0 ≤ (n : Int) - 1
          · have d0 := decide_eq_true hv
            by_cases h1 : 0 ≤ x1 ∧ x1 ≤ 1000
            · have d1 := decide_eq_true h1
              by_cases h2 : 0 ≤ x2 ∧ x2 ≤ 1000
              · have d2 := decide_eq_true h2
                have hb := HOK.out ⟨hv, h1, h2⟩
                have HB := Lib.hid hb
                clear hv h1 h2 hb HOK HNO HBAD
                go_wp2_with (first
                  | (go_at_call 9; (with_reducible refine useC (in3_is x0 0 ((n : Int) - 1) true _ d0) ?_); rintro e w2 ⟨rfl, rfl⟩)
                  | (go_at_call 9; (with_reducible refine useC (in3_is x1 0 1000 true _ d1) ?_); rintro e w2 ⟨rfl, rfl⟩)
                  | (go_at_call 9; (with_reducible refine useC (in3_is x2 0 1000 true _ d2) ?_); rintro e w2 ⟨rfl, rfl⟩))
                go_meet
                case rel => exact ⟨by rw [HB.out], rfl⟩
              · have d2 := decide_eq_false h2
                have hb := HNO.out (fun h => h2 h.2.2)
                have HB := Lib.hid hb
                clear hv h1 h2 hb HOK HNO HBAD
                go_wp2_with (first
                  | (go_at_call 9; (with_reducible refine useC (in3_is x0 0 ((n : Int) - 1) true _ d0) ?_); rintro e w2 ⟨rfl, rfl⟩)
                  | (go_at_call 9; (with_reducible refine useC (in3_is x1 0 1000 true _ d1) ?_); rintro e w2 ⟨rfl, rfl⟩)
                  | (go_at_call 9; (with_reducible refine useC (in3_is x2 0 1000 false _ d2) ?_); rintro e w2 ⟨rfl, rfl⟩))
                go_meet
                case rel => exact ⟨by rw [HB.out], rfl⟩
            · have d1 := decide_eq_false h1
              have hb := HNO.out (fun h => h1 h.2.1)
              have HB := Lib.hid hb
              clear hv h1 hb HOK HNO HBAD
              go_wp2_with (first
                | (go_at_call 9; (with_reducible refine useC (in3_is x0 0 ((n : Int) - 1) true _ d0) ?_); rintro e w2 ⟨rfl, rfl⟩)
                | (go_at_call 9; (with_reducible refine useC (in3_is x1 0 1000 false _ d1) ?_); rintro e w2 ⟨rfl, rfl⟩))
              go_meet
              case rel => exact ⟨by rw [HB.out], rfl⟩
          · have d0 := decide_eq_false hv
            have hb := HNO.out (fun h => hv h.1)
            have HB := Lib.hid hb
            clear hv hb HOK HNO HBAD
            go_wp2_with (go_at_call 9; (with_reducible refine useC (in3_is x0 0 ((n : Int) - 1) false _ d0) ?_); rintro e w2 ⟨rfl, rfl⟩)
            go_meet
            case rel => exact ⟨by rw [HB.out], rfl⟩
        obtain ⟨rfl, rfl⟩ := hcut
        go_upto_if 66 with (fail)
        clear q0 q1 q2
        go_cut [8, 11, 12] from 28 to 111 (fun hv ev wv wc => ev = .int .i64 ec ∧ wv = .int .i64 (putR st ec) ∧ ∃ (A : Option Addr) (m c : Nat), hv = .slice A m c ∧ Hid (CqM w wc sb st qs (.slice A m c) m x0 x1 x2))
        case first =>
          cases bad with
          | true =>
            have he : ec = 1 := by
              rw [hpe]
              have hb := HBAD.out
              simp at hb
              by_cases hv : 0 ≤ x0 ∧ x0 ≤ (n : Int) - 1
              · rw [if_pos hv, if_neg (fun h => by omega)]
              · rw [if_neg hv]
            have HCM := Lib.hid (HM0.out (by omega))
            have hr : putR st ec = 0 := by unfold putR; rw [if_neg (by omega)]
            have HPR := Lib.hid hr
            subst he
            clear hr hpe
            go_wp2
            go_meet
            case rel => exact ⟨rfl, by rw [HPR.out], Ax, n, cx, rfl, HCM⟩
          | false =>
            have hb := HBAD.out
            have hall : (0 ≤ x0 ∧ x0 ≤ (n : Int) - 1) ∧ (0 ≤ x1 ∧ x1 ≤ 1000) ∧ (0 ≤ x2 ∧ x2 ≤ 1000) := by
              have hb := HBAD.out
              apply Classical.byContradiction
              intro hc
              rw [decide_eq_false hc] at hb
              cases hb
            rw [if_pos hall.1, if_pos ⟨hall.2.1, hall.2.2⟩] at hpe
            clear hb
            by_cases h20 : 20 < n
            · rw [if_pos h20] at hpe
              subst hpe
              have HCM := Lib.hid (HM0.out (by decide))
              have HPR : Hid (putR st 4 = 0) := rfl
              have hg20 : ((n : Int) > 20) = True := eq_true (by omega)
              clear hall h20
              go_wp2
              go_meet
              case rel => exact ⟨rfl, by rw [HPR.out], Ax, n, cx, rfl, HCM⟩
            · rw [if_neg h20] at hpe
              subst hpe
              have hg20 : ((n : Int) > 20) = False := eq_false (by omega)
              have HPR : Hid (putR st 0 = (n : Int)) := by show _ = _; unfold putR; rw [if_pos rfl, HSN.out]
              obtain ⟨j, rfl⟩ : ∃ j : Nat, x0 = j := ⟨x0.toNat, by have := hall.1.1; omega⟩
              have hjn : j < n := by have := hall.1; omega
              have jI : (j : Int) < n := by omega
              have j0 : (0 : Int) ≤ j := by omega
              have hjq : j < qs.length := by rw [HQN.out]; exact hjn
              have hjs : j < st.length := by rw [HSN.out]; exact hjn
              have hrv := HQ.out.rv j hjs
              have hup := HS.out.s.ok.up _ (Co.getD_mem' hjs)
              have hfew := HS.out.s.ok.few _ (Co.getD_mem' hjs)
              have hkl := Co.rv_len hrv hup
              have hlens : (qs.getD j Co.vr0).V.length = (qs.getD j Co.vr0).K.length ∧ (qs.getD j Co.vr0).M.length = (qs.getD j Co.vr0).K.length := ⟨hrv.lv, hrv.lm⟩
              have hroom := Co.room_ok hrv x1
              obtain ⟨gx, cx', B0, d0, B1, d1, B2, d2, hxe, ⟨hjv, hvj⟩, hcells, hown, hgx⟩ := HS.out.at hjq hlens
              injection hxe with e1 e2 e3
              subst e1 e3
              have HP1 := Lib.hid (HS.out.row j hjv)
              have hPge := HS.out.ge j hjv
              have hPX : ¬ B3 vs[j] gx := fun h => HS.out.notX hjv h hown
              have hrow := HS.out.row j hjv
              rw [hvj] at hrow hPge hPX
              have HEV : Hid ((⟨B0, (qs.getD j Co.vr0).K.length, d0⟩ : SlV).val = vs[j].1.val ∧ (⟨B1, (qs.getD j Co.vr0).K.length, d1⟩ : SlV).val = vs[j].2.1.val ∧ (⟨B2, (qs.getD j Co.vr0).K.length, d2⟩ : SlV).val = vs[j].2.2.val) := by
                show _ ∧ _
                rw [hvj]
                exact ⟨rfl, rfl, rfl⟩
              have hPgx : ∀ g, P3 (.slice B0 (qs.getD j Co.vr0).K.length d0) (.slice B1 (qs.getD j Co.vr0).K.length d1) (.slice B2 (qs.getD j Co.vr0).K.length d2) g → w.heap.size ≤ g := hPge
              have hkbl : kb < w.heap.size := block_lt_of_cell HC0.out.1
              have HQC := Lib.hid (fun W (hW : FrP (P3 (.slice B0 (qs.getD j Co.vr0).K.length d0) (.slice B1 (qs.getD j Co.vr0).K.length d1) (.slice B2 (qs.getD j Co.vr0).K.length d2)) wc W) => And.intro (hcells W (hW.block gx hgx hPX)) (And.intro (hW.cell (p := ⟨kb, o', none⟩) (HCF.out wc HS.out.fr).1 (fun hp => by have := hPgx kb hp; omega)) (And.intro (hW.cell (p := ⟨kb, o' + 1, none⟩) (HCF.out wc HS.out.fr).2.1 (fun hp => by have := hPgx kb hp; omega)) (hW.cell (p := ⟨kb, o' + 2, none⟩) (HCF.out wc HS.out.fr).2.2 (fun hp => by have := hPgx kb hp; omega)))))
              have hd : Fr [] wc wc.drew := (Fr.refl [] wc).drew
              have hrd := VV.step hrow hd
              have HPUT := Lib.hid (cq_Put wc.drew L B0 d0 B1 d1 B2 d2 (qs.getD j Co.vr0) x1 x2 n hrd.1 hrd.2.1 hrd.2.2 hrv.nd hrv.lv hrv.lm (by have := HSN.out; omega) hroom)
              have HROOM := Lib.hid hroom
              have HKEEP : Hid (FrP (P3 (.slice B0 (qs.getD j Co.vr0).K.length d0) (.slice B1 (qs.getD j Co.vr0).K.length d1) (.slice B2 (qs.getD j Co.vr0).K.length d2)) wc wc.drew) := (FrP.refl _ wc).step hd (by simp)
              have HJV := Lib.hid hjv
              clear hkl hfew hup hlens hroom hcells hown hgx hvj hPX hPge hPgx hrow hd hrd hkbl e2
              obtain ⟨q, hq⟩ : ∃ q, qs.getD j Co.vr0 = q := ⟨_, rfl⟩
              rw [hq] at HQC HPUT HROOM HKEEP HEV
              have HQJ := Lib.hid hq
              clear hq hrv HP1
              go_wp2_with fail
              (refine wp_region_mix (FrP (P3 (.slice B0 q.K.length d0) (.slice B1 q.K.length d1) (.slice B2 q.K.length d2)) wc ·) 16 [(true, 0), (true, 1), (true, 2), (true, 3), (true, 4), (true, 5), (true, 6), (true, 7), (true, 8), (true, 9), (true, 10), (true, 11), (true, 12), (true, 13), (false, 14), (false, 15)] (by kernel_rfl) (by kernel_rfl) (HKEEP.out) ?_; simp only [pickOps, List.map_cons, List.map_nil, List.getD_cons_zero, List.getD_cons_succ, List.drop_succ_cons, List.drop_zero])
              (iterate 14 (first | (refine wpMix_take (v := ?_) (by rfl) ?_ ?_; rotate_left; (focus (intro W hW; obtain ⟨⟨⟨b0, b1, b2⟩, bl⟩, q0, q1, q2⟩ := HQC.out W hW; go_simp; (try with_reducible rfl); done)); try simp only [Act.put, List.setIfInBounds_toArray, List.set_cons_zero, List.set_cons_succ]) | (refine wpMix_leave (by rfl) ?_; try simp only [Act.put, List.setIfInBounds_toArray, List.set_cons_zero, List.set_cons_succ])))
              refine wpMix_walk ?_
              go_wp2_with (go_at_call 10; (refine useC HPUT.out ?_); rintro e w3 ⟨k9, v9, m9, rfl, hkp, ho, hor, hov, hom⟩; obtain ⟨Ak9, ck9, hk9⟩ := ho.form0; obtain ⟨Av9, cv9, hv9⟩ := hov.form0; obtain ⟨Am9, cm9, hm9⟩ := hom.form0; subst hk9 hv9 hm9; obtain ⟨L9, hs9, hy9, hb9⟩ := (HS.out.step (Fr.refl [] wc).drew).more (y := (⟨Ak9, (q.room x1).K.length, ck9⟩, ⟨Av9, (q.put x1 x2 n).V.length, cv9⟩, ⟨Am9, (q.put x1 x2 n).M.length, cm9⟩)) HJV.out HQJ.out HEV.out hkp ho hor hov hom HROOM.out; have HS9 := Lib.hid hs9; have HY9 := Lib.hid hy9; have HB9 := Lib.hid hb9; have HK9 := Lib.hid (HKEEP.out.trans hkp.fr (fun g hg => .inl hg)); clear hs9 hy9 hb9 hkp ho hor hov hom)
              refine MixQ.mk (HK9.out) ?_
              refine wpMix_walk ?_
              go_wp2
              refine MixQ.mk (HK9.out.step ((Fr.refl [] _).alloc _) (by simp)) ?_
              refine wpMix_nil ?_
              generalize (q.room x1).K.length = l0 at *
              generalize (q.put x1 x2 n).V.length = l1 at *
              generalize (q.put x1 x2 n).M.length = l2 at *
              have HX9 := Lib.hid HS9.out.x
              have HZ9 := Lib.hid HS9.out.fr.size
              have HVL := Lib.hid (HS9.out.len.trans HQN.out)
              go_wp2_with (at_builtin; refine wpList_push_enc2 (E := vrE) (y := (⟨Ak9, l0, ck9⟩, ⟨Av9, l1, cv9⟩, ⟨Am9, l2, cm9⟩)) (wr := w3) vr_und vr_info rfl (by decide) rfl _ _ rfl w.heap.size _ vs rfl rfl HX9.out rfl (by have := HVL.out; omega) HZ9.out ?_; intro v5 w5 h1 h2 h3; have hg5 := HS9.out.grow HY9.out HB9.out h1 h2; obtain ⟨A5, c5, hv5, -⟩ := h1.form'; rw [List.length_append, HVL.out] at hv5; subst hv5; have HCM : Hid (CqM w w5 sb st qs (.slice A5 (n + 1) c5) (n + 1) j x1 x2) := ⟨_, _, L9, hg5, by rw [List.length_append, HQN.out]; rfl, .inl ⟨HEC.out, by rw [Int.toNat_natCast, HQJ.out, HSN.out]⟩⟩; clear h1 h2 h3 hg5)
              go_meet
              case rel => exact ⟨rfl, by rw [HPR.out], A5, n + 1, c5, rfl, HCM⟩
        case rest =>
          obtain ⟨rfl, rfl, Ay, m, cy, rfl, HM⟩ := hcut
          obtain ⟨vs', qs', L', hs', -⟩ := HM.out
          have HFR := Lib.hid hs'.fr
          have HFD : Hid (Fr [] w wc.drew) := hs'.fr.drew
          have hps := co_PutS wc.drew w.heap.size sb st x0 x1 x2 (hs'.s.step (Fr.refl [] wc).drew) HFD.out.size
          have HER := Lib.hid (fun W (hW : Fr [] w W) => error_yes ec W (HE.out W hW))
          have HMD : Hid (∀ w' st', CoS w.heap.size w' sb st' → CoK sb wc.drew w' → ((ec = 0 ∧ ∃ N, wc.drew.heap.size ≤ N ∧ st' = st ++ [Co.put (Co.tree st x0) N x1 x2]) ∨ (ec ≠ 0 ∧ st' = st)) → CqL w w' sb (.slice Ay m cy) m) := fun w' st' h1 h2 h3 => by
            obtain ⟨a, b, c, d, e, f⟩ := HM.out
            have hm2 : CqM w wc.drew sb st qs (.slice Ay m cy) m x0 x1 x2 := ⟨a, b, c, d.step (Fr.refl [] wc).drew, e, f⟩
            exact hm2.done HQ.out H00.out h1 h2 (by rw [HEC.out]; exact h3)
          unfold CoPutS at hps
          rw [HEC.out] at hps
          have HPS := Lib.hid hps
          have HSB := Lib.hid hs'.s
          generalize putR st ec = pr at *
          have e1 : (pr != pr) = false := by simp
          clear hps hs' hpe
          go_wp2_with fail
          (refine wp_region_mix (Fr [] w ·) 15 [(true, 0), (true, 1), (true, 2), (true, 3), (true, 4), (true, 5), (true, 6), (true, 7), (true, 8), (true, 9), (false, 10), (true, 11), (true, 12), (true, 13), (false, 14)] (by kernel_rfl) (by kernel_rfl) (HFD.out) ?_; simp only [pickOps, List.map_cons, List.map_nil, List.getD_cons_zero, List.getD_cons_succ, List.drop_succ_cons, List.drop_zero])
          (iterate 10 (first | (refine wpMix_take (v := ?_) (by rfl) ?_ ?_; rotate_left; (focus (intro W hW; obtain ⟨q0, q1, q2⟩ := HCF.out W hW; go_simp; (try with_reducible rfl); done)); try simp only [Act.put, List.setIfInBounds_toArray, List.set_cons_zero, List.set_cons_succ]) | (refine wpMix_leave (by rfl) ?_; try simp only [Act.put, List.setIfInBounds_toArray, List.set_cons_zero, List.set_cons_succ])))
          refine wpMix_walk ?_
          go_wp2_with (go_at_call 11; (refine useC HPS.out ?_); rintro e w5 ⟨st', rfl, hs, hk, hc⟩; have HL5 := Lib.hid (HMD.out w5 st' hs hk hc); clear hs hk hc)
          refine MixQ.mk (HL5.out.fr) ?_
          (iterate 3 (first | (refine wpMix_take (v := ?_) (by rfl) ?_ ?_; rotate_left; (focus (intro W hW; skip; go_simp; (try with_reducible rfl); done)); try simp only [Act.put, List.setIfInBounds_toArray, List.set_cons_zero, List.set_cons_succ]) | (refine wpMix_leave (by rfl) ?_; try simp only [Act.put, List.setIfInBounds_toArray, List.set_cons_zero, List.set_cons_succ])))
          refine wpMix_walk ?_
          go_wp2
          refine MixQ.mk (HL5.out.fr) ?_
          refine wpMix_nil ?_
          go_wp2_with (go_at_call 12; (with_reducible refine useC (HER.out w5 HL5.out.fr) ?_); rintro e w6 ⟨rfl, hf⟩; have HL6 := Lib.hid (HL5.out.step hf); clear hf)
          go_roundw
          case rel => exact ⟨k + 1, by omega, by omega, by go_num, Ay, m, cy, rfl, HL6⟩
          case measure => (simp [intOf]; try omega)
      · have e1 : (((nthR ls k).length : Int) != 3) = true := by simp; omega
        have HL2 : Hid (CqL w wr sb (.slice Ax n cx) n) := ⟨st, vs, qs, L, F, HS.out, HQ.out, H00.out, HQN.out⟩
        clear hc' hA' hkb hcell0
        go_wp2
        go_roundw
        case rel => exact ⟨k + 1, by omega, by omega, by go_num, Ax, n, cx, rfl, HL2⟩
        case measure => (simp [intOf]; try omega)
    · have hend : Hid (¬ ((k : Int) < ls.length) ∨ ((k : Int) < ls.length ∧ ¬ (k : Int) < 25)) := by
        by_cases h : k < ls.length
        · exact .inr ⟨by omega, by omega⟩
        · exact .inl (by omega)
      obtain ⟨st, vs, qs, L, F, hS, hQ, h00, hqn⟩ := hL.out
      obtain ⟨wz, hwz⟩ : ∃ x, x = wr := ⟨_, rfl⟩
      subst hwz
      have hsn : st.length = n := by rw [← hQ.len]; exact hqn
      have hn21 := hS.s.ok.len
      rw [hsn] at hn21
      have HRV := Lib.hid (fun j (hj : j < n) => hQ.rv j (by rw [hsn]; exact hj))
      have HUP := Lib.hid (fun j (hj : j < n) => hS.s.ok.up _ (Co.getD_mem' (st := st) (v := j) (by rw [hsn]; exact hj)))
      have HKL : Hid (∀ j, j < n → (qs.getD j Co.vr0).K.length ≤ 1000) := fun j hj => by
        have h1 := Co.rv_len (HRV.out j hj) (HUP.out j hj)
        have h2 := hS.s.ok.few _ (Co.getD_mem' (st := st) (v := j) (by rw [hsn]; exact hj))
        omega
      obtain ⟨gx, cx', hxe, hall⟩ := hS.all (by omega) (fun j hj => ⟨(HRV.out j (by omega)).lv, (HRV.out j (by omega)).lm⟩)
      rw [hqn] at hxe hall
      injection hxe with e1 _ e3
      subst e1 e3
      have HALL := Lib.hid hall
      have HSS := Lib.hid (fun W (hW : Fr [] wz W) => (hS.step hW).s)
      have HSH : Hid (∀ u v, u < n → v < n → Co.vshared (qs.getD u Co.vr0) (qs.getD v Co.vr0) = Co.shared (st.getD u .nil) (st.getD v .nil)) := fun u v hu hv => Co.vshared_eq hQ hS.s.ok (by omega) (by omega)
      have HFW := Lib.hid hS.fr
      have HSN := Lib.hid hsn
      have H00 : Hid (coGet st 0 0 = .tuple #[.int .i64 0, errV 5]) := by
        show coGet st 0 0 = _
        unfold coGet
        have ht : Co.tree st 0 = .nil := h00
        rw [if_pos (show Co.has st 0 from ⟨by omega, by omega⟩), ht]
        rfl
      have HHAS : Hid (∀ v : Int, Co.has st v ↔ (0 ≤ v ∧ v ≤ (n : Int) - 1)) := fun v => by unfold Co.has; rw [hsn]
      have HF0 : Hid (Fr [] wz wz) := Fr.refl _ _
      have nw : IntKind.i64.wrap ((n : Int) - 1) = (n : Int) - 1 := by rw [IntKind.wrap_i64]; omega
      clear hL hS hQ h00 hqn hsn hall
      rcases hend.out with j1 | ⟨j1, j2⟩
      all_goals
        clear hend
        go_wp2_with fail
        go_loopw [15] (fun iv wr => ∃ i : Nat, i ≤ n ∧ iv = .int .i64 i ∧ Hid (Fr [] wz wr)) (fun iv _ => n - (intOf iv).toNat)
        case atStart => exact ⟨0, Nat.zero_le _, rfl, HF0⟩
        case round =>
          clear HF0
          obtain ⟨i, hi, rfl, hF⟩ := hrel
          by_cases hlt : i < n
          · have iI : (i : Int) < n := by omega
            have i0 : (0 : Int) ≤ i := by omega
            obtain ⟨A0, c0, A1, c1, A2, c2, g0, g1, g2, hver⟩ := HALL.out i hlt
            have hrv := HRV.out i hlt
            have hup := HUP.out i hlt
            have hkl := HKL.out i hlt
            have hri := rise_eq hup (Co.rv_perm hrv hup)
            have hget : ∀ j, j < (qs.getD i Co.vr0).K.length → coGet st (i : Int) (nth (qs.getD i Co.vr0).K j) = .tuple #[.int .i64 (nth (qs.getD i Co.vr0).V j), .nilIface] := fun j hj => by
              have h1 := hrv.val j hj
              have ht : Co.tree st (i : Int) = st.getD i .nil := by unfold Co.tree; rw [Int.toNat_natCast]
              unfold coGet
              rw [if_pos ((HHAS.out i).2 ⟨by omega, by omega⟩), ht, h1]
            have hky := co_keys wr _ sb st i (HSS.out wr hF.out) ((HHAS.out i).2 ⟨by omega, by omega⟩)
            rw [show Co.tree st (i : Int) = st.getD i .nil by unfold Co.tree; rw [Int.toNat_natCast]] at hky
            unfold CoKeysA at hky
            generalize Co.keys (st.getD i .nil) = kk at *
            have HGET := Lib.hid hget
            generalize qs.getD i Co.vr0 = q at *
            have HVER := Lib.hid hver
            have HKY := Lib.hid hky
            have HRI : Hid (∀ W, Fr [] wz W → Calls Tryd.prog 15 #[.slice A0 q.K.length c0] W (NewRow kk W)) := fun W hW => by
              rw [← hri]
              have h1 := (HVER.out W hW).2.2.1
              exact rising_any W _ g0 q.K h1 (slR_lt h1) (by omega)
            clear hrv hup hri hget hky hver
            go_wp2_with (first
              | (go_at_call 13; (with_reducible refine useC HKY.out ?_); rintro e w4 ⟨A4, c4, rfl, ho4, hf4⟩; have HF4 := Lib.hid (hF.out.trans hf4); obtain ⟨g4, -, hs4⟩ := ho4.sl; have HS4 := Lib.hid hs4; obtain ⟨⟨b0, b1, b2⟩, -⟩ := HVER.out w4 HF4.out; clear ho4 hf4 hs4)
              | (have h' := HF4; go_at_call 15; (with_reducible refine useC (HRI.out w4 HF4.out) ?_); rintro e w5 ⟨v5, g5, rfl, -, hs5, hf5⟩; have HF5 := Lib.hid (HF4.out.trans hf5); have HII := Lib.hid (ints_same w5 _ v5 _ _ _ (HS4.out.fr hf5 (by simp)) hs5); clear hs5 hf5 h' b0 b1 b2)
              | (have h' := HII; go_at_call 14; (with_reducible refine useC HII.out ?_); rintro e w6 ⟨rfl, hd⟩; have HF6 := Lib.hid (HF5.out.trans (hd.fr [])); clear hd h'))
            go_loopw [18] (fun jv wr => ∃ j : Nat, j ≤ q.K.length ∧ jv = .int .i64 j ∧ Hid (Fr [] wz wr)) (fun jv _ => q.K.length - (intOf jv).toNat)
            case atStart => exact ⟨0, Nat.zero_le _, rfl, HF6⟩
            case round =>
              clear HF6
              obtain ⟨j, hj, rfl, hFj⟩ := hrel
              obtain ⟨⟨b0, b1, b2⟩, -, s0, s1, -⟩ := HVER.out wr hFj.out
              obtain ⟨o0, ha0, hc0⟩ := sl_cells s0
              obtain ⟨o1, ha1, hc1⟩ := sl_cells s1
              clear s0 s1
              by_cases hjl : j < q.K.length
              · have jI : (j : Int) < q.K.length := by omega
                have j0 : (0 : Int) ≤ j := by omega
                obtain rfl := ha0 (by omega)
                obtain rfl := ha1 (by omega)
                have q0 := hc0 wr (Fr.refl _ _) j hjl
                have q1 := hc1 wr (Fr.refl _ _) j hjl
                have hgt := co_get wr _ sb st i (nth q.K j) (HSS.out wr hFj.out)
                rw [HGET.out j hjl] at hgt
                have HGT := Lib.hid hgt
                clear hgt hc0 hc1
                generalize nth q.K j = y at *
                generalize nth q.V j = x at *
                have e1 : (x != x) = false := by simp
                go_wp2_with (go_at_call 16; (with_reducible refine useC HGT.out ?_); rintro e w7 ⟨rfl, rfl⟩)
                go_roundw
                case rel => exact ⟨j + 1, by omega, by go_num, hFj⟩
                case measure => (simp [intOf]; try omega)
              · obtain rfl : j = q.K.length := by omega
                have jI : ¬ ((q.K.length : Nat) : Int) < q.K.length := by omega
                clear ha0 ha1 hc0 hc1 hjl
                go_wp2
                go_roundw
                case rel => exact ⟨i + 1, by omega, by go_num, hFj⟩
                case measure => (simp [intOf]; try omega)
          · obtain rfl : i = n := by omega
            have iI : ¬ ((i : Nat) : Int) < i := by omega
            clear hlt hi
            go_upto_region 33 with (fail)
            obtain ⟨bad, hbad⟩ : ∃ b : Bool, (!decide ((0 ≤ qa ∧ qa ≤ (i : Int) - 1) ∧ (0 ≤ qb ∧ qb ≤ (i : Int) - 1))) = b := ⟨_, rfl⟩
            have HBAD := Lib.hid hbad
            clear hbad
            obtain ⟨wy, hwy⟩ : ∃ x, x = wr := ⟨_, rfl⟩
            subst hwy
            go_cut [188] from 175 to 220 (fun tv wc => tv = .bool bad ∧ wc = wy)
            case first =>
              have HNO : Hid (¬ ((0 ≤ qa ∧ qa ≤ (i : Int) - 1) ∧ (0 ≤ qb ∧ qb ≤ (i : Int) - 1)) → bad = true) := fun h => by rw [← HBAD.out, decide_eq_false h]; rfl
              have HOK : Hid ((0 ≤ qa ∧ qa ≤ (i : Int) - 1) ∧ (0 ≤ qb ∧ qb ≤ (i : Int) - 1) → bad = false) := fun h => by rw [← HBAD.out, decide_eq_true h]; rfl
              by_cases ha : 0 ≤ qa ∧ qa ≤ (i : Int) - 1
              · have d0 := decide_eq_true ha
                by_cases hb : 0 ≤ qb ∧ qb ≤ (i : Int) - 1
                · have d1 := decide_eq_true hb
                  have HB := Lib.hid (HOK.out ⟨ha, hb⟩)
                  clear ha hb HOK HNO HBAD
                  go_wp2_with (first
                    | (go_at_call 9; (with_reducible refine useC (in3_is qa 0 ((i : Int) - 1) true _ d0) ?_); rintro e w2 ⟨rfl, rfl⟩)
                    | (go_at_call 9; (with_reducible refine useC (in3_is qb 0 ((i : Int) - 1) true _ d1) ?_); rintro e w2 ⟨rfl, rfl⟩))
                  go_meet
                  case rel => exact ⟨by rw [HB.out], rfl⟩
                · have d1 := decide_eq_false hb
                  have HB := Lib.hid (HNO.out (fun h => hb h.2))
                  clear ha hb HOK HNO HBAD
                  go_wp2_with (first
                    | (go_at_call 9; (with_reducible refine useC (in3_is qa 0 ((i : Int) - 1) true _ d0) ?_); rintro e w2 ⟨rfl, rfl⟩)
                    | (go_at_call 9; (with_reducible refine useC (in3_is qb 0 ((i : Int) - 1) false _ d1) ?_); rintro e w2 ⟨rfl, rfl⟩))
                  go_meet
                  case rel => exact ⟨by rw [HB.out], rfl⟩
              · have d0 := decide_eq_false ha
                have HB := Lib.hid (HNO.out (fun h => ha h.1))
                clear ha HOK HNO HBAD
                go_wp2_with (go_at_call 9; (with_reducible refine useC (in3_is qa 0 ((i : Int) - 1) false _ d0) ?_); rintro e w2 ⟨rfl, rfl⟩)
                go_meet
                case rel => exact ⟨by rw [HB.out], rfl⟩
            obtain ⟨rfl, rfl⟩ := hcut
            go_upto_if 188 with (fail)
            go_cut [21, 22] from 175 to 220 (fun ev wv wd => ∃ ec ws : Int, ev = .int .i64 ec ∧ wv = .int .i64 ws ∧ Hid (Fr [] wz wd) ∧ Hid (coShared st qa qb = .tuple #[.int .i64 ws, errV ec]))
            case first =>
              cases bad with
              | true =>
                have HSO : Hid (coShared st qa qb = .tuple #[.int .i64 0, errV 1]) := by
                  show _ = _
                  unfold coShared
                  have hb := HBAD.out
                  rw [if_neg (fun h => by
                    rw [decide_eq_true (show (0 ≤ qa ∧ qa ≤ (i : Int) - 1) ∧ (0 ≤ qb ∧ qb ≤ (i : Int) - 1) from ⟨(HHAS.out qa).1 h.1, (HHAS.out qb).1 h.2⟩)] at hb
                    cases hb)]
                  rfl
                go_wp2
                go_meet
                case rel => exact ⟨1, 0, rfl, rfl, hF, HSO⟩
              | false =>
                have hall : (0 ≤ qa ∧ qa ≤ (i : Int) - 1) ∧ (0 ≤ qb ∧ qb ≤ (i : Int) - 1) := by
                  have hb := HBAD.out
                  apply Classical.byContradiction
                  intro hc
                  rw [decide_eq_false hc] at hb
                  cases hb
                obtain ⟨u, rfl⟩ : ∃ u : Nat, qa = u := ⟨qa.toNat, by omega⟩
                obtain ⟨v, rfl⟩ : ∃ v : Nat, qb = v := ⟨qb.toNat, by omega⟩
                have hu : u < i := by omega
                have hv : v < i := by omega
                have HSO : Hid (coShared st u v = .tuple #[.int .i64 ((Co.vshared (qs.getD u Co.vr0) (qs.getD v Co.vr0) : Nat) : Int), errV 0]) := by
                  show _ = _
                  unfold coShared
                  rw [if_pos ⟨(HHAS.out u).2 hall.1, (HHAS.out v).2 hall.2⟩, HSH.out u v hu hv]
                  unfold Co.tree
                  rw [Int.toNat_natCast, Int.toNat_natCast]
                  rfl
                obtain ⟨A0, c0, A1, c1, A2, c2, g0, g1, g2, hvu⟩ := HALL.out u hu
                obtain ⟨B0, d0, B1, d1, B2, d2, h0, h1, h2, hvv⟩ := HALL.out v hv
                have hfd : Fr [] wz wc.drew := hF.out.trans (Fr.refl [] wc).drew
                have HFD := Lib.hid hfd
                obtain ⟨⟨b0, b1, b2⟩, bl, -⟩ := hvu wc hF.out
                obtain ⟨⟨f0, f1, f2⟩, fl, -⟩ := hvv wc hF.out
                obtain ⟨-, -, s0, s1, s2⟩ := hvu wc.drew hfd
                obtain ⟨-, -, t0, t1, t2⟩ := hvv wc.drew hfd
                have HSC := Lib.hid (cq_Shared wc.drew A0 c0 A1 c1 A2 c2 (qs.getD u Co.vr0) B0 d0 B1 d1 B2 d2 (qs.getD v Co.vr0) g0 g2 h0 h2 s0 s2 t0 t2 (HRV.out u hu).nd (HRV.out v hv).nd (HKL.out u hu))
                have uI : (u : Int) < i := by omega
                have vI : (v : Int) < i := by omega
                have u0 : (0 : Int) ≤ u := by omega
                have v0 : (0 : Int) ≤ v := by omega
                clear hvu hvv s0 s1 s2 t0 t1 t2 hall hfd
                generalize Co.vshared (qs.getD u Co.vr0) (qs.getD v Co.vr0) = sh at *
                generalize qs.getD u Co.vr0 = qu at *
                generalize qs.getD v Co.vr0 = qv at *
                go_wp2_with fail
                (refine wp_region_mixq 8 [(true, 0), (true, 1), (true, 2), (true, 3), (true, 4), (true, 5), (true, 6), (true, 7)] (by kernel_rfl) (by kernel_rfl) ?_; simp only [pickOps, List.map_cons, List.map_nil, List.getD_cons_zero, List.getD_cons_succ, List.drop_succ_cons, List.drop_zero]; (iterate 8 (first | (refine wpMix_take (v := ?_) (by rfl) ?_ ?_; rotate_left; (focus (intro W hW; subst hW; go_simp; (try with_reducible rfl); done)); try simp only [Act.put, List.setIfInBounds_toArray, List.set_cons_zero, List.set_cons_succ]) | (refine wpMix_leave (by rfl) ?_; try simp only [Act.put, List.setIfInBounds_toArray, List.set_cons_zero, List.set_cons_succ]))); refine wpMix_nil ?_)
                go_wp2_with (go_at_call 17; (refine useC HSC.out ?_); rintro e w7 ⟨rfl, hf⟩; have HF7 := Lib.hid (HFD.out.trans hf); clear hf)
                go_meet
                case rel => exact ⟨0, (sh : Int), rfl, rfl, HF7, HSO⟩
            case rest =>
              obtain ⟨ec, ws, rfl, rfl, HFc, HSO⟩ := hcut
              have hsh := co_shared wc _ sb st qa qb (HSS.out wc HFc.out)
              rw [HSO.out] at hsh
              have HSHR := Lib.hid hsh
              have HER := Lib.hid (fun W c (hW : Fr [] wz W) => error_yes c W (HE.out W (HFW.out.trans hW)))
              have HG0 := Lib.hid (fun W (hW : Fr [] wz W) => co_get W _ sb st 0 0 (HSS.out W hW))
              rw [H00.out] at HG0
              have e1 : (ws != ws) = false := by simp
              clear hsh
              go_wp2_with (first
                | (go_at_call 18; (with_reducible refine useC HSHR.out ?_); rintro e w8 ⟨rfl, hf⟩; have HF8 := Lib.hid (HFc.out.trans hf); clear hf)
                | (have h' := HF8; go_at_call 12; (with_reducible refine useC (HER.out w8 ec HF8.out) ?_); rintro e w9 ⟨rfl, hf⟩; have HF9 := Lib.hid (HF8.out.trans hf); clear hf h')
                | (have h' := HF9; go_at_call 16; (with_reducible refine useC (HG0.out w9 HF9.out) ?_); rintro e w10 ⟨rfl, rfl⟩)
                | (have h' := HF9; go_at_call 12; (with_reducible refine useC (HER.out _ 5 HF9.out) ?_); rintro e w11 ⟨rfl, hf⟩; have HF11 := Lib.hid (HF9.out.trans hf); clear hf h'))
              go_ret
              exact ⟨rfl, HFW.out.trans HF11.out⟩
end Go.Proofs.YtokbhiokcoldbaaDoor
