/- The law BtreePlays. -/

import Derived.Test.YtokbhiokcoldbaaDoorBq20
import Derived.Test.YtokbhiokcoldbaaDoorBq21
import Derived.Test.YtokbhiokcoldbaaDoorBq22
import Derived.Test.YtokbhiokcoldbaaDoorBq23
import Derived.Test.YtokbhiokcoldbaaDoorBq24
namespace Go.Proofs.YtokbhiokcoldbaaDoor
open Go.RowKit

theorem BqL.new {w wr : World} {P : Nat → Prop} {p X : Nat} (h : BqI w wr P p X Bt.new Bt.Qt.new (.slice none 0 0) []) : BqL w wr p X (.slice none 0 0) :=
  ⟨P, Bt.new, Bt.Qt.new, [], h, Bt.same_new, Bt.small_new, Nat.le_refl _, List.nodup_nil, rfl, fun x => by simp [Bt.new, Bt.Tree.keys, Bt.all]⟩
set_option maxRecDepth 100000 in
set_option maxHeartbeats 16000000 in
theorem bq_plays (w : World) (v : Value) (g0 : Nat) (l : List Int) (ask : Int) (h : Sl w v g0 l) (hE : ErrType w) :
    Calls Tryd.prog 4 #[v, .int .i64 ask] w (OkT w) := by
  have HE := Lib.hid (fun W (hW : Fr [] w W) => hE.fr hW (by simp))
  obtain ⟨A, o, c, rfl, hm, hA, hc⟩ := h.form
  have HA := Lib.hid hA
  have HC := Lib.hid (fun W (hW : Fr [] w W) i (hi : i < l.length) => hW.cell (hc i hi) (by simp))
  clear hA hc h hE
  go_enter Tryd.func4, Tryd.ntmps4
  go_wp2_with (first
    | (go_at_call 19; (with_reducible refine useC (bt_New w) ?_); rintro e w0 ⟨p, rfl, hs, hf⟩; have HS0 := Lib.hid (BtI2.made (Fr.refl [] w) hs hf); clear hs hf)
    | (have h' := HS0; go_at_call 20; (with_reducible refine useC (bq_NewTree w0) ?_); rintro e w1 ⟨v, rfl, hv, hf⟩; obtain ⟨gk, ck, rfl, hS⟩ := BqI.start HS0.out hv hf; have HS := Lib.hid (BqL.new hS); clear hv hf hS h' HS0))
  revert HS
  generalize w1.alloc (.cells #[.slice (some ⟨gk, 0, none⟩) 1 ck, .int .i64 0] 47) = wA
  generalize w1.heap.size = X at *
  intro HS
  go_loopw [7, 8] (fun hv iv wr => ∃ k : Nat, k ≤ l.length ∧ k ≤ 64 ∧ iv = .int .i64 k ∧ Hid (BqL w wr p X hv)) (fun _ iv _ => 64 - (intOf iv).toNat)
  case atStart => exact ⟨0, Nat.zero_le _, Nat.zero_le _, rfl, HS⟩
  case round =>
    clear HS
    obtain ⟨k, hk, hk64, rfl, hL⟩ := hrel
    obtain ⟨P, s, q, ks, hI, hSame, hsm, hnl, hnd, hkl, hmem⟩ := hL.out
    by_cases hin : k < l.length ∧ k < 64
    · obtain ⟨hlt, h64⟩ := hin
      obtain rfl := HA.out (by omega)
      have i0 : (0 : Int) ≤ k := by omega
      have i1 : (k : Int) < l.length := by omega
      have i4 : (k : Int) < 64 := by omega
      obtain ⟨y, hy⟩ : ∃ y, nth l k = y := ⟨_, rfl⟩
      have HQ : Hid (∀ W, Fr [] w W → W.cell? ⟨g0, o + k, none⟩ = some (.int .i64 y)) := fun W hW => by rw [← hy]; exact HC.out W hW k hlt
      have q0 := HQ.out wr hI.bt.fr
      have HADD := Lib.hid (bt_Add wr P p s y hI.bt.file hI.bt.ok)
      have HER := Lib.hid (fun W c (hW : Fr [] w W) => error_yes c W (HE.out W hW))
      have HI := Lib.hid hI
      have HST := Lib.hid (And.intro hSame (And.intro hsm (And.intro hnl (And.intro hnd (And.intro hkl hmem)))))
      clear hL hI hSame hsm hnl hnd hkl hmem hy
      by_cases hr : 0 ≤ y ∧ y ≤ 1000
      · have hi := decide_eq_true hr
        obtain ⟨A6, c6, hu6⟩ := HI.out.row.form0
        subst hu6
        obtain ⟨gs, -, hss⟩ := HI.out.row.sl
        have HHAS := Lib.hid (has_any wr _ gs ks y hss)
        have hmany := HI.out.bt.ok.many
        have hkl := HST.out.2.2.2.2.1
        have hhs : Bt.has s.d s.t y = hasB ks y := by
          rw [HI.out.bt.ok.has]
          cases hb : hasB ks y with
          | true => unfold hasB at hb; rw [List.contains_iff_mem] at hb; exact decide_eq_true ((HST.out.2.2.2.2.2 y).1 hb)
          | false => refine decide_eq_false (fun hm => ?_); have := (HST.out.2.2.2.2.2 y).2 hm; unfold hasB at hb; rw [Bool.eq_false_iff] at hb; exact hb (List.contains_iff_mem.2 this)
        have hae : Bt.addErr s y = if hasB ks y = true then 6 else if s.many = 60 then 4 else 0 := by unfold Bt.addErr; rw [if_pos hr, hhs]
        clear hss hr
        cases hb : hasB ks y with
        | true =>
        rw [hb] at HHAS
        have ha : Bt.addErr s y = 6 := by rw [hae, hb]; rfl
        have hp : Bt.put s y = s := if_neg (by rw [ha]; decide)
        clear hae hhs hb hkl
        rw [ha, hp] at HADD
        clear ha hp
        go_wp2_with (first
          | (go_at_call 9; (with_reducible refine useC (in3_is y 0 1000 true wr hi) ?_); rintro e wr ⟨rfl, rfl⟩)
          | (go_at_call 21; (with_reducible refine useC HHAS.out ?_); rintro e wr ⟨rfl, rfl⟩)
          | (go_at_call 23; (with_reducible refine useC HADD.out ?_); rintro e w5 ha; obtain ⟨rfl, hs⟩ := HI.out.turn HI.out.bt.ok ha; have H5 := Lib.hid hs; have HE5 := Lib.hid (HER.out w5 6 hs.bt.fr); clear ha hs)
          | (have h' := HE5; go_at_call 12; (with_reducible refine useC HE5.out ?_); rintro e w6 ⟨rfl, hf⟩; have HL6 : Hid (BqL w w6 p X (.slice A6 ks.length c6)) := ⟨_, s, q, ks, H5.out.step hf, HST.out⟩; clear hf h'))
        go_roundw
        case rel => exact ⟨k + 1, by omega, by omega, by go_num, HL6⟩
        case measure => (simp [intOf]; try omega)
        | false =>
        rw [hb] at HHAS
        by_cases h60 : s.many = 60
        · have ha : Bt.addErr s y = 4 := by rw [hae, hb, if_pos h60]; rfl
          have hp : Bt.put s y = s := if_neg (by rw [ha]; decide)
          have hk60 : (60 : Int) ≤ ks.length := by omega
          have hkg : ((ks.length : Int) ≥ 60) = True := eq_true hk60
          clear hae hhs hb hkl h60
          rw [ha, hp] at HADD
          clear ha hp
          go_wp2_with (first
            | (go_at_call 9; (with_reducible refine useC (in3_is y 0 1000 true wr hi) ?_); rintro e wr ⟨rfl, rfl⟩)
            | (go_at_call 21; (with_reducible refine useC HHAS.out ?_); rintro e wr ⟨rfl, rfl⟩)
            | (go_at_call 23; (with_reducible refine useC HADD.out ?_); rintro e w5 ha; obtain ⟨rfl, hs⟩ := HI.out.turn HI.out.bt.ok ha; have H5 := Lib.hid hs; have HE5 := Lib.hid (HER.out w5 4 hs.bt.fr); clear ha hs)
            | (have h' := HE5; go_at_call 12; (with_reducible refine useC HE5.out ?_); rintro e w6 ⟨rfl, hf⟩; have HL6 : Hid (BqL w w6 p X (.slice A6 ks.length c6)) := ⟨_, s, q, ks, H5.out.step hf, HST.out⟩; clear hf h'))
          go_roundw
          case rel => exact ⟨k + 1, by omega, by omega, by go_num, HL6⟩
          case measure => (simp [intOf]; try omega)
        · have ha : Bt.addErr s y = 0 := by rw [hae, hb, if_neg h60]; rfl
          have hk60 : ¬ (60 : Int) ≤ ks.length := by omega
          have hkg : ((ks.length : Int) ≥ 60) = False := eq_false hk60
          have hO := HI.out.bt.ok
          have hdp := hO.deep
          have hny : y ∉ ks := fun hm => by have := List.contains_iff_mem.2 hm; unfold hasB at hb; rw [this] at hb; cases hb
          obtain ⟨F, hrep, hnF⟩ := id HST.out.1
          have hsmall : Bt.Small 900 q.ns := HST.out.2.1.mono (by omega)
          have hnl := HST.out.2.2.1
          have HXA := Lib.hid (fun W G' v' (h1 : BqV G' W v' q) (h2 : ∀ k, W.heap.size ≤ k → G' k) => bq_Add W G' v' q s.d _ s.t F y h1 hrep hnF hO.ok hO.up (Bt.put_keys hO ha).2 (by omega) (by omega) hsmall h2)
          have HAT := Lib.hid (fun W (hW : BtI2 w W P p s) => bt_Add W P p s y hW.file hW.ok)
          rw [ha] at HAT
          have hNEW : Bt.Same (Bt.put s y) (q.put s.d y) ∧ Bt.Small (4 * (Bt.put s y).many) (q.put s.d y).ns ∧ (q.put s.d y).ns.length ≤ 5 * (Bt.put s y).many + 1 ∧ (ks ++ [y]).Nodup ∧ (ks ++ [y]).length = (Bt.put s y).many ∧ ∀ x, x ∈ ks ++ [y] ↔ x ∈ (Bt.put s y).keys := by
            have hm := Bt.put_many ha
            obtain ⟨h1, h2⟩ := Bt.small_put HST.out.2.1 hdp y
            refine ⟨Bt.same_put HST.out.1 hO ha, h1.mono (by omega), by omega, ?_, by rw [List.length_append, List.length_singleton]; omega, fun x => ?_⟩
            · refine List.nodup_append.2 ⟨HST.out.2.2.2.1, by simp, fun a q1 b q2 e => ?_⟩
              rw [List.mem_singleton] at q2
              rw [e, q2] at q1
              exact hny q1
            · rw [(Bt.put_keys hO ha).1, Bt.mem_insS, List.mem_append, List.mem_singleton, HST.out.2.2.2.2.2 x]
              exact ⟨fun h => h.symm, fun h => h.symm⟩
          have HNEW := Lib.hid hNEW
          have HOP := Lib.hid (hO.put y)
          have hkl2 : ks.length < 1000000 := by omega
          clear hae hhs hb hkl h60 ha hNEW hO hdp hny hrep hnF hsmall hnl
          generalize Bt.put s y = s' at *
          generalize q.put s.d y = q' at *
          go_upto_region 15 with (first
            | (go_at_call 9; (with_reducible refine useC (in3_is y 0 1000 true wr hi) ?_); rintro e wr ⟨rfl, rfl⟩)
            | (go_at_call 21; (with_reducible refine useC HHAS.out ?_); rintro e wr ⟨rfl, rfl⟩)
            | (have h' := HI; at_builtin; refine wpList_push_int2 (wr := wr) Tryd.intT rfl _ _ rfl w.heap.size _ ks rfl HI.out.row rfl hkl2 HI.out.bt.fr.size ?_; intro v' w2 h1 hg hm; have HI2 := Lib.hid (HI.out.push h1 hg hm (Nat.le_succ _)); clear h1 hg hm h'))
          obtain ⟨A7, c7, hu7⟩ := HI2.out.row.form0
          subst hu7
          obtain ⟨gx, cx, hvx, hxx⟩ := HI2.out.val
          have hd := (Fr.refl [] w2).drew
          have HXC := Lib.hid (HXA.out w2.drew _ _ (hvx.step hd) (HI2.out.step hd).new)
          have HID := Lib.hid (HI2.out.step hd)
          obtain ⟨⟨b0, b1⟩, hfx⟩ := hxx w2 (Fr.refl _ _)
          have q2 := HQ.out w2 HI2.out.bt.fr
          clear hvx hxx hd
          (refine wp_region_mixq 5 [(true, 0), (true, 1), (true, 2), (true, 3), (true, 4)] (by kernel_rfl) (by kernel_rfl) ?_; simp only [pickOps, List.map_cons, List.map_nil, List.getD_cons_zero, List.getD_cons_succ, List.drop_succ_cons, List.drop_zero]; (iterate 5 (first | (refine wpMix_take (v := ?_) (by rfl) ?_ ?_; rotate_left; (focus (intro W hW; subst hW; go_simp; (try with_reducible rfl); done)); try simp only [Act.put, List.setIfInBounds_toArray, List.set_cons_zero, List.set_cons_succ]) | (refine wpMix_leave (by rfl) ?_; try simp only [Act.put, List.setIfInBounds_toArray, List.set_cons_zero, List.set_cons_succ]))); refine wpMix_nil ?_)
          go_upto_region 16 with (go_at_call 22; (refine useC HXC.out ?_); rintro e w3 ⟨v3, rfl, hv3, hf3⟩; obtain ⟨g3, c3, hv', -⟩ := hv3.form; subst hv'; have HI3 := Lib.hid (HID.out.step hf3); have hs4 := HID.out.put hf3 hv3; unfold bqSet at hs4; have HI4 := Lib.hid hs4; obtain ⟨_, _, -, hx3⟩ := HI3.out.val; clear hs4 hv3 hf3 b0 b1 hfx; obtain ⟨⟨b0, b1⟩, hfx⟩ := hx3 w3 (Fr.refl _ _); clear hx3)
          revert HI4
          generalize (w3.setCell ⟨X, 0, none⟩ (.slice (some ⟨g3, 0, none⟩) q'.ns.length c3)).setCell ⟨X, 1, none⟩ (.int .i64 (q'.root : Int)) = w4
          intro HI4
          clear b0 b1 hfx
          have q4 := HQ.out w4 HI4.out.bt.fr
          have HAD := Lib.hid (HAT.out w4 HI4.out.bt)
          go_wp2_with (first
            | (go_at_call 23; (with_reducible refine useC HAD.out ?_); rintro e w5 ha; obtain ⟨rfl, hs⟩ := HI4.out.turn HOP.out ha; have H5 := Lib.hid hs; have HE5 := Lib.hid (HER.out w5 0 hs.bt.fr); clear ha hs)
            | (have h' := HE5; go_at_call 12; (with_reducible refine useC HE5.out ?_); rintro e w6 ⟨rfl, hf⟩; have HL6 : Hid (BqL w w6 p X (.slice A7 (ks ++ [y]).length c7)) := ⟨_, s', q', ks ++ [y], H5.out.step hf, HNEW.out⟩; clear hf h'))
          rw [show (ks ++ [y]).length = ks.length + 1 by simp] at HL6
          go_roundw
          case rel => exact ⟨k + 1, by omega, by omega, by go_num, HL6⟩
          case measure => (simp [intOf]; try omega)
      · have ha : Bt.addErr s y = 1 := if_neg hr
        have hp : Bt.put s y = s := if_neg (by rw [ha]; decide)
        rw [ha, hp] at HADD
        have hi := decide_eq_false hr
        clear ha hp hr
        go_wp2_with (first
          | (go_at_call 9; (with_reducible refine useC (in3_is y 0 1000 false wr hi) ?_); rintro e wr ⟨rfl, rfl⟩)
          | (go_at_call 23; (with_reducible refine useC HADD.out ?_); rintro e w5 ha; obtain ⟨rfl, hs⟩ := HI.out.turn HI.out.bt.ok ha; have H5 := Lib.hid hs; have HE5 := Lib.hid (HER.out w5 1 hs.bt.fr); clear ha hs)
          | (have h' := HE5; go_at_call 12; (with_reducible refine useC HE5.out ?_); rintro e w6 ⟨rfl, hf⟩; have HL6 : Hid (BqL w w6 p X u7) := ⟨_, s, q, ks, H5.out.step hf, HST.out⟩; clear hf h'))
        go_roundw
        case rel => exact ⟨k + 1, by omega, by omega, by go_num, HL6⟩
        case measure => (simp [intOf]; try omega)
    · have hO := hI.bt.ok
      have hdp := hO.deep
      have hmany := hO.many
      obtain ⟨A6, c6, hu6⟩ := hI.row.form0
      subst hu6
      obtain ⟨gs, -, hss⟩ := hI.row.sl
      have hend : Hid (¬ ((k : Int) < l.length) ∨ ((k : Int) < l.length ∧ ¬ (k : Int) < 64)) := by
        by_cases h : k < l.length
        · exact .inr ⟨by omega, by omega⟩
        · exact .inl (by omega)
      obtain ⟨wz, hwz⟩ : ∃ x, x = wr := ⟨_, rfl⟩
      subst hwz
      have HLO := Lib.hid (fun k => Bt.same_lvOk hSame hO (hsm.mono (by omega)) k)
      have HLE : Hid (∀ k, Bt.rowsN q.ns (Bt.lvN q.ns k [q.root]) = Bt.level s k) := fun k => Bt.same_level hSame k
      have HHA := Lib.hid (fun k => Bt.level_has hO k)
      obtain ⟨gx, cx, hvx, hxx⟩ := hI.val
      have HXX := Lib.hid (fun W (hW : Fr [] wz W) => (hxx W hW).1)
      have HLV : Hid (∀ W, Fr [] wz W → ∀ k : Nat, k ≤ 10 → Calls Tryd.prog 24 #[.agg #[.slice (some ⟨gx, 0, none⟩) q.ns.length cx, .int .i64 (q.root : Int)], .int .i64 k] W (NewRow (intsN (Bt.lvN q.ns k [q.root])) W)) := fun W hW k hk => bq_Level W _ _ q k (hvx.step hW) (by omega) hk (fun i _ => HLO.out i)
      have HBL : Hid (∀ W, Fr [] wz W → ∀ k : Nat, k ≤ 10 → Calls Tryd.prog 26 #[.pointer (some ⟨p, 0, none⟩), .int .i64 k] W (BtLv (Bt.level s k) W)) := fun W hW k hk => by
        have h1 := bt_Level W P p s k (hI.step hW).bt.file hO (by omega)
        rw [Bt.level_if] at h1
        exact h1
      have HL0 : Hid (∀ W, Fr [] wz W → Calls Tryd.prog 26 #[.pointer (some ⟨p, 0, none⟩), .int .i64 (-1)] W (BtLv [] W)) := fun W hW => by
        have h1 := bt_Level W P p s (-1) (hI.step hW).bt.file hO (by omega)
        rw [if_pos (by decide)] at h1
        exact h1
      obtain ⟨av, e0, k1⟩ := id hvx
      simp only [Value.agg.injEq, Array.mk.injEq, List.cons.injEq] at e0
      obtain ⟨rfl, -⟩ := e0
      obtain ⟨vs, -, hS⟩ := k1.op
      have HS := Lib.hid hS
      have HHT := Lib.hid (fun W (hW : Fr [] wz W) => bt_Height W P p s (hI.step hW).bt.file hO)
      have hhs : Bt.has s.d s.t ask = hasB ks ask := by
        rw [hO.has]
        cases hb : hasB ks ask with
        | true => unfold hasB at hb; rw [List.contains_iff_mem] at hb; exact decide_eq_true ((hmem ask).1 hb)
        | false => refine decide_eq_false (fun hm => ?_); have := (hmem ask).2 hm; unfold hasB at hb; rw [Bool.eq_false_iff] at hb; exact hb (List.contains_iff_mem.2 this)
      have HHS : Hid (∀ W, Fr [] wz W → Calls Tryd.prog 28 #[.pointer (some ⟨p, 0, none⟩), .int .i64 ask] W fun e w' => e = .returned (.bool (hasB ks ask)) ∧ Fr [] W w') := fun W hW => by rw [← hhs]; exact bt_Has W P p s ask (hI.step hW).bt.file hO
      have HRH := Lib.hid (fun W (hW : Fr [] wz W) => has_any W _ gs ks ask (hss.fr hW (by simp)))
      have HKY := Lib.hid (fun W (hW : Fr [] wz W) => bt_Keys W P p s (hI.step hW).bt.file hO)
      have hri : rise ks = Bt.all s.d s.t := rise_eq hO.up ((List.perm_ext_iff_of_nodup (hO.up.imp (fun h => Int.ne_of_lt h)) hnd).2 (fun x => (hmem x).symm))
      have HRI : Hid (∀ W, Fr [] wz W → Calls Tryd.prog 15 #[.slice A6 ks.length c6] W (NewRow (Bt.all s.d s.t) W)) := fun W hW => by
        rw [← hri]
        have h1 := hss.fr hW (by simp)
        exact rising_any W _ gs ks h1 (sl_lt h1) (by omega)
      have HF0 : Hid (Fr [] wz wz) := Fr.refl _ _
      have HFW := Lib.hid hI.bt.fr
      have hnl0 : q.ns.length ≤ 400 := by omega
      generalize Bt.all s.d s.t = KK at *
      generalize hasB ks ask = bb at *
      clear hri hhs hS k1 hvx hxx hss hL hI hSame hsm hnd hmem hnl hkl hmany hO
      rcases hend.out with j1 | ⟨j1, j2⟩
      all_goals
        clear hend
        go_wp2_with fail
        go_loopw [10, 11] (fun hcv kv wr => ∃ k : Nat, k ≤ 6 ∧ kv = .int .i64 k ∧ hcv = .int .i64 ((min k (s.d + 1) : Nat) : Int) ∧ Hid (Fr [] wz wr)) (fun _ kv _ => 6 - (intOf kv).toNat)
        case atStart => exact ⟨0, Nat.zero_le _, rfl, (by rw [Nat.zero_min]; rfl), HF0⟩
        case round =>
          clear HF0
          obtain ⟨k, hk, rfl, rfl, hF⟩ := hrel
          by_cases hlt : k < 6
          · have kI : (k : Int) < 6 := by omega
            have k0 : (0 : Int) ≤ k := by omega
            obtain ⟨b0, b1⟩ := HXX.out wr hF.out
            have HL1 := Lib.hid (HLV.out wr hF.out k (by omega))
            have HBL1 := Lib.hid (fun W (hW : Fr [] wz W) => HBL.out W hW k (by omega))
            have HLO1 := Lib.hid (HLO.out k)
            have hle := HLE.out k
            have hha := HHA.out k
            rw [← hle] at HBL1 hha
            obtain ⟨a, ha⟩ : ∃ a, Bt.lvN q.ns k [q.root] = a := ⟨_, rfl⟩
            rw [ha] at HL1 HLO1 HBL1 hha
            have hal := HLO1.out.1
            have hrl : (Bt.rowsN q.ns a).length = a.length := List.length_map ..
            rw [hrl] at hha
            have HRL := Lib.hid hrl
            clear hle ha hrl
            go_wp2_with (go_at_call 24; (refine useC HL1.out ?_); intro e w3 hn; obtain ⟨A3, g3, o3, c3, rfl, hA3, hc3, hf3⟩ := hn.nat; have HA3 := Lib.hid hA3; have HC3 := Lib.hid (fun W (hW : Fr [] w3 W) i (hi : i < a.length) => hW.cell (hc3 i hi) (by simp)); have HF3 := Lib.hid (hF.out.trans hf3); clear hn hA3 hc3 hf3)
            clear b0 b1
            have HE0 : Hid (BqE w3 w3 (.slice none 0 0) (Bt.rowsN q.ns a) 0) := BqE.start _ _
            go_loopw [13, 14] (fun uv iv wr => ∃ i : Nat, i ≤ a.length ∧ iv = .int .i64 i ∧ ∃ (A2 : Option Addr) (c2 : Nat), uv = .slice A2 i c2 ∧ Hid (BqE w3 wr (.slice A2 i c2) (Bt.rowsN q.ns a) i)) (fun _ iv _ => a.length - (intOf iv).toNat)
            case atStart => exact ⟨0, Nat.zero_le _, rfl, none, 0, rfl, HE0⟩
            case round =>
              clear HE0
              obtain ⟨i, hi, rfl, A2, c2, rfl, hJ⟩ := hrel
              by_cases hil : i < a.length
              · have iI : (i : Int) < a.length := by omega
                have i0 : (0 : Int) ≤ i := by omega
                obtain rfl := HA3.out (by omega)
                obtain ⟨⟨vs2, hvr, hvl, hve⟩, hfr⟩ := hJ.out
                have hjm : a[i] ∈ a := List.getElem_mem hil
                obtain ⟨hx, -, -⟩ := HLO1.out.2 _ hjm
                have hrow := Bt.rowsN_at (ns := q.ns) hil
                have hq := fun W (hW : Fr [] wr W) => HC3.out W (hfr.trans hW) i hil
                generalize a[i] = x at *
                have x0 : (0 : Int) ≤ x := by omega
                have xI : (x : Int) < q.ns.length := by omega
                obtain ⟨A5, k5, A8, k8, n0, -, r0, -⟩ := HS.out.at hx
                obtain ⟨gy, -, hsy⟩ := r0.step HF3.out
                rw [← hrow] at n0 hsy
                have hFd := HF3.out.trans hfr
                have HNX : Hid (∀ w2 W u', Fr [] wr w2 → OwnR slE W w3.heap.size 25 u' (vs2 ++ [⟨A5, ((Bt.rowsN q.ns a).getD i []).length, k5⟩]) → w2.grownBy W (Value.slice A2 i c2).ownBlock → BqE w3 W u' (Bt.rowsN q.ns a) (i + 1)) := fun w2 W u' j1 j3 j4 => BqE.next (y := ⟨A5, ((Bt.rowsN q.ns a).getD i []).length, k5⟩) hvr hvl hve hfr j1 rfl hsy j3 j4
                have HQ := Lib.hid (fun W (hW : Fr [] wr W) => And.intro (HXX.out W (hFd.trans hW)) (And.intro (hq W hW) ((hFd.trans hW).cell n0 (by simp))))
                have HV2 := Lib.hid (hvr.kept ((Fr.refl [] wr).drew) (by simp))
                have hz2 : w3.heap.size ≤ wr.drew.heap.size := (hfr.trans ((Fr.refl [] wr).drew)).size
                have HVL := Lib.hid hvl
                generalize ((Bt.rowsN q.ns a).getD i []).length = L5 at *
                clear hrow hsy n0 r0 hq hvr hvl hve hJ hfr hFd hjm hx
                go_wp2_with fail
                (refine wp_region_mix (Fr [] wr ·) 11 [(true, 0), (true, 1), (true, 2), (true, 3), (true, 4), (true, 5), (true, 6), (true, 7), (true, 8), (true, 9), (false, 10)] (by kernel_rfl) (by kernel_rfl) ((Fr.refl _ _).drew) ?_; simp only [pickOps, List.map_cons, List.map_nil, List.getD_cons_zero, List.getD_cons_succ, List.drop_succ_cons, List.drop_zero])
                (iterate 10 (first | (refine wpMix_take (v := ?_) (by rfl) ?_ ?_; rotate_left; (focus (intro W hW; obtain ⟨⟨b0, b1⟩, q1, q2⟩ := HQ.out W hW; go_simp; (try with_reducible rfl); done)); try simp only [Act.put, List.setIfInBounds_toArray, List.set_cons_zero, List.set_cons_succ]) | (refine wpMix_leave (by rfl) ?_; try simp only [Act.put, List.setIfInBounds_toArray, List.set_cons_zero, List.set_cons_succ])))
                refine wpMix_walk ?_
                go_wp2
                refine MixQ.mk (((Fr.refl _ _).drew).alloc _) ?_
                refine wpMix_nil ?_
                go_wp2_with (at_builtin; refine wpList_push_enc2 (E := slE) (y := ⟨A5, L5, k5⟩) (wr := wr.drew) und_sl info_sl rfl (by decide) rfl _ _ rfl w3.heap.size _ vs2 rfl rfl HV2.out rfl (by have := HVL.out; omega) hz2 ?_; intro v' w5 h1 h2 h3; have hnx := HNX.out wr.drew w5 v' ((Fr.refl [] wr).drew) h1 h2; obtain ⟨A9, c9, hv9, -⟩ := h1.form'; rw [List.length_append, HVL.out] at hv9; subst hv9; have HNX2 : Hid (BqE w3 w5 (.slice A9 (i + 1) c9) (Bt.rowsN q.ns a) (i + 1)) := hnx; clear h1 h2 h3 hnx)
                go_roundw
                case rel => exact ⟨i + 1, by omega, by go_num, A9, c9, rfl, HNX2⟩
                case measure => (simp [intOf]; try omega)
              · obtain rfl : i = a.length := by omega
                have iI : ¬ ((a.length : Nat) : Int) < a.length := by omega
                have HRR := Lib.hid (hJ.out.rr HRL.out)
                have HF4 := Lib.hid (HF3.out.trans hJ.out.fr)
                have HLB : (Bt.rowsN q.ns a).length ≤ 1000 := by rw [HRL.out]; omega
                clear hJ hil hi
                by_cases h0 : 0 < a.length
                · have hgt : ((a.length : Int) > 0) = True := eq_true (by omega)
                  have hmn : ((min k (s.d + 1) : Nat) : Int) + 1 = ((min (k + 1) (s.d + 1) : Nat) : Int) := by have := hha.1 h0; omega
                  have HMN := Lib.hid hmn
                  have hmw : IntKind.i64.wrap (((min k (s.d + 1) : Nat) : Int) + 1) = ((min k (s.d + 1) : Nat) : Int) + 1 := by rw [IntKind.wrap_i64]; omega
                  clear hmn hha
                  generalize min k (s.d + 1) = M1 at *
                  go_wp2_with (first
                    | (go_at_call 26; (with_reducible refine useC (HBL1.out wr HF4.out) ?_); intro e w5 hlv; obtain ⟨v5, rfl, hr5, hf5⟩ := hlv.rr; have HR5 := Lib.hid (rows_same w5 v5 _ _ hr5 (HRR.out.keep hf5) HLB); have HF5 := Lib.hid (HF4.out.trans hf5); clear hlv hr5 hf5)
                    | (have h' := HR5; go_at_call 25; (with_reducible refine useC HR5.out ?_); rintro e w6 ⟨rfl, hf6⟩; have HF6 := Lib.hid (HF5.out.trans hf6); clear hf6 h'))
                  go_roundw
                  case rel => exact ⟨k + 1, by omega, by go_num, by rw [HMN.out], HF6⟩
                  case measure => (simp [intOf]; try omega)
                · have hgt : ((a.length : Int) > 0) = False := eq_false (by omega)
                  have hmn : min k (s.d + 1) = min (k + 1) (s.d + 1) := by have := mt hha.2 h0; omega
                  have HMN := Lib.hid hmn
                  clear hmn hha
                  generalize min k (s.d + 1) = M1 at *
                  go_wp2_with (first
                    | (go_at_call 26; (with_reducible refine useC (HBL1.out wr HF4.out) ?_); intro e w5 hlv; obtain ⟨v5, rfl, hr5, hf5⟩ := hlv.rr; have HR5 := Lib.hid (rows_same w5 v5 _ _ hr5 (HRR.out.keep hf5) HLB); have HF5 := Lib.hid (HF4.out.trans hf5); clear hlv hr5 hf5)
                    | (have h' := HR5; go_at_call 25; (with_reducible refine useC HR5.out ?_); rintro e w6 ⟨rfl, hf6⟩; have HF6 := Lib.hid (HF5.out.trans hf6); clear hf6 h'))
                  go_roundw
                  case rel => exact ⟨k + 1, by omega, by go_num, by rw [HMN.out], HF6⟩
                  case measure => (simp [intOf]; try omega)
          · have kI : ¬ (k : Int) < 6 := by omega
            have hm6 : ((min k (s.d + 1) : Nat) : Int) = (s.d : Int) + 1 := by omega
            rw [hm6]
            clear hm6 hlt hk
            have e1 : ((s.d : Int) + 1 == (s.d : Int) + 1) = true := beq_self_eq_true _
            have e2 : (bb == bb) = true := beq_self_eq_true _
            go_wp2_with (first
              | (go_at_call 27; (with_reducible refine useC (HHT.out wr hF.out) ?_); rintro e w4 ⟨rfl, rfl⟩)
              | (go_at_call 26; (with_reducible refine useC (HL0.out _ hF.out) ?_); intro e w5 hlv; obtain ⟨v5, rfl, hr5, hf5⟩ := hlv.rr; obtain ⟨A7, g7, c7, rfl, -⟩ := hr5; have HF5 := Lib.hid (hF.out.trans hf5); clear hlv hf5)
              | (have h' := HF5; go_at_call 28; (with_reducible refine useC (HHS.out w5 HF5.out) ?_); rintro e w6 ⟨rfl, hf⟩; have HF6 := Lib.hid (HF5.out.trans hf); clear hf h')
              | (have h' := HF6; go_at_call 21; (with_reducible refine useC (HRH.out w6 HF6.out) ?_); rintro e w6 ⟨rfl, rfl⟩)
              | (have h' := HF6; go_at_call 29; (with_reducible refine useC (HKY.out _ HF6.out) ?_); rintro e w7 ⟨v7, rfl, ho7, hf⟩; have HF7 := Lib.hid (HF6.out.trans hf); obtain ⟨g7, -, hs7⟩ := ho7.sl; have HS7 := Lib.hid hs7; clear hf ho7 hs7 h')
              | (have h' := HF7; go_at_call 15; (with_reducible refine useC (HRI.out w7 HF7.out) ?_); rintro e w8 ⟨v8, g8, rfl, -, hs8, hf⟩; have HF8 := Lib.hid (HF7.out.trans hf); have HII := Lib.hid (ints_same w8 v7 v8 _ _ _ (HS7.out.fr hf (by simp)) hs8); clear hf hs8 h')
              | (have h' := HII; go_at_call 14; (with_reducible refine useC HII.out ?_); rintro e w9 ⟨rfl, hd⟩; have HF9 := Lib.hid (HF8.out.trans (hd.fr [])); clear hd h'))
            go_ret
            exact ⟨rfl, HFW.out.trans HF9.out⟩
end Go.Proofs.YtokbhiokcoldbaaDoor
