/- The law TreeWhole. -/

import Derived.Test.YtnglhfeialomgaaDoorTw26
import Derived.Test.YtnglhfeialomgaaDoorTw27
import Derived.Test.YtnglhfeialomgaaDoorTw28
namespace Go.Proofs.YtnglhfeialomgaaDoor
open Go.RowKit

/-- The rounds' memory. -/
structure WhI (w wr : World) (tb : Nat) (g : Tr.G) (dom : Nat → Prop) (v : Value) (gv : Nat) (l : List (List UInt8)) : Prop where
  L : TrL w wr tb g dom 80
  s : SlR strE wr v gv l
theorem WhI.step {w wr wr' : World} {tb : Nat} {g : Tr.G} {dom : Nat → Prop} {v : Value} {gv : Nat} {l : List (List UInt8)} (h : WhI w wr tb g dom v gv l) (hf : Fr [] wr wr') : WhI w wr' tb g dom v gv l := ⟨h.L.step hf, slR_fr h.s hf⟩
theorem slR_take {w : World} {A : Option Addr} {c g q N : Nat} {p : List Tr.Nme} {x : Tr.Nme} (h : SlR strE w (.slice A N c) g (p ++ [x])) (hq : p.length = q) : SlR strE w (.slice A q c) g p := by
  subst hq
  rcases h with ⟨h, -⟩ | ⟨o, c', e, h1, h2, h3⟩
  · exact absurd h (by simp)
  · injection e with e1 e2 e3
    subst e1 e3
    rcases List.eq_nil_or_concat p with rfl | _
    · exact .inl ⟨rfl, _, _, rfl⟩
    · refine .inr ⟨o, c, rfl, by rw [List.length_append] at h1; omega, h2, fun i hi r hr => ?_⟩
      have := h3 i (by rw [List.length_append]; omega) r hr
      rw [this, List.getElem_append_left hi]
/-- What is found among the names so far. -/
def hasS (l : List (List UInt8)) (x : List UInt8) (k : Nat) : Bool := (l.take k).contains x
theorem hasS_zero (l : List (List UInt8)) (x : List UInt8) : hasS l x 0 = false := rfl
theorem hasS_succ {l : List (List UInt8)} {k : Nat} (h : k < l.length) (x : List UInt8) : hasS l x (k + 1) = (hasS l x k || (l[k] == x)) := by
  unfold hasS
  rw [List.take_succ_eq_append_getElem h]
  simp only [List.contains_eq_mem, List.mem_append, List.mem_singleton]
  by_cases h1 : x ∈ l.take k
  · simp [h1]
  · by_cases h2 : x = l[k]
    · simp [h2]
    · simp [h1, h2, Ne.symm h2]
theorem hasS_all {l : List (List UInt8)} {x : List UInt8} (h : x ∈ l) : hasS l x l.length = true := by
  unfold hasS
  rw [List.take_length]
  simpa using h
set_option maxRecDepth 100000 in
set_option maxHeartbeats 8000000 in
theorem tree_whole (w : World) (v : Value) (ls : List (List (List UInt8))) (hR : RwT w v ls) :
    Calls Tryd.prog 6 #[v] w (OkT w) := by
  have HF := Lib.hid (tr_fact w)
  have HG := Lib.hid (fun w1 hf => tr_grown w w1 v ls hR hf)
  obtain ⟨A, g0, o, c, rfl, -⟩ := hR
  go_enter Tryd.func6, Tryd.ntmps6
  go_upto_region 5 with (first
    | (go_at_call 8; (with_reducible refine useC HF.out ?_); rintro e w1 ⟨rfl, hf⟩; have HF1 := Lib.hid hf; clear hf)
    | (go_at_call 9; (with_reducible refine useC (HG.out w1 HF1.out) ?_); rintro e w2 ⟨tb, g, dom, rfl, h⟩; have HL2 := Lib.hid h; clear h))
  have HW2 := Lib.hid (trl_Walk HL2.out)
  have HM2 := Lib.hid HL2.out.s.many
  go_upto_region 6 with (go_at_call 11; (with_reducible refine useC HW2.out ?_); rintro e w3 ⟨v1, l1, gv1, rfl, -, hs, hw, hlen, -, h⟩; obtain ⟨A1, o1, c1, rfl, -⟩ := strs_cell hs; have hl24 : l1.length ≤ 24 := (by have := HM2.out; omega); have HW3 : Hid (WhI w w3 tb g dom (.slice A1 l1.length c1) gv1 l1) := ⟨h, hs⟩; have HWI := Lib.hid hw; have HOK := Lib.hid h.s.ok; clear hs hw h hlen)
  have h24 : ¬ (24 : Int) < l1.length := by omega
  go_wp2_with fail
  go_loopw [6] (fun iv wr => ∃ k : Nat, k ≤ l1.length ∧ iv = .int .i64 k ∧ Hid (WhI w wr tb g dom (.slice A1 l1.length c1) gv1 l1)) (fun iv _ => 30 - (intOf iv).toNat)
  case atStart => exact ⟨0, Nat.zero_le _, rfl, HW3⟩
  case round =>
    clear HW3
    obtain ⟨k, hk, rfl, HI⟩ := hrel
    obtain ⟨W0, hW0⟩ : ∃ x, x = wr := ⟨_, rfl⟩
    subst hW0
    have i0 : (0 : Int) ≤ k := by omega
    have kw : IntKind.i64.wrap ((k : Int) + 1) = (k : Int) + 1 := by rw [IntKind.wrap_i64]; omega
    by_cases hlt : k < l1.length
    · have i1 : (k : Int) < l1.length := by omega
      obtain ⟨A9, o9, c9, e9, -, -, hA9, hc9⟩ := strs_cell HI.out.s
      injection e9 with e9 _ e9c
      subst e9 e9c
      obtain rfl := hA9 (by omega)
      have HCELL := Lib.hid hc9
      have HINA := Lib.hid ((HWI.out.2 _).1 (List.getElem_mem hlt))
      have HLTS : Hid (∀ (j : Nat) (hj : j < l1.length), k = j + 1 → l1[j] < l1[k]) := fun j hj e => List.pairwise_iff_getElem.1 HWI.out.1 j k hj hlt (by omega)
      obtain ⟨P, x, d, cn, m, b, TA⟩ := Tr.tw_of HOK.out HINA.out
      have HT := Lib.hid TA
      have na : l1[k] ≠ [] := fun e => by have := TA.parts; rw [e] at this; exact absurd (show (2 : Int) = 0 from congrArg Prod.snd this) (by decide)
      obtain ⟨n, hn, y, s1, hy, hy47⟩ := last_byte na
      have la := TA.len
      have s2 : IntKind.i64.wrap (n : Int) = n := by rw [IntKind.wrap_i64]; have := Pa.mk_size l1[k]; omega
      have s0 : (0 : Int) ≤ n := by omega
      have hyb : (y == 47) = b := by
        have h1 := hy47.trans TA.last
        cases b with
        | true => simpa using h1.2 rfl
        | false => exact beq_eq_false_iff_ne.2 (fun e => by have := h1.1 e; cases this)
      obtain ⟨q, hq⟩ : ∃ q, P.length = q := ⟨_, rfl⟩
      have HQ := Lib.hid hq
      obtain ⟨N, hN⟩ : ∃ N, N = q + 1 := ⟨_, rfl⟩
      have HPP : Hid (∀ W, Calls Tryd.prog 19 #[.string (Pa.mk l1[k])] W fun e w' => ∃ A g c o, e = .returned (.tuple #[.slice A N c, .nilIface]) ∧ SlR strE w' (.slice A N c) g (P ++ [x]) ∧ q ≤ c ∧ A = some ⟨g, o, none⟩ ∧ w'.cell? ⟨g, o + q, none⟩ = some (.string (Pa.mk x)) ∧ Fr [] W w') := fun W => (pa_Parts _ W).mono fun e w' h => by
        unfold PaP at h
        rw [Pa.mk_list, HT.out.parts] at h
        obtain ⟨v, g7, he, hs, hf⟩ := h
        have hs : SlR strE w' v g7 (P ++ [x]) := hs
        have he : e = .returned (.tuple #[v, .nilIface]) := he
        obtain ⟨A7, o7, c7, hv, -, hcap, hA7, hc7⟩ := strs_cell hs
        have hl : (P ++ [x]).length = N := by rw [List.length_append, hq, hN]; rfl
        have h7 := hc7 q (by omega)
        have hx7 : (P ++ [x])[q]'(by omega) = x := by subst hq; simp
        rw [hx7] at h7
        subst hv
        rw [hl] at he hs hcap hA7
        exact ⟨A7, g7, c7, o7, he, hs, by omega, hA7 (by omega), h7, hf⟩
      have HSH1 := Lib.hid (fun W v g (h : SlR strE W v g (P ++ [x])) => pa_Shown W v g _ h (by have := HT.out.long; omega))
      have HSH2 := Lib.hid (fun W v g (h : SlR strE W v g P) => pa_Shown W v g _ h (by have := HT.out.longP; omega))
      have HLP : Hid (∀ W, Fr [] W0 W → Calls Tryd.prog 21 #[.pointer (some ⟨tb, 0, none⟩), .string (Pa.mk (Pa.shown P))] W fun e w' => ∃ v gv l, e = .returned (.tuple #[v, .nilIface]) ∧ SlR strE w' v gv l ∧ x ∈ l ∧ l.length ≤ 100000 ∧ Fr [] W w') := fun W hW =>
        (trl_List (HI.out.L.step hW) (by decide) (Pa.mk (Pa.shown P))).mono fun e w' ⟨h, _⟩ => by
          rw [Pa.mk_list] at h
          have h2 := h.at_ HT.out.atP
          rw [HT.out.em] at h2
          obtain ⟨v, gv, l, h3, -, h4, -, h5, h6⟩ := h2
          exact ⟨v, gv, l, h3, h4, (h5 x).2 (by rw [HT.out.mx]; rfl), h6, h.1⟩
      have HLS : Hid (∀ W, Fr [] W0 W → Calls Tryd.prog 21 #[.pointer (some ⟨tb, 0, none⟩), .string (Pa.mk l1[k])] W fun e w' => (b = true → ∃ v, e = .returned (.tuple #[v, .nilIface])) ∧ (b = false → e = .returned (.tuple #[.slice none 0 0, .iface 57 (.int .i64 3)])) ∧ Fr [] W w') := fun W hW =>
        (trl_List (HI.out.L.step hW) (by decide) (Pa.mk l1[k])).mono fun e w' ⟨h, _⟩ => by
          rw [Pa.mk_list] at h
          have h2 := h.at_ HT.out.atS
          have h3 := HT.out.isD
          refine ⟨fun hb => ?_, fun hb => ?_, h.1⟩
          · rw [hb] at h3
            obtain ⟨m2, hm2⟩ := Option.isSome_iff_exists.1 h3
            rw [hm2] at h2
            obtain ⟨v, gv, l, h4, -⟩ := h2
            exact ⟨v, h4⟩
          · rw [hb] at h3
            have hm2 : g.ent cn = none := by simpa using h3
            rw [hm2] at h2
            exact h2
      have hTX : Pa.mk (Pa.shown (P ++ [x])) ++ (if b = true then (⟨#[47]⟩ : ByteArray) else ⟨#[]⟩) = Pa.mk l1[k] := by
        have := HT.out.txt
        rw [this]
        cases b with
        | true => exact mk_append _ [47]
        | false => exact mk_append _ []
      have hsz : (Pa.mk (Pa.shown (P ++ [x]))).size ≤ 100000 := by
        have h1 := congrArg List.length HT.out.txt
        have h2 := HT.out.len
        rw [List.length_append] at h1
        rw [Pa.mk_size]
        omega
      have ca := hc9 k hlt
      have e1 : (N : Int) - 1 = q := by omega
      have q1 : (q : Int) < N := by omega
      have q2 : q < N := by omega
      have ql : q ≤ 1000 := by
        have h1 := HT.out.long
        have h2 := Pa.len_long (P ++ [x])
        rw [List.length_append, hq] at h2
        have : [x].length = 1 := rfl
        omega
      have ew : IntKind.i64.wrap (q : Int) = q := IntWalk.i64_in _ (by omega)
      have e0 : ((N : Int) == 0) = false := beq_eq_false_iff_ne.2 (by omega)
      have e9 : N ≠ 0 := by omega
      have e8 : (N == 0) = false := beq_eq_false_iff_ne.2 e9
      have q0 : (0 : Int) ≤ q := by omega
      have hcase : (¬ (0 : Int) < k ∧ ¬ 0 < k ∧ decide (0 < k) = false) ∨ ((0 : Int) < k ∧ 0 < k ∧ decide (0 < k) = true ∧ ∃ j : Nat, (k : Int) - 1 = j ∧ IntKind.i64.wrap (j : Int) = j ∧ (0 : Int) ≤ j ∧ (j : Int) < l1.length ∧ ∃ mj, W0.cell? ⟨gv1, o9 + j, none⟩ = some (.string mj) ∧ Go.Op.bytesLess mj.toList (Pa.mk l1[k]).toList = true) := by
        rcases Nat.eq_zero_or_pos k with h | h
        · exact .inl ⟨by omega, by omega, decide_eq_false (by omega)⟩
        · refine .inr ⟨by omega, by omega, decide_eq_true (by omega), k - 1, by omega, by rw [IntKind.wrap_i64]; omega, by omega, by omega, _, hc9 (k - 1) (by omega), ?_⟩
          rw [mk_toList, mk_toList, bytesLess_eq]
          exact decide_eq_true (HLTS.out (k - 1) (by omega) (by omega))
      clear la hq hN hc9 hA9 TA na hy47 HLTS
      generalize Pa.mk l1[k] = ma at *
      rcases hcase with ⟨z0, zn, zd⟩ | ⟨z0, zn, zd, j, z1, z2, z3, z4, mj, cj, hless⟩
      all_goals
        cases b
        case' false =>
          have hTX2 : Pa.mk (Pa.shown (P ++ [x])) = ma := by
            have h := hTX
            rw [if_neg (by decide)] at h
            rw [← h]
            exact (mk_append _ []).symm ▸ (by rw [List.append_nil])
          rw [hTX2] at HSH1
          have HLS2 : Hid (∀ W, Fr [] W0 W → Calls Tryd.prog 21 #[.pointer (some ⟨tb, 0, none⟩), .string ma] W fun e w' => e = .returned (.tuple #[.slice none 0 0, .iface 57 (.int .i64 3)]) ∧ Fr [] W w') := fun W hW => (HLS.out W hW).mono fun e w' h => ⟨h.2.1 rfl, h.2.2⟩
          clear hTX2 HLS
        case' true =>
          rw [if_pos rfl] at hTX
          have HLS2 : Hid (∀ W, Fr [] W0 W → Calls Tryd.prog 21 #[.pointer (some ⟨tb, 0, none⟩), .string ma] W fun e w' => (∃ v, e = .returned (.tuple #[v, .nilIface])) ∧ Fr [] W w') := fun W hW => (HLS.out W hW).mono fun e w' h => ⟨h.1 rfl, h.2.2⟩
          clear HLS
      all_goals
        go_upto_region 12 with (go_at_call 19; (with_reducible refine useC (HPP.out W0) ?_); rintro e w4 ⟨A7, g7, c7, o7, rfl, hs7, qc, rfl, cx, hf⟩; have HF4 := Lib.hid hf; have HS7 := Lib.hid hs7; have HX7 := Lib.hid cx; have ca4 := hf.cell ca (by simp); (try have cj4 := hf.cell cj (by simp)); clear hs7 cx hf)
        have HS8 := Lib.hid (slR_fr HS7.out ((Fr.refl [] w4).drew).drew)
        have HSP := Lib.hid (slR_take HS8.out HQ.out)
        have HF8 := Lib.hid ((HF4.out.drew).drew)
        have ca8 := (((Fr.refl [] w4).drew).drew).cell ca4 (by simp)
        have HX8 := Lib.hid ((((Fr.refl [] w4).drew).drew).cell HX7.out (by simp))
        (refine wp_region_mixq 20 [(true, 0), (true, 1), (true, 2), (true, 3), (true, 4), (true, 5), (true, 6), (true, 7), (true, 8), (true, 9), (true, 10), (true, 11), (true, 12), (true, 13), (true, 14), (true, 15), (true, 16), (true, 17), (true, 18), (true, 19)] (by kernel_rfl) (by kernel_rfl) ?_; simp only [pickOps, List.map_cons, List.map_nil, List.getD_cons_zero, List.getD_cons_succ, List.drop_succ_cons, List.drop_zero]; (iterate 20 (first | (refine wpMix_take (v := ?_) (by rfl) ?_ ?_; rotate_left; (focus (intro W hW; subst hW; go_simp; (try with_reducible rfl); done)); try simp only [Act.put, List.setIfInBounds_toArray, List.set_cons_zero, List.set_cons_succ]) | (refine wpMix_leave (by rfl) ?_; try simp only [Act.put, List.setIfInBounds_toArray, List.set_cons_zero, List.set_cons_succ]))); refine wpMix_nil ?_)
        go_wp2_with fail
        (refine wp_region_mixq 10 [(true, 0), (true, 1), (true, 2), (true, 3), (true, 4), (true, 5), (true, 6), (true, 7), (true, 8), (true, 9)] (by kernel_rfl) (by kernel_rfl) ?_; simp only [pickOps, List.map_cons, List.map_nil, List.getD_cons_zero, List.getD_cons_succ, List.drop_succ_cons, List.drop_zero]; (iterate 10 (first | (refine wpMix_take (v := ?_) (by rfl) ?_ ?_; rotate_left; (focus (intro W hW; subst hW; go_simp; (try with_reducible rfl); done)); try simp only [Act.put, List.setIfInBounds_toArray, List.set_cons_zero, List.set_cons_succ]) | (refine wpMix_leave (by rfl) ?_; try simp only [Act.put, List.setIfInBounds_toArray, List.set_cons_zero, List.set_cons_succ]))); refine wpMix_nil ?_)
        generalize (w4.drew).drew = w5 at *
        clear ca ca4 zn zd z0
        go_upto_region 23 with (first
          | (have h' := HS8; go_at_call 20; (with_reducible refine useC (HSH1.out _ _ _ HS8.out) ?_); rintro e w6 ⟨rfl, rfl⟩; clear h' HS8)
          | (go_at_call 20; (with_reducible refine useC (HSH2.out _ _ _ HSP.out) ?_); rintro e w6 ⟨rfl, rfl⟩)
          | (go_at_call 21; (with_reducible refine useC (HLP.out _ HF8.out) ?_); rintro e w6 ⟨v11, g11, l2, rfl, hs, hm, hl, hf⟩; obtain ⟨A11, o11, c11, rfl, -, -, hA11, hc11⟩ := strs_cell hs; have HA11 := Lib.hid hA11; have HC11 := Lib.hid hc11; have HM11 := Lib.hid hm; have HF6 := Lib.hid hf; have HX6 := Lib.hid (hf.cell HX8.out (by simp)); have HCA6 := Lib.hid (hf.cell ca8 (by simp)); clear hs hm hf hA11 hc11))
        have hl2 : l2.length ≤ 9223372036854775807 := by omega
        have HZ : Hid (hasS l2 x 0 = false) := hasS_zero l2 x
        have HF9 := Lib.hid (HF8.out.trans HF6.out)
        clear hy hyb s1 s2 s0 hn HPP HSH2 HSP HF4 HS7 HX7 HX8
        go_wp2_with fail
        go_loopw [12, 13] (fun fv jv wr => ∃ j2 : Nat, j2 ≤ l2.length ∧ jv = .int .i64 j2 ∧ fv = .bool (hasS l2 x j2) ∧ Hid (Fr [] w6 wr)) (fun _ jv _ => l2.length - (intOf jv).toNat)
        case atStart => exact ⟨0, Nat.zero_le _, rfl, by rw [HZ.out], Lib.hid (Fr.refl [] w6)⟩
        case round =>
          obtain ⟨j2, hj2, rfl, rfl, hF⟩ := hrel
          have m0 : (0 : Int) ≤ j2 := by omega
          by_cases hlt2 : j2 < l2.length
          · have m1 : (j2 : Int) < l2.length := by omega
            obtain rfl := HA11.out (by omega)
            have cj2 := hF.out.cell (HC11.out j2 hlt2) (by simp)
            have cx2 := hF.out.cell HX6.out (by simp)
            have HS := Lib.hid (hasS_succ hlt2 x)
            have HFN := Lib.hid (hF.out.step (Fr.refl [] wr).drew (by simp))
            by_cases hf2 : hasS l2 x j2 = true
            · have HN : Hid (hasS l2 x (j2 + 1) = true) := by show _ = _; rw [HS.out, hf2]; rfl
              rw [hf2]
              clear hf2
              generalize Pa.mk l2[j2] = m1' at *
              generalize Pa.mk x = mx at *
              go_wp2_with fail
              (refine wp_region_mixq 12 [(true, 0), (true, 1), (true, 2), (true, 3), (true, 4), (true, 5), (true, 6), (true, 7), (true, 8), (true, 9), (true, 10), (true, 11)] (by kernel_rfl) (by kernel_rfl) ?_; simp only [pickOps, List.map_cons, List.map_nil, List.getD_cons_zero, List.getD_cons_succ, List.drop_succ_cons, List.drop_zero]; (iterate 12 (first | (refine wpMix_take (v := ?_) (by rfl) ?_ ?_; rotate_left; (focus (intro W hW; subst hW; go_simp; (try with_reducible rfl); done)); try simp only [Act.put, List.setIfInBounds_toArray, List.set_cons_zero, List.set_cons_succ]) | (refine wpMix_leave (by rfl) ?_; try simp only [Act.put, List.setIfInBounds_toArray, List.set_cons_zero, List.set_cons_succ]))); refine wpMix_nil ?_)
              go_wp2
              go_roundw
              case rel => exact ⟨j2 + 1, by omega, by go_num, by rw [HN.out], HFN⟩
              case measure => (simp [intOf]; try omega)
            · have hf3 : hasS l2 x j2 = false := by simpa using hf2
              have HN : Hid (hasS l2 x (j2 + 1) = (l2[j2] == x)) := by show _ = _; rw [HS.out, hf3]; rfl
              have hcmp : ((Pa.mk l2[j2]).toList == (Pa.mk x).toList) = (l2[j2] == x) := by rw [mk_toList, mk_toList]
              rw [hf3]
              clear hf2 hf3 HS
              generalize (l2[j2] == x) = bb at *
              generalize Pa.mk l2[j2] = m1' at *
              generalize Pa.mk x = mx at *
              go_wp2_with fail
              (refine wp_region_mixq 12 [(true, 0), (true, 1), (true, 2), (true, 3), (true, 4), (true, 5), (true, 6), (true, 7), (true, 8), (true, 9), (true, 10), (true, 11)] (by kernel_rfl) (by kernel_rfl) ?_; simp only [pickOps, List.map_cons, List.map_nil, List.getD_cons_zero, List.getD_cons_succ, List.drop_succ_cons, List.drop_zero]; (iterate 12 (first | (refine wpMix_take (v := ?_) (by rfl) ?_ ?_; rotate_left; (focus (intro W hW; subst hW; go_simp; (try with_reducible rfl); done)); try simp only [Act.put, List.setIfInBounds_toArray, List.set_cons_zero, List.set_cons_succ]) | (refine wpMix_leave (by rfl) ?_; try simp only [Act.put, List.setIfInBounds_toArray, List.set_cons_zero, List.set_cons_succ]))); refine wpMix_nil ?_)
              go_wp2
              go_roundw
              case rel => exact ⟨j2 + 1, by omega, by go_num, by rw [HN.out], HFN⟩
              case measure => (simp [intOf]; try omega)
          · have m1 : ¬ (j2 : Int) < l2.length := by omega
            obtain rfl : j2 = l2.length := by omega
            have hall := hasS_all HM11.out
            rw [hall]
            have HFZ := Lib.hid (HF9.out.trans hF.out)
            have caz := hF.out.cell HCA6.out (by simp)
            clear hall
            go_wp2_with (go_at_call 21; (with_reducible refine useC (HLS2.out wr HFZ.out) ?_); intro e w7 h7; (first | (obtain ⟨⟨v7, rfl⟩, hf⟩ := h7) | (obtain ⟨rfl, hf⟩ := h7)); have HF7 := Lib.hid hf; clear hf)
            go_roundw
            case rel => exact ⟨k + 1, by omega, by go_num, Lib.hid (HI.out.step (HFZ.out.trans HF7.out))⟩
            case measure => (simp [intOf]; try omega)
    · have i1 : ¬ (k : Int) < l1.length := by omega
      have HF9 := Lib.hid HI.out.L.fr
      go_wp2
      go_ret
      exact ⟨rfl, HF9.out⟩
end Go.Proofs.YtnglhfeialomgaaDoor
