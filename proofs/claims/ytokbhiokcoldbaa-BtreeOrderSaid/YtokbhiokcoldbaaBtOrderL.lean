/- The law BtreeOrder. -/
import Derived.Test.YtokbhiokcoldbaaBtOrderW
import Derived.Test.YtokbhiokcoldbaaBtHighL
import Derived.Test.YtokbhiokcoldbaaCHas
import Derived.Test.YtokbhiokcoldbaaCInts
namespace Go.Proofs.Ytokbhiokcoldbaa
open Go.RowKit

theorem lastOf_nil : Bt.lastOf [] = -1 := rfl
theorem take_flat {xs : List (List Int)} {i : Nat} (h : i < xs.length) : (xs.take (i + 1)).flatten = (xs.take i).flatten ++ xs.getD i [] := by
  rw [List.take_add_one, List.getElem?_eq_getElem h, List.flatten_append]
  simp [List.getD, h]
theorem last_next {F r : List Int} {j : Nat} (h : j < r.length) : Bt.lastOf (F ++ r.take (j + 1)) = nth r j := by
  rw [List.take_add_one, List.getElem?_eq_getElem h, ← List.append_assoc]
  have : nth r j = r[j] := by unfold nth; rw [List.getD_eq_getElem?_getD, List.getElem?_eq_getElem h]; rfl
  rw [this]
  exact Bt.lastOf_snoc _ _
theorem flat_cut {xs : List (List Int)} {i j : Nat} (h : i < xs.length) (hj : j < (xs.getD i []).length) : ∃ post, xs.flatten = ((xs.take i).flatten ++ (xs.getD i []).take j) ++ nth (xs.getD i []) j :: post := by
  refine ⟨(xs.getD i []).drop (j + 1) ++ (xs.drop (i + 1)).flatten, ?_⟩
  have h1 : xs = xs.take (i + 1) ++ xs.drop (i + 1) := (List.take_append_drop _ _).symm
  have h2 : xs.getD i [] = (xs.getD i []).take j ++ nth (xs.getD i []) j :: (xs.getD i []).drop (j + 1) := by
    have h3 : nth (xs.getD i []) j = (xs.getD i [])[j] := by unfold nth; rw [List.getD_eq_getElem?_getD, List.getElem?_eq_getElem hj]; rfl
    rw [h3, List.getElem_cons_drop, List.take_append_drop]
  have h4 : xs.flatten = (xs.take (i + 1)).flatten ++ (xs.drop (i + 1)).flatten := by rw [← List.flatten_append, ← h1]
  rw [h4, take_flat h]
  have h5 : ∀ (P Q R D : List Int) (y : Int), Q = R ++ y :: D → P ++ Q ++ (xs.drop (i + 1)).flatten = P ++ R ++ y :: (D ++ (xs.drop (i + 1)).flatten) := fun P Q R D y e => by rw [e]; simp
  exact h5 _ _ _ _ _ h2
theorem RR.cells {w : World} {v : Value} {xs : List (List Int)} (h : RR w v xs) : ∃ A c, v = .slice A xs.length c ∧ ∀ i, i < xs.length → ∃ g, A = some ⟨g, 0, none⟩ ∧ ∃ A' c' g2 o, w.cell? ⟨g, i, none⟩ = some (.slice A' (xs.getD i []).length c') ∧ ∀ j, j < (xs.getD i []).length → A' = some ⟨g2, o, none⟩ ∧ w.cell? ⟨g2, o + j, none⟩ = some (.int .i64 (nth (xs.getD i []) j)) := by
  obtain ⟨A, g, c, h1, h2, h3⟩ := h
  refine ⟨A, c, h1, fun i hi => ⟨g, h2 (by omega), ?_⟩⟩
  obtain ⟨A', c', gj, h4, h5⟩ := h3 i hi
  obtain ⟨A2, o, c2, e, _, hA, hc⟩ := h5.form
  injection e with e1 _ e3
  subst e1
  exact ⟨A', c', gj, o, h4, fun j hj => ⟨hA (by omega), hc j hj⟩⟩
set_option maxRecDepth 100000 in
set_option maxHeartbeats 8000000 in
theorem bt_orderL (w : World) (v : Value) (g0 : Nat) (l : List Int) (h : Sl w v g0 l) (hl : l.length < 17592186044416) : Calls Try.prog 4 #[v] w (OkT w) := by
  obtain ⟨s, hs⟩ : ∃ s, Bt.growAll (l.take 64) = s := ⟨_, rfl⟩
  obtain ⟨u, hu⟩ : ∃ u, Bt.growAll (l.reverse.take 64) = u := ⟨_, rfl⟩
  have HG : Hid (∀ W, Fr [] w W → Calls Try.prog 9 #[v] W (BtMd s W)) := fun W hW => by rw [← hs]; exact bt_grown W v g0 l (h.fr hW (by simp)) (by omega)
  have HG2 : Hid (∀ W v' g', Sl W v' g' l.reverse → Calls Try.prog 9 #[v'] W (BtMd u W)) := fun W v' g' h' => by rw [← hu]; exact bt_grown W v' g' l.reverse h' (by rw [List.length_reverse]; omega)
  have HTU := Lib.hid (fun W (hW : Fr [] w W) => turned_any W v g0 l (h.fr hW (by simp)) hl)
  have hO : s.OK := by rw [← hs]; exact grow_ok _
  have hO2 : u.OK := by rw [← hu]; exact grow_ok _
  have HKE : Hid (l.length ≤ 60 → Bt.all u.d u.t = Bt.all s.d s.t) := fun h60 => by
    have h1 := Bt.grow_turned h60
    rw [← hs, ← hu, List.take_of_length_le (show l.length ≤ 64 by omega), List.take_of_length_le (show l.reverse.length ≤ 64 by rw [List.length_reverse]; omega)]
    exact h1
  obtain ⟨A0, o0, c0, rfl, -, -, -⟩ := h.form
  have HFA := Lib.hid (bt_fact w)
  have HO := Lib.hid hO
  have HO2 := Lib.hid hO2
  have hd3 := hO.deep
  have hK60 : (Bt.all s.d s.t).length ≤ 60 := by have h1 := hO.len; have h2 := hO.many; have h3 : (Bt.all s.d s.t).length = s.many := h1; omega
  have HUP : Hid (Bt.Up (Bt.all s.d s.t)) := hO.up
  have HHB : Hid (∀ x, x ∈ Bt.all s.d s.t → Bt.has s.d s.t x = true) := fun x hx => by rw [hO.has]; exact decide_eq_true hx
  have HLF : Hid (∀ k x, x ∈ (Bt.level s k).flatten → x ∈ Bt.all s.d s.t ∧ 0 ≤ x) := fun k x hx => ⟨(Bt.level_sub hO k).subset hx, (hO.rng x ((Bt.level_sub hO k).subset hx)).1⟩
  have HLU := Lib.hid (fun k => Bt.level_up hO k)
  have HMA : Hid (Bt.manyTo s (s.d + 1) = (Bt.all s.d s.t).length) := Bt.many_all hO
  have HMB : Hid (∀ k, Bt.manyTo s k ≤ (Bt.all s.d s.t).length) := fun k => by have h1 := Bt.manyTo_flat hO k; have h2 : s.keys.length = (Bt.all s.d s.t).length := rfl; omega
  have HFEW := Lib.hid (fun k => Bt.level_few hO k)
  obtain ⟨K, hK⟩ : ∃ K, Bt.all s.d s.t = K := ⟨_, rfl⟩
  rw [hK] at hK60 HUP HHB HLF HMA HMB HKE
  have HK := Lib.hid hK
  obtain ⟨D, hD⟩ : ∃ D, s.d = D := ⟨_, rfl⟩
  rw [hD] at hd3 HMA
  have HD := Lib.hid hD
  clear hs hu hO hO2 hK hD h
  go_enter Try.func4, Try.ntmps4
  go_wp2_with (first
    | (go_at_call 8; (with_reducible refine useC HFA.out ?_); rintro e w1 ⟨rfl, hf⟩; have HF1 := Lib.hid hf; clear hf)
    | (have hf' := HF1; go_at_call 9; (with_reducible refine useC (HG.out w1 HF1.out) ?_); rintro e w2 ⟨p, P, rfl, hS⟩; have HF2 := Lib.hid (HF1.out.trans hS.fr); have HS := Lib.hid hS; have HK1 := Lib.hid (bt_Keys w2 P p s hS.file hS.ok); rw [HK.out] at HK1; clear hS hf')
    | (have hh := HK1; clear hh; go_at_call 13; (with_reducible refine useC HK1.out ?_); rintro e w3 ⟨v3, rfl, ho3, hf3⟩; obtain ⟨g3, -, hsl3⟩ := ho3.sl; obtain ⟨A3, c3, rfl, -⟩ := (own_inE.2 ho3).form'; have HSL := Lib.hid hsl3; have HS3 := Lib.hid (HS.out.step hf3); have HF3 := Lib.hid (HF2.out.trans hf3); clear HK1 ho3 hsl3 hf3))
  go_loopw [6, 7] (fun mv kv wr => ∃ k : Nat, k ≤ D + 1 ∧ kv = .int .i64 k ∧ mv = .int .i64 (Bt.manyTo s k : Nat) ∧ Hid (Fr [] w3 wr)) (fun _ kv _ => D + 1 - (intOf kv).toNat)
  case atStart => exact ⟨0, Nat.zero_le _, rfl, rfl, Fr.refl _ _⟩
  case round =>
    obtain ⟨k, hk, rfl, rfl, hF⟩ := hrel
    have HSr := Lib.hid (HS3.out.step hF.out)
    have HH := Lib.hid (bt_Height wr P p s HSr.out.file HO.out)
    rw [HD.out] at HH
    by_cases hlt : k < D + 1
    · have kI : (k : Int) < (D : Int) + 1 := by omega
      have k6 : (k : Int) < 6 := by omega
      have k0 : (0 : Int) ≤ k := by omega
      have kw : IntKind.i64.wrap ((k : Int) + 1) = (k : Int) + 1 := by rw [IntKind.wrap_i64]; omega
      have HV := Lib.hid (bt_Level wr P p s k HSr.out.file HO.out (by omega))
      rw [lv_if] at HV
      have HLF1 := Lib.hid (fun x hx => HLF.out k x hx)
      have HLU1 := Lib.hid (HLU.out k)
      have HX6 := HFEW.out k
      have hmb := HMB.out (k + 1)
      have hms : Bt.manyTo s (k + 1) = Bt.manyTo s k + (Bt.level s k).flatten.length := rfl
      obtain ⟨xs, hxs⟩ : ∃ xs, Bt.level s k = xs := ⟨_, rfl⟩
      rw [hxs] at HV HLF1 HLU1 HX6 hms
      rw [hms] at hmb
      have HMS := Lib.hid hms
      generalize Bt.manyTo s k = M0 at *
      clear hxs hms
      go_wp2_with (first
        | (go_at_call 10; (with_reducible refine useC HH.out ?_); rintro e wr ⟨rfl, rfl⟩)
        | (go_at_call 12; (with_reducible refine useC HV.out ?_); intro e w5 hlv; obtain ⟨v5, rfl, hr5, hf5⟩ := hlv.rr; obtain ⟨A5, c5, rfl, hat⟩ := hr5.cells; have HAT := Lib.hid hat; have HF5 := Lib.hid (hF.out.trans hf5); clear hlv hr5 hf5 hat))
      have HHS := Lib.hid (fun x (hx : x ∈ xs.flatten) => has_any w5 (.slice A3 K.length c3) g3 K x (HSL.out.fr HF5.out (by simp)))
      have HNE := Lib.hid (fun i j (hi : i < xs.length) (hj : j < (xs.getD i []).length) => flat_cut hi hj)
      go_loop [6, 9, 10] (fun mv lv iv => ∃ i : Nat, i ≤ xs.length ∧ iv = .int .i64 i ∧ mv = .int .i64 ((M0 + ((xs.take i).flatten).length : Nat) : Int) ∧ lv = .int .i64 (Bt.lastOf (xs.take i).flatten)) (fun _ _ iv => xs.length - (intOf iv).toNat)
      case atStart => exact ⟨0, Nat.zero_le _, rfl, rfl, rfl⟩
      case round =>
        obtain ⟨i, hi, rfl, rfl, rfl⟩ := hrel
        by_cases hil : i < xs.length
        · have iI : (i : Int) < xs.length := by omega
          have i0 : (0 : Int) ≤ i := by omega
          have iw : IntKind.i64.wrap ((i : Int) + 1) = (i : Int) + 1 := by rw [IntKind.wrap_i64]; omega
          obtain ⟨g, rfl, A', c', g2, o, ic, hrow⟩ := HAT.out i hil
          have HROW := Lib.hid hrow
          have HCUT := Lib.hid (fun j hj => HNE.out i j hil hj)
          have HTF := Lib.hid (take_flat hil)
          generalize (xs.take i).flatten = F at *
          obtain ⟨r, hr⟩ : ∃ r, xs.getD i [] = r := ⟨_, rfl⟩
          rw [hr] at HROW HCUT HTF ic
          clear hrow hr
          go_wp2_with fail
          go_loop [6, 9, 11] (fun mv lv jv => ∃ j : Nat, j ≤ r.length ∧ jv = .int .i64 j ∧ mv = .int .i64 ((M0 + F.length + j : Nat) : Int) ∧ lv = .int .i64 (Bt.lastOf (F ++ r.take j))) (fun _ _ jv => r.length - (intOf jv).toNat)
          case atStart => exact ⟨0, Nat.zero_le _, rfl, rfl, by rw [List.take_zero, List.append_nil]⟩
          case round =>
            obtain ⟨j, hj, rfl, rfl, rfl⟩ := hrel
            by_cases hjl : j < r.length
            · have jI : (j : Int) < r.length := by omega
              have j0 : (0 : Int) ≤ j := by omega
              obtain ⟨rfl, jc⟩ := HROW.out j hjl
              obtain ⟨post, hcut⟩ := HCUT.out j hjl
              have hxm : nth r j ∈ xs.flatten := by rw [hcut]; simp
              have hxu := HLU1.out
              rw [hcut] at hxu
              have hnl := Bt.lastOf_lt hxu (HLF1.out _ hxm).2
              have hb : hasB K (nth r j) = true := by unfold hasB; rw [List.contains_iff_mem]; exact (HLF1.out _ hxm).1
              have hH := HHS.out _ hxm
              rw [hb] at hH
              have HHX := Lib.hid hH
              have hlen := congrArg List.length hcut
              simp only [List.length_append, List.length_cons, List.length_take] at hlen
              have hmw : IntKind.i64.wrap (((M0 + F.length + j : Nat) : Int) + 1) = ((M0 + F.length + j : Nat) : Int) + 1 := by rw [IntKind.wrap_i64]; omega
              have jw : IntKind.i64.wrap ((j : Int) + 1) = (j : Int) + 1 := by rw [IntKind.wrap_i64]; omega
              have HNX := Lib.hid (last_next (F := F) hjl)
              have HMX : Hid (((M0 + F.length + j : Nat) : Int) + 1 = ((M0 + F.length + (j + 1) : Nat) : Int)) := by show _ = _; omega
              generalize Bt.lastOf (F ++ r.take j) = lst at *
              generalize nth r j = x at *
              generalize M0 + F.length + j = mm at *
              clear hlen hH hb hxu hcut hxm
              go_wp2_with (go_at_call 14; (with_reducible refine useC HHX.out ?_); rintro e w6 ⟨rfl, rfl⟩)
              go_round
              case rel => exact ⟨j + 1, by omega, by go_num, by rw [HMX.out], by rw [HNX.out]⟩
              case measure => (simp [intOf]; try omega)
            · obtain rfl : j = r.length := by omega
              have jI : ¬ (r.length : Int) < r.length := by omega
              have HMX : Hid ((M0 + F.length + r.length : Nat) = M0 + (F ++ r).length) := by show _ = _; rw [List.length_append]; omega
              generalize M0 + F.length + r.length = mm at *
              clear hjl
              go_wp2
              go_round
              case rel => exact ⟨i + 1, by omega, by go_num, by rw [HTF.out, HMX.out], by rw [HTF.out, List.take_length]⟩
              case measure => (simp [intOf]; try omega)
        · obtain rfl : i = xs.length := by omega
          have iI : ¬ (xs.length : Int) < xs.length := by omega
          have HMX : Hid (M0 + ((xs.take xs.length).flatten).length = Bt.manyTo s (k + 1)) := by show _ = _; rw [List.take_length, HMS.out]
          generalize M0 + ((xs.take xs.length).flatten).length = mm at *
          clear hil
          go_wp2
          go_roundw
          case rel => exact ⟨k + 1, by omega, by go_num, by rw [HMX.out], HF5.out⟩
          case measure => (simp [intOf]; try omega)
    · obtain rfl : k = D + 1 := by omega
      have kI : ¬ ((D + 1 : Nat) : Int) < (D : Int) + 1 := by omega
      have HFr := Lib.hid hF.out
      have hma := HMA.out
      rw [hma]
      clear hlt hma
      go_wp2_with (go_at_call 10; (with_reducible refine useC HH.out ?_); rintro e wr ⟨rfl, rfl⟩)
      clear HH kI hk
      go_loopw [12] (fun iv wr => ∃ i : Nat, i ≤ K.length ∧ iv = .int .i64 i ∧ Hid (Fr [] w3 wr)) (fun iv _ => K.length - (intOf iv).toNat)
      case atStart => exact ⟨0, Nat.zero_le _, rfl, HFr⟩
      case round =>
        obtain ⟨i, hi, rfl, hF4⟩ := hrel
        have hsl := HSL.out.fr hF4.out (by simp)
        by_cases hil : i < K.length
        · have iI : (i : Int) < K.length := by omega
          have i0 : (0 : Int) ≤ i := by omega
          have iw : IntKind.i64.wrap ((i : Int) + 1) = (i : Int) + 1 := by rw [IntKind.wrap_i64]; omega
          obtain ⟨A6, o6, c6, e6, -, hA6, hc6⟩ := hsl.form
          have hA3 : A3 = some ⟨g3, o6, none⟩ := by
            have e7 : A3 = A6 := by injection e6
            rw [e7]
            exact hA6 (by omega)
          clear e6 hA6
          subst hA3
          have qi := hc6 i hil
          have hxm : nth K i ∈ K := getD_mem hil
          have hb := HHB.out _ hxm
          have HB := bt_Has wr.drew P p s (nth K i) (HS3.out.file.keep (hF4.out.trans (Fr.refl [] wr).drew)) HO.out
          rw [hb] at HB
          have HBH := Lib.hid HB
          by_cases hi0 : 0 < i
          · obtain ⟨j, hij⟩ : ∃ j, i = j + 1 := ⟨i - 1, by omega⟩
            have hiI : (0 : Int) < (i : Int) := by omega
            have e1 : (i : Int) - 1 = (j : Int) := by omega
            have e2 : IntKind.i64.wrap (j : Int) = (j : Int) := by rw [IntKind.wrap_i64]; omega
            have qj := hc6 j (by omega)
            have jI : (j : Int) < K.length := by omega
            have j0 : (0 : Int) ≤ j := by omega
            have hlt2 : nth K j < nth K i := by
              have h1 := HUP.out
              have h2 := (List.pairwise_iff_getElem.1 h1) j i (by omega) hil (by omega)
              unfold nth
              rw [List.getD_eq_getElem?_getD, List.getD_eq_getElem?_getD, List.getElem?_eq_getElem hil, List.getElem?_eq_getElem (show j < K.length by omega)]
              exact h2
            have hge : ¬ nth K i ≤ nth K j := by omega
            have HIJ := Lib.hid hij
            generalize nth K i = x at *
            generalize nth K j = y at *
            have hg1 : (y ≥ x) = False := eq_false (by omega)
            have hg2 : decide (y ≥ x) = false := decide_eq_false (by omega)
            have hg3 : decide (x ≤ y) = false := decide_eq_false (by omega)
            have hgt : ((i : Int) > 0) = True := eq_true hiI
            have hgb : (decide ((0 : Int) < (i : Int))) = true := decide_eq_true hiI
            clear hij hlt2 hxm hb HB hsl hc6 hF
            go_wp2_with fail
            (refine wp_region_mixq 20 [(true, 0), (true, 1), (true, 2), (true, 3), (true, 4), (true, 5), (true, 6), (true, 7), (true, 8), (true, 9), (true, 10), (true, 11), (true, 12), (true, 13), (true, 14), (true, 15), (true, 16), (true, 17), (true, 18), (true, 19)] (by kernel_rfl) (by kernel_rfl) ?_; simp only [pickOps, List.map_cons, List.map_nil, List.getD_cons_zero, List.getD_cons_succ, List.drop_succ_cons, List.drop_zero]; (iterate 20 (first | (refine wpMix_take (v := ?_) (by rfl) ?_ ?_; rotate_left; (focus (intro W hW; subst hW; go_simp; (try with_reducible rfl); done)); try simp only [Act.put, List.setIfInBounds_toArray, List.set_cons_zero, List.set_cons_succ]) | (refine wpMix_leave (by rfl) ?_; try simp only [Act.put, List.setIfInBounds_toArray, List.set_cons_zero, List.set_cons_succ]))); refine wpMix_nil ?_)
            go_wp2_with (go_at_call 15; (with_reducible refine useC HBH.out ?_); rintro e w6 ⟨rfl, hf6⟩; have HF6 := Lib.hid ((hF4.out.trans (Fr.refl [] wr).drew).trans hf6); clear hf6)
            go_roundw
            case rel => exact ⟨i + 1, by omega, by go_num, HF6.out⟩
            case measure => (simp [intOf]; try omega)
          · obtain rfl : i = 0 := by omega
            rw [Nat.add_zero] at qi
            generalize nth K 0 = x at *
            clear hxm hb HB hsl hc6 hF
            go_wp2_with fail
            (refine wp_region_mixq 20 [(true, 0), (true, 1), (true, 2), (true, 3), (true, 4), (true, 5), (true, 6), (true, 7), (true, 8), (true, 9), (true, 10), (true, 11), (true, 12), (true, 13), (true, 14), (true, 15), (true, 16), (true, 17), (true, 18), (true, 19)] (by kernel_rfl) (by kernel_rfl) ?_; simp only [pickOps, List.map_cons, List.map_nil, List.getD_cons_zero, List.getD_cons_succ, List.drop_succ_cons, List.drop_zero]; (iterate 20 (first | (refine wpMix_take (v := ?_) (by rfl) ?_ ?_; rotate_left; (focus (intro W hW; subst hW; go_simp; (try with_reducible rfl); done)); try simp only [Act.put, List.setIfInBounds_toArray, List.set_cons_zero, List.set_cons_succ]) | (refine wpMix_leave (by rfl) ?_; try simp only [Act.put, List.setIfInBounds_toArray, List.set_cons_zero, List.set_cons_succ]))); refine wpMix_nil ?_)
            go_wp2_with (go_at_call 15; (with_reducible refine useC HBH.out ?_); rintro e w6 ⟨rfl, hf6⟩; have HF6 := Lib.hid ((hF4.out.trans (Fr.refl [] wr).drew).trans hf6); clear hf6)
            go_roundw
            case rel => exact ⟨1, by omega, by go_num, HF6.out⟩
            case measure => (simp [intOf]; try omega)
        · obtain rfl : i = K.length := by omega
          have iI : ¬ (K.length : Int) < K.length := by omega
          have HFQ := Lib.hid (HF3.out.trans hF4.out)
          have HW6 := Lib.hid hF4.out
          have HTQ := Lib.hid (HTU.out wr HFQ.out)
          clear hil hsl hF hF4
          by_cases h60 : 60 < l.length
          · have h60I : (60 : Int) < l.length := by omega
            go_wp2_with (first
              | (go_at_call 16; (with_reducible refine useC HTQ.out ?_); rintro e w6 ⟨v6, rfl, ho6, hf6⟩; obtain ⟨g6, -, hsl6⟩ := ho6.sl; obtain ⟨A6, c6, rfl, -⟩ := (own_inE.2 ho6).form'; rw [List.length_reverse] at hsl6 ⊢; have HG6 := Lib.hid (HG2.out w6 _ g6 hsl6); have HF6 := Lib.hid (HFQ.out.trans hf6); clear ho6 hf6 hsl6)
              | (have hh := HG6; clear hh; go_at_call 9; (with_reducible refine useC HG6.out ?_); rintro e w7 ⟨q, Q7, rfl, hS7⟩; have HF7 := Lib.hid (HF6.out.trans hS7.fr); clear hS7))
            go_ret
            exact ⟨rfl, HF7.out⟩
          · have h60I : ¬ (60 : Int) < l.length := by omega
            have HKU := Lib.hid (HKE.out (by omega))
            go_wp2_with (first
              | (go_at_call 16; (with_reducible refine useC HTQ.out ?_); rintro e w6 ⟨v6, rfl, ho6, hf6⟩; obtain ⟨g6, -, hsl6⟩ := ho6.sl; obtain ⟨A6, c6, rfl, -⟩ := (own_inE.2 ho6).form'; rw [List.length_reverse] at hsl6 ⊢; have HG6 := Lib.hid (HG2.out w6 _ g6 hsl6); have HF6 := Lib.hid (HFQ.out.trans hf6); have HW7 := Lib.hid (HW6.out.trans hf6); clear ho6 hf6 hsl6)
              | (have hh := HG6; clear hh; go_at_call 9; (with_reducible refine useC HG6.out ?_); rintro e w7 ⟨q, Q7, rfl, hS7⟩; have HF7 := Lib.hid (HF6.out.trans hS7.fr); have HK7 := Lib.hid (bt_Keys w7 Q7 q u hS7.file HO2.out); rw [HKU.out] at HK7; have HW8 := Lib.hid (HW7.out.trans hS7.fr); clear hS7)
              | (have hh := HK7; clear hh; go_at_call 13; (with_reducible refine useC HK7.out ?_); rintro e w8 ⟨v8, rfl, ho8, hf8⟩; obtain ⟨g8, -, hsl8⟩ := ho8.sl; obtain ⟨A8, c8, rfl, -⟩ := (own_inE.2 ho8).form'; have HSL8 := Lib.hid hsl8; have HF8 := Lib.hid (HF7.out.trans hf8); have HW9 := Lib.hid (HW8.out.trans hf8); clear HK7 ho8 hsl8 hf8)
              | (have hh := HSL8; clear hh; go_at_call 17; (with_reducible refine useC (ints_same w8 _ _ g8 g3 K HSL8.out (HSL.out.fr HW9.out (by simp))) ?_); rintro e w9 ⟨rfl, hf9⟩; have HF9 := Lib.hid (HF8.out.trans (hf9.fr [])); clear hf9))
            go_ret
            exact ⟨rfl, HF9.out⟩
end Go.Proofs.Ytokbhiokcoldbaa
