/- The law BtreeEven. -/
import Derived.Test.YtokbhiokcoldbaaBtFact
import Derived.Test.YtokbhiokcoldbaaCIn3
namespace Go.Proofs.Ytokbhiokcoldbaa
open Go.RowKit

namespace Bt
/-- How many kids the first so many nodes have. -/
def kidsTo (xs : List (List Int)) (i : Nat) : Nat := ((xs.take i).map (fun l => l.length + 1)).sum
theorem kidsTo_succ {xs : List (List Int)} {i : Nat} (h : i < xs.length) : kidsTo xs (i + 1) = kidsTo xs i + (xs.getD i []).length + 1 := by
  unfold kidsTo
  rw [List.take_add_one, List.getElem?_eq_getElem h, List.map_append, List.sum_append]
  simp [List.getD, h]
  omega
theorem kidsTo_le {xs : List (List Int)} (h : ∀ l ∈ xs, l.length ≤ 4) : ∀ i, kidsTo xs i ≤ 5 * xs.length := fun i => by
  unfold kidsTo
  have h1 : ∀ (ys : List (List Int)), (∀ l ∈ ys, l.length ≤ 4) → (ys.map (fun l => l.length + 1)).sum ≤ 5 * ys.length := fun ys => by
    induction ys with
    | nil => intro _; simp
    | cons y ys ih =>
      intro hy
      have := ih (fun l hl => hy l (by simp [hl]))
      have := hy y (by simp)
      simp only [List.map_cons, List.sum_cons, List.length_cons]
      omega
  have h2 := h1 (xs.take i) (fun l hl => h l (List.mem_of_mem_take hl))
  have h3 : (xs.take i).length ≤ xs.length := by rw [List.length_take]; omega
  omega
end Bt
theorem lv_if (s : Bt.Tree) (k : Nat) : (if (k : Int) < 0 then [] else Bt.level s (k : Int).toNat) = Bt.level s k := by
  rw [if_neg (by omega), Int.toNat_natCast]
theorem RR.at_ {w : World} {v : Value} {xs : List (List Int)} (h : RR w v xs) : ∃ A g c, v = .slice A xs.length c ∧ ∀ j, j < xs.length → A = some ⟨g, 0, none⟩ ∧ ∃ A' c', w.cell? ⟨g, j, none⟩ = some (.slice A' (xs.getD j []).length c') := by
  obtain ⟨A, g, c, h1, h2, h3⟩ := h
  refine ⟨A, g, c, h1, fun j hj => ⟨h2 (by omega), ?_⟩⟩
  obtain ⟨A', c', _, h4, _⟩ := h3 j hj
  exact ⟨A', c', h4⟩
set_option maxRecDepth 100000 in
set_option maxHeartbeats 4000000 in
theorem bt_evenL (w : World) (v : Value) (g0 : Nat) (l : List Int) (h : Sl w v g0 l) (hl : l.length ≤ 9223372036854775807) : Calls Try.prog 3 #[v] w (OkT w) := by
  have HG := Lib.hid (fun W (hW : Fr [] w W) => bt_grown W v g0 l (h.fr hW (by simp)) hl)
  obtain ⟨A0, o0, c0, rfl, -, -, -⟩ := h.form
  have HFA := Lib.hid (bt_fact w)
  clear h
  go_enter Try.func3, Try.ntmps3
  go_wp2_with (first
    | (go_at_call 8; (with_reducible refine useC HFA.out ?_); rintro e w1 ⟨rfl, hf⟩; have HF1 := Lib.hid hf; clear hf)
    | (have hf' := HF1; go_at_call 9; (with_reducible refine useC (HG.out w1 HF1.out) ?_); rintro e w2 ⟨p, P, rfl, hS⟩; have HF2 := Lib.hid (HF1.out.trans hS.fr); obtain ⟨s, hs⟩ : ∃ s, Bt.growAll (l.take 64) = s := ⟨_, rfl⟩; rw [hs] at hS; have hd3 := hS.ok.deep; have HH := Lib.hid (bt_Height w2 P p s hS.file hS.ok); have HLV := Lib.hid (fun W (hW : Fr [] w2 W) (k : Nat) (hk : k ≤ 10) => bt_Level W P p s k (hS.file.keep hW) hS.ok (by omega)); have HO := Lib.hid hS.ok; have hin := decide_eq_true (show (1 : Int) ≤ (s.d : Int) + 1 ∧ (s.d : Int) + 1 ≤ 5 from ⟨by omega, by omega⟩); clear hS hs)
    | (have hh := HH; go_at_call 10; (with_reducible refine useC HH.out ?_); rintro e w2 ⟨rfl, rfl⟩)
    | (have hh := hin; go_at_call 11; (with_reducible refine useC (in3_is _ _ _ true _ hin) ?_); rintro e w2 ⟨rfl, rfl⟩; have HV := Lib.hid (HLV.out w2 (Fr.refl _ _) (s.d + 1) (by omega)); rw [lv_if, Bt.level_high HO.out, show ((s.d + 1 : Nat) : Int) = (s.d : Int) + 1 from (by omega)] at HV)
    | (have hv := HV; go_at_call 12; (with_reducible refine useC HV.out ?_); intro e w3 hlv; obtain ⟨v3, rfl, hr3, hf3⟩ := hlv.rr; obtain ⟨A3, g3, c3, rfl, -⟩ := hr3.at_; have HF3 := Lib.hid hf3; have HV2 := Lib.hid (HLV.out w3 hf3 0 (by omega)); rw [lv_if, Bt.level_len0, show ((0 : Nat) : Int) = 0 from rfl] at HV2; clear hlv hr3 hf3)
    | (have hv := HV2; go_at_call 12; (with_reducible refine useC HV2.out ?_); intro e w4 hlv; obtain ⟨v4, rfl, hr4, hf4⟩ := hlv.rr; obtain ⟨A4, g4, c4, rfl, -⟩ := hr4.at_; have HF4 := Lib.hid (HF3.out.trans hf4); clear hlv hr4 hf4))
  have HSZ := Lib.hid (fun k hk => Bt.level_sizes HO.out (k := k) hk)
  have HKI := Lib.hid (fun k hk => Bt.level_kids HO.out (k := k) hk)
  have HFW := Lib.hid (fun k => Bt.level_few HO.out k)
  clear hin HG HFA HH HV HV2 HF1 HF3
  obtain ⟨D, hD⟩ : ∃ D, s.d = D := ⟨_, rfl⟩
  rw [hD] at hd3 HSZ HKI
  rw [hD]
  have HLOW : Hid (0 < D → Bt.lowOf D = 1) := fun h => by unfold Bt.lowOf; rw [if_neg (by omega)]
  have d1 : (D : Int) + 1 ≤ 5 := by omega
  clear hD
  go_loopw [6] (fun i wr => ∃ k : Nat, k ≤ D + 1 ∧ i = .int .i64 k ∧ Hid (Fr [] w2 wr)) (fun i _ => D + 1 - (intOf i).toNat)
  case atStart => exact ⟨0, Nat.zero_le _, rfl, HF4.out⟩
  case round =>
    clear HF4
    obtain ⟨k, hk, rfl, hF⟩ := hrel
    by_cases hlt : k < D + 1
    · have kI : (k : Int) < (D : Int) + 1 := by omega
      have k0 : (0 : Int) ≤ k := by omega
      have HV := Lib.hid (HLV.out wr hF.out k (by omega))
      rw [lv_if] at HV
      have HS4 := Lib.hid (HSZ.out k (by omega))
      have HX6 := Lib.hid (HFW.out k)
      have HKN := Lib.hid (fun h => HKI.out k h)
      have HV2 := Lib.hid (fun W (hW : Fr [] w2 W) (h : k + 1 ≤ D) => HLV.out W hW (k + 1) (by omega))
      obtain ⟨xs, hxs⟩ : ∃ xs, Bt.level s k = xs := ⟨_, rfl⟩
      rw [hxs] at HV HS4 HX6 HKN
      clear hxs
      go_wp2_with (go_at_call 12; (with_reducible refine useC HV.out ?_); intro e w3 hlv; obtain ⟨v3, rfl, hr3, hf3⟩ := hlv.rr; obtain ⟨A3, g3, c3, hv3, hat⟩ := hr3.at_; subst hv3; have HAT := Lib.hid hat; have HF3 := Lib.hid (hF.out.trans hf3); clear hlv hr3 hf3 hat)
      have hK5 := Bt.kidsTo_le (xs := xs) (fun l hl => (HS4.out l hl).1)
      have HK5 := Lib.hid hK5
      have h61 := HX6.out
      clear hK5
      go_loop [8, 9] (fun kd i => ∃ q : Nat, q ≤ xs.length ∧ i = .int .i64 q ∧ kd = .int .i64 (Bt.kidsTo xs q : Nat)) (fun _ i => xs.length - (intOf i).toNat)
      case atStart => exact ⟨0, Nat.zero_le _, rfl, rfl⟩
      case round =>
        obtain ⟨q, hq, rfl, rfl⟩ := hrel
        by_cases hql : q < xs.length
        · have qI : (q : Int) < xs.length := by omega
          have q0 : (0 : Int) ≤ q := by omega
          obtain ⟨rfl, A', c', qc⟩ := HAT.out q hql
          obtain ⟨z1, z2, z3⟩ := HS4.out (xs.getD q []) (by simp [List.getD, hql])
          have hks := Bt.kidsTo_succ hql
          have hkb := HK5.out q
          generalize (xs.getD q []).length = n at *
          have HNX : Hid (((Bt.kidsTo xs q : Nat) : Int) + n + 1 = ((Bt.kidsTo xs (q + 1) : Nat) : Int)) := by show _ = _; omega
          generalize Bt.kidsTo xs q = kq at *
          obtain ⟨kq1, hkq1⟩ : ∃ x, Bt.kidsTo xs (q + 1) = x := ⟨_, rfl⟩
          rw [hkq1] at hks HNX
          have HKQ := Lib.hid hkq1
          clear hkq1
          have n4 : ¬ (4 : Int) < (n : Int) := by omega
          have wr1 : IntKind.i64.wrap ((kq : Int) + n) = (kq : Int) + n := by rw [IntKind.wrap_i64]; omega
          have wr2 : IntKind.i64.wrap ((kq : Int) + n + 1) = (kq : Int) + n + 1 := by rw [IntKind.wrap_i64]; omega
          clear hks
          by_cases hk0 : 0 < k
          · have hkI : (0 : Int) < (k : Int) := by omega
            have n2 : ¬ (n : Int) < 2 := by have := z3 hk0; omega
            by_cases hd0 : 0 < D
            · have hdI : (1 : Int) < (D : Int) + 1 := by omega
              have n1 : ¬ (n : Int) < 1 := by omega
              clear z1 z2 z3
              go_wp2
              go_round
              case rel => exact ⟨q + 1, by omega, by go_num, by rw [HNX.out, HKQ.out]⟩
              case measure => (simp [intOf]; try omega)
            · have hdI : ¬ (1 : Int) < (D : Int) + 1 := by omega
              clear z1 z2 z3
              go_wp2
              go_round
              case rel => exact ⟨q + 1, by omega, by go_num, by rw [HNX.out, HKQ.out]⟩
              case measure => (simp [intOf]; try omega)
          · have hkI : ¬ (0 : Int) < (k : Int) := by omega
            by_cases hd0 : 0 < D
            · have hdI : (1 : Int) < (D : Int) + 1 := by omega
              have n1 : ¬ (n : Int) < 1 := by have h1 := z2 (by omega); have h2 := HLOW.out hd0; omega
              clear z1 z2 z3
              go_wp2
              go_round
              case rel => exact ⟨q + 1, by omega, by go_num, by rw [HNX.out, HKQ.out]⟩
              case measure => (simp [intOf]; try omega)
            · have hdI : ¬ (1 : Int) < (D : Int) + 1 := by omega
              clear z1 z2 z3
              go_wp2
              go_round
              case rel => exact ⟨q + 1, by omega, by go_num, by rw [HNX.out, HKQ.out]⟩
              case measure => (simp [intOf]; try omega)
        · obtain rfl : q = xs.length := by omega
          have qI : ¬ (xs.length : Int) < xs.length := by omega
          have hkall : Bt.kidsTo xs xs.length = (xs.map (fun l => l.length + 1)).sum := by unfold Bt.kidsTo; rw [List.take_length]
          have kw : IntKind.i64.wrap ((k : Int) + 1) = (k : Int) + 1 := by rw [IntKind.wrap_i64]; omega
          by_cases hkd : k + 1 ≤ D
          · have kdI : (k : Int) + 1 < (D : Int) + 1 := by omega
            have hV := HV2.out w3 HF3.out hkd
            rw [lv_if, show ((k + 1 : Nat) : Int) = (k : Int) + 1 from by omega] at hV
            have HVV := Lib.hid hV
            have hlen := HKN.out hkd
            rw [← hkall] at hlen
            have HLEN := Lib.hid hlen
            clear hV hlen hkall
            generalize Bt.kidsTo xs xs.length = KA at *
            go_wp2_with (go_at_call 12; (with_reducible refine useC HVV.out ?_); intro e w5 hlv; obtain ⟨v5, rfl, hr5, hf5⟩ := hlv.rr; obtain ⟨A5, g5, c5, hv5, -⟩ := hr5.at_; rw [HLEN.out] at hv5; subst hv5; have HF5 := Lib.hid (HF3.out.trans hf5); clear hlv hr5 hf5)
            go_roundw
            case rel => exact ⟨k + 1, by omega, by go_num, HF5.out⟩
            case measure => (simp [intOf]; try omega)
          · have kdI : ¬ (k : Int) + 1 < (D : Int) + 1 := by omega
            clear hkall
            go_wp2
            go_roundw
            case rel => exact ⟨k + 1, by omega, by go_num, HF3.out⟩
            case measure => (simp [intOf]; try omega)
    · have kI : ¬ (k : Int) < (D : Int) + 1 := by omega
      have HFZ := Lib.hid (HF2.out.trans hF.out)
      go_wp2
      go_ret
      exact ⟨rfl, HFZ.out⟩
end Go.Proofs.Ytokbhiokcoldbaa
