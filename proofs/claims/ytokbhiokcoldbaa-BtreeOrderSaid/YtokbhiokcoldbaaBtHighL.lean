/- The law BtreeHigh. -/
import Derived.Test.YtokbhiokcoldbaaBtFact
import Derived.Test.YtokbhiokcoldbaaBtEvenL
import Derived.Test.YtokbhiokcoldbaaBtKeys
namespace Go.Proofs.Ytokbhiokcoldbaa
open Go.RowKit

namespace Bt
def leastN : Nat → Nat
  | 0 => 1
  | n + 1 => leastN n * 3 + 2
theorem leastN_pow : ∀ n, leastN n + 1 = 2 * 3 ^ n
  | 0 => rfl
  | n + 1 => by
    have ih := leastN_pow n
    have h : 3 ^ (n + 1) = 3 ^ n * 3 := Nat.pow_succ 3 n
    show leastN n * 3 + 2 + 1 = _
    omega
theorem leastN_few : ∀ n, n < 4 → leastN n ≤ 60 := by decide
theorem least_le {s : Tree} (hO : s.OK) (h1 : 0 < (all s.d s.t).length) : leastN s.d ≤ (all s.d s.t).length := by
  have h2 := hO.ok
  obtain ⟨d, t, n⟩ := s
  cases d with
  | zero => exact h1
  | succ d =>
    have h3 : Ok (d + 1) 1 t := h2
    have h4 := size_root d t h3
    have h5 := leastN_pow (d + 1)
    show leastN (d + 1) ≤ (all (d + 1) t).length
    omega
theorem put_high {s : Tree} {x : Int} (he : addErr s x = 0) : (put s x).d = s.d ∨ ((put s x).d = s.d + 1 ∧ ∃ u, level (put s x) 0 = [[u]]) := by
  unfold put
  rw [if_pos he]
  rcases add s.d s.t x with ⟨a, o⟩
  cases o with
  | none => exact .inl rfl
  | some q => obtain ⟨u, r⟩ := q; exact .inr ⟨rfl, u, rfl⟩
theorem put_len {s : Tree} (hO : s.OK) {x : Int} (he : addErr s x = 0) : (all (put s x).d (put s x).t).length = (all s.d s.t).length + 1 := by
  have h1 : (all (put s x).d (put s x).t).length = (put s x).many := (hO.put x).len
  have h2 : (all s.d s.t).length = s.many := hO.len
  rw [h1, h2]
  unfold put
  rw [if_pos he]
  rcases add s.d s.t x with ⟨a, o⟩
  cases o <;> rfl
end Bt
theorem BtKs.lens {l : List Int} {w w' : World} {e : Ending} (h : BtKs l w e w') : ∃ A c, e = .returned (.slice A l.length c) ∧ Fr [] w w' := by
  obtain ⟨v, rfl, ho, hf⟩ := h
  obtain ⟨A, c, rfl, -⟩ := (own_inE.2 ho).form'
  exact ⟨A, c, rfl, hf⟩
/-- The call hands back the tree s in new memory. -/
def BtMd (s : Bt.Tree) (w : World) (e : Ending) (w' : World) : Prop := ∃ p P, e = .returned (.pointer (some ⟨p, 0, none⟩)) ∧ BtI2 w w' P p s
set_option maxRecDepth 100000 in
set_option maxHeartbeats 4000000 in
theorem bt_high_err (w : World) (v : Value) (x : Int) (s : Bt.Tree) (hG : ∀ W, Fr [] w W → Calls Try.prog 9 #[v] W (BtMd s W)) (hO : s.OK) (he : ¬ Bt.addErr s x = 0) (hv : ∃ A n c, v = .slice A n c) : Calls Try.prog 5 #[v, .int .i64 x] w (OkT w) := by
  obtain ⟨A0, n0, c0, rfl⟩ := hv
  have HG := Lib.hid hG
  have HFA := Lib.hid (bt_fact w)
  have HO := Lib.hid hO
  have HE : Hid (errV (Bt.addErr s x) = .iface 67 (.int .i64 (Bt.addErr s x))) := errV_no he
  have HP : Hid (Bt.put s x = s) := if_neg he
  obtain ⟨N, hN⟩ : ∃ N, (Bt.all s.d s.t).length = N := ⟨_, rfl⟩
  have HN := Lib.hid hN
  obtain ⟨D, hD⟩ : ∃ D, s.d = D := ⟨_, rfl⟩
  have HD := Lib.hid hD
  obtain ⟨ec, hec⟩ : ∃ ec, Bt.addErr s x = ec := ⟨_, rfl⟩
  have HEC := Lib.hid hec
  rw [hec] at HE
  clear hG hO he hN hD hec
  go_enter Try.func5, Try.ntmps5
  go_wp2_with (first
    | (go_at_call 8; (with_reducible refine useC HFA.out ?_); rintro e w1 ⟨rfl, hf⟩; have HF1 := Lib.hid hf; clear hf)
    | (have hf' := HF1; go_at_call 9; (with_reducible refine useC (HG.out w1 HF1.out) ?_); rintro e w2 ⟨p, P, rfl, hS⟩; have HF2 := Lib.hid (HF1.out.trans hS.fr); have HS := Lib.hid hS; have HH1 := Lib.hid (bt_Height w2 P p s hS.file hS.ok); rw [HD.out] at HH1; have HK1 := Lib.hid (bt_Keys w2 P p s hS.file hS.ok); clear hS hf')
    | (have hh := HH1; clear hh; go_at_call 10; (with_reducible refine useC HH1.out ?_); rintro e w2 ⟨rfl, rfl⟩; clear HH1)
    | (have hh := HK1; clear hh; go_at_call 13; (with_reducible refine useC HK1.out ?_); intro e w3 hk; obtain ⟨A3, c3, rfl, hf3⟩ := hk.lens; rw [HN.out]; have HS3 := Lib.hid (HS.out.step hf3); have HF3 := Lib.hid (HF2.out.trans hf3); clear HK1 hk hf3)
    | (have hh := HS3; clear hh; go_at_call 18; (with_reducible refine useC (bt_Add w3 _ p s x HS3.out.file HO.out) ?_); intro e w4 ha; rw [HEC.out, HP.out, HE.out] at ha; obtain ⟨rfl, hs4, hfp⟩ := HS3.out.turn HO.out ha; have HS4 := Lib.hid hs4; have HH2 := Lib.hid (bt_Height w4 _ p s hs4.file HO.out); rw [HD.out] at HH2; have HK2 := Lib.hid (bt_Keys w4 _ p s hs4.file HO.out); clear HS3 hs4 hfp ha)
    | (have hh := HH2; clear hh; go_at_call 10; (with_reducible refine useC HH2.out ?_); rintro e w4 ⟨rfl, rfl⟩; clear HH2)
    | (have hh := HK2; clear hh; go_at_call 13; (with_reducible refine useC HK2.out ?_); intro e w5 hk; obtain ⟨A5, c5, rfl, hf5⟩ := hk.lens; rw [HN.out]; have HF5 := Lib.hid ((HF1.out.trans HS4.out.fr).trans hf5); clear HK2 hk hf5))
  go_ret
  exact ⟨rfl, HF5.out⟩
/-- The end of the law: least, and the keys. -/
theorem nat_succ_cast (n : Nat) : ((n + 1 : Nat) : Int) = (n : Int) + 1 := by omega
set_option maxRecDepth 100000 in
set_option maxHeartbeats 4000000 in
theorem bt_high_ok (w : World) (v : Value) (x : Int) (s : Bt.Tree) (hG : ∀ W, Fr [] w W → Calls Try.prog 9 #[v] W (BtMd s W)) (hO : s.OK) (he : Bt.addErr s x = 0) (hv : ∃ A n c, v = .slice A n c) : Calls Try.prog 5 #[v, .int .i64 x] w (OkT w) := by
  obtain ⟨A0, n0, c0, rfl⟩ := hv
  have HG := Lib.hid hG
  have HFA := Lib.hid (bt_fact w)
  have HO := Lib.hid hO
  have HO2 := Lib.hid (hO.put x)
  have HE : Hid (errV (Bt.addErr s x) = .nilIface) := by show _ = _; rw [he]; rfl
  have hN2 := Bt.put_len hO he
  have hle := Bt.least_le (hO.put x) (by rw [hN2]; omega)
  have hN60 : (Bt.all s.d s.t).length ≤ 60 := by have h1 := hO.len; have h2 := hO.many; have h3 : (Bt.all s.d s.t).length = s.many := h1; omega
  have hd3 := (hO.put x).deep
  have hd0 := hO.deep
  have hph := Bt.put_high (s := s) he
  obtain ⟨q, hq⟩ : ∃ q, Bt.put s x = q := ⟨_, rfl⟩
  rw [hq] at HO2 hN2 hle hd3 hph
  have HQ := Lib.hid hq
  obtain ⟨N, hN⟩ : ∃ N, (Bt.all s.d s.t).length = N := ⟨_, rfl⟩
  rw [hN] at hN2 hN60
  rw [hN2] at hle
  have HN := Lib.hid hN
  obtain ⟨M, hM, hMI⟩ : ∃ M : Nat, N + 1 = M ∧ (M : Int) = (N : Int) + 1 := ⟨N + 1, rfl, by omega⟩
  rw [hM] at hN2
  have HN2 := Lib.hid hN2
  obtain ⟨D, hD⟩ : ∃ D, s.d = D := ⟨_, rfl⟩
  have HD := Lib.hid hD
  rw [hD] at hd0 hph
  obtain ⟨D', hD'⟩ : ∃ D', q.d = D' := ⟨_, rfl⟩
  have HD' := Lib.hid hD'
  rw [hD'] at hd3 hle hph
  have hleI : ((Bt.leastN D' : Nat) : Int) ≤ (N : Int) + 1 := by omega
  have HLF := Lib.hid Bt.leastN_few
  have wN : IntKind.i64.wrap ((N : Int) + 1) = (N : Int) + 1 := by rw [IntKind.wrap_i64]; omega
  have wD : IntKind.i64.wrap ((D : Int) + 1 + 1) = (D : Int) + 1 + 1 := by rw [IntKind.wrap_i64]; omega
  have neD : ¬ ((D : Int) + 1 + 1 = (D : Int) + 1) := by omega
  clear hG hO he hN hN2 hD hq hD' hle hM
  have HMI := Lib.hid hMI
  rcases hph with hdd | ⟨hdd, u, hlv⟩
  · have HDD : Hid ((D' : Int) + 1 = (D : Int) + 1) := by show _ = _; omega
    rw [hdd] at hleI
    clear neD wD hdd
    go_enter Try.func5, Try.ntmps5
    go_wp2_with (first
      | (go_at_call 8; (with_reducible refine useC HFA.out ?_); rintro e w1 ⟨rfl, hf⟩; have HF1 := Lib.hid hf; clear hf)
      | (have hf' := HF1; go_at_call 9; (with_reducible refine useC (HG.out w1 HF1.out) ?_); rintro e w2 ⟨p, P, rfl, hS⟩; have HF2 := Lib.hid (HF1.out.trans hS.fr); have HS := Lib.hid hS; have HH1 := Lib.hid (bt_Height w2 P p s hS.file hS.ok); rw [HD.out] at HH1; have HK1 := Lib.hid (bt_Keys w2 P p s hS.file hS.ok); clear hS hf')
      | (have hh := HH1; clear hh; go_at_call 10; (with_reducible refine useC HH1.out ?_); rintro e w2 ⟨rfl, rfl⟩; clear HH1)
      | (have hh := HK1; clear hh; go_at_call 13; (with_reducible refine useC HK1.out ?_); intro e w3 hk; obtain ⟨A3, c3, rfl, hf3⟩ := hk.lens; rw [HN.out]; have HS3 := Lib.hid (HS.out.step hf3); have HF3 := Lib.hid (HF2.out.trans hf3); clear HK1 hk hf3)
      | (have hh := HS3; clear hh; go_at_call 18; (with_reducible refine useC (bt_Add w3 _ p s x HS3.out.file HO.out) ?_); intro e w4 ha; rw [HE.out, HQ.out] at ha; obtain ⟨rfl, hs4, hfp⟩ := HS3.out.turn HO2.out ha; have HS4 := Lib.hid hs4; have HH2 := Lib.hid (bt_Height w4 _ p q hs4.file HO2.out); rw [HD'.out, HDD.out] at HH2; have HLV := Lib.hid (bt_Level w4 _ p q 0 hs4.file HO2.out (by omega)); rw [if_neg (by omega), show Int.toNat 0 = 0 from rfl] at HLV; clear HS3 hs4 hfp ha)
      | (have hh := HH2; clear hh; go_at_call 10; (with_reducible refine useC HH2.out ?_); rintro e w4 ⟨rfl, rfl⟩; clear HH2)
      | (have hv := HLV; go_at_call 12; (with_reducible refine useC HLV.out ?_); intro e w5 hlv; obtain ⟨v5, rfl, hr5, hf5⟩ := hlv.rr; obtain ⟨A5, g5, c5, rfl, -⟩ := hr5.at_; have HS5 := Lib.hid (HS4.out.step hf5); clear hlv hr5 hf5 HLV hv))
    clear hMI
    go_loop [12, 13] (fun lv kv => ∃ n : Nat, n ≤ D ∧ kv = .int .i64 ((n : Int) + 1) ∧ lv = .int .i64 (Bt.leastN n : Nat)) (fun _ kv => D + 1 - (intOf kv).toNat)
    case atStart => exact ⟨0, Nat.zero_le _, rfl, rfl⟩
    case round =>
      obtain ⟨n, hn, rfl, rfl⟩ := hrel
      have hL60 := HLF.out n (by omega)
      by_cases hlt : n < D
      · have nI : (n : Int) + 1 < (D : Int) + 1 := by omega
        have w1' : IntKind.i64.wrap ((n : Int) + 1 + 1) = (n : Int) + 1 + 1 := by rw [IntKind.wrap_i64]; omega
        have HNX : Hid (((Bt.leastN n : Nat) : Int) * 3 + 2 = ((Bt.leastN (n + 1) : Nat) : Int)) := by show _ = _; show _ = ((Bt.leastN n * 3 + 2 : Nat) : Int); omega
        generalize Bt.leastN n = L at *
        have w2' : IntKind.i64.wrap ((L : Int) * 3) = (L : Int) * 3 := by rw [IntKind.wrap_i64]; omega
        have w3' : IntKind.i64.wrap ((L : Int) * 3 + 2) = (L : Int) * 3 + 2 := by rw [IntKind.wrap_i64]; omega
        go_wp2
        go_round
        case rel => exact ⟨n + 1, by omega, by go_num, by rw [← HNX.out]⟩
        case measure => (simp [intOf]; try omega)
      · obtain rfl : D = n := by omega
        have nI : ¬ ((D : Int) : Int) + 1 < (D : Int) + 1 := by omega
        have HK2 := Lib.hid (bt_Keys w5 _ p q HS5.out.file HO2.out)
        have hMI := HMI.out
        generalize Bt.leastN (D) = L at *
        clear hlt hL60
        go_wp2_with (go_at_call 13; (with_reducible refine useC HK2.out ?_); intro e w6 hk; obtain ⟨A7, c7, rfl, hf7⟩ := hk.lens; rw [HN2.out]; have HF7 := Lib.hid ((HF1.out.trans HS5.out.fr).trans hf7); clear HK2 hk hf7)
        go_ret
        exact ⟨rfl, HF7.out⟩
  · have HDD : Hid ((D' : Int) + 1 = (D : Int) + 1 + 1) := by show _ = _; omega
    have HLL := Lib.hid hlv
    have hd2 : D ≤ 2 := by omega
    rw [hdd] at hleI
    clear hdd hlv
    go_enter Try.func5, Try.ntmps5
    go_wp2_with (first
      | (go_at_call 8; (with_reducible refine useC HFA.out ?_); rintro e w1 ⟨rfl, hf⟩; have HF1 := Lib.hid hf; clear hf)
      | (have hf' := HF1; go_at_call 9; (with_reducible refine useC (HG.out w1 HF1.out) ?_); rintro e w2 ⟨p, P, rfl, hS⟩; have HF2 := Lib.hid (HF1.out.trans hS.fr); have HS := Lib.hid hS; have HH1 := Lib.hid (bt_Height w2 P p s hS.file hS.ok); rw [HD.out] at HH1; have HK1 := Lib.hid (bt_Keys w2 P p s hS.file hS.ok); clear hS hf')
      | (have hh := HH1; clear hh; go_at_call 10; (with_reducible refine useC HH1.out ?_); rintro e w2 ⟨rfl, rfl⟩; clear HH1)
      | (have hh := HK1; clear hh; go_at_call 13; (with_reducible refine useC HK1.out ?_); intro e w3 hk; obtain ⟨A3, c3, rfl, hf3⟩ := hk.lens; rw [HN.out]; have HS3 := Lib.hid (HS.out.step hf3); have HF3 := Lib.hid (HF2.out.trans hf3); clear HK1 hk hf3)
      | (have hh := HS3; clear hh; go_at_call 18; (with_reducible refine useC (bt_Add w3 _ p s x HS3.out.file HO.out) ?_); intro e w4 ha; rw [HE.out, HQ.out] at ha; obtain ⟨rfl, hs4, hfp⟩ := HS3.out.turn HO2.out ha; have HS4 := Lib.hid hs4; have HH2 := Lib.hid (bt_Height w4 _ p q hs4.file HO2.out); rw [HD'.out, HDD.out] at HH2; have HLV := Lib.hid (bt_Level w4 _ p q 0 hs4.file HO2.out (by omega)); rw [if_neg (by omega), show Int.toNat 0 = 0 from rfl] at HLV; clear HS3 hs4 hfp ha)
      | (have hh := HH2; clear hh; go_at_call 10; (with_reducible refine useC HH2.out ?_); rintro e w4 ⟨rfl, rfl⟩; clear HH2)
      | (have hv := HLV; go_at_call 12; (with_reducible refine useC HLV.out ?_); intro e w5 hlv; obtain ⟨v5, rfl, hr5, hf5⟩ := hlv.rr; rw [HLL.out] at hr5; obtain ⟨A5, g5, c5, rfl, hat5⟩ := hr5.at_; obtain ⟨rfl, A6, c6, qc5⟩ := hat5 0 (by simp); have qc5 : w5.cell? ⟨g5, 0, none⟩ = some (.slice A6 1 c6) := qc5; have HS5 := Lib.hid (HS4.out.step hf5); clear hat5 hlv hr5 hf5 HLV hv))
    clear hMI
    go_loop [12, 13] (fun lv kv => ∃ n : Nat, n ≤ D + 1 ∧ kv = .int .i64 ((n : Int) + 1) ∧ lv = .int .i64 (Bt.leastN n : Nat)) (fun _ kv => D + 1 + 1 - (intOf kv).toNat)
    case atStart => exact ⟨0, Nat.zero_le _, rfl, rfl⟩
    case round =>
      obtain ⟨n, hn, rfl, rfl⟩ := hrel
      have hL60 := HLF.out n (by omega)
      by_cases hlt : n < D + 1
      · have nI : (n : Int) + 1 < (D : Int) + 1 + 1 := by omega
        have w1' : IntKind.i64.wrap ((n : Int) + 1 + 1) = (n : Int) + 1 + 1 := by rw [IntKind.wrap_i64]; omega
        have HNX : Hid (((Bt.leastN n : Nat) : Int) * 3 + 2 = ((Bt.leastN (n + 1) : Nat) : Int)) := by show _ = _; show _ = ((Bt.leastN n * 3 + 2 : Nat) : Int); omega
        generalize Bt.leastN n = L at *
        have w2' : IntKind.i64.wrap ((L : Int) * 3) = (L : Int) * 3 := by rw [IntKind.wrap_i64]; omega
        have w3' : IntKind.i64.wrap ((L : Int) * 3 + 2) = (L : Int) * 3 + 2 := by rw [IntKind.wrap_i64]; omega
        go_wp2
        go_round
        case rel => exact ⟨n + 1, by omega, by go_num, by rw [← HNX.out]⟩
        case measure => (simp [intOf]; try omega)
      · obtain rfl : n = D + 1 := by omega
        have nI : ¬ (((D + 1 : Nat) : Int) : Int) + 1 < (D : Int) + 1 + 1 := by omega
        have HK2 := Lib.hid (bt_Keys w5 _ p q HS5.out.file HO2.out)
        have hMI := HMI.out
        generalize Bt.leastN (D + 1) = L at *
        clear hlt hL60
        go_wp2_with (go_at_call 13; (with_reducible refine useC HK2.out ?_); intro e w6 hk; obtain ⟨A7, c7, rfl, hf7⟩ := hk.lens; rw [HN2.out]; have HF7 := Lib.hid ((HF1.out.trans HS5.out.fr).trans hf7); clear HK2 hk hf7)
        go_ret
        exact ⟨rfl, HF7.out⟩
theorem bt_highL (w : World) (v : Value) (g0 : Nat) (l : List Int) (h : Sl w v g0 l) (hl : l.length ≤ 9223372036854775807) (x : Int) : Calls Try.prog 5 #[v, .int .i64 x] w (OkT w) := by
  have hG : ∀ W, Fr [] w W → Calls Try.prog 9 #[v] W (BtMd (Bt.growAll (l.take 64)) W) := fun W hW => bt_grown W v g0 l (h.fr hW (by simp)) hl
  obtain ⟨A0, o0, c0, hv, -, -, -⟩ := h.form
  have hO := grow_ok (l.take 64)
  by_cases he : Bt.addErr (Bt.growAll (l.take 64)) x = 0
  · exact bt_high_ok w v x _ hG hO he ⟨A0, _, c0, hv⟩
  · exact bt_high_err w v x _ hG hO he ⟨A0, _, c0, hv⟩
end Go.Proofs.Ytokbhiokcoldbaa
