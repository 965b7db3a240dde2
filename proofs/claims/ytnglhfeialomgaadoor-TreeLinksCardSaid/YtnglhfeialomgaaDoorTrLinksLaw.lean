/- The law TreeLinks. -/
import Derived.Test.YtnglhfeialomgaaDoorTrMoveLaw
import Derived.Test.YtnglhfeialomgaaDoorTrLinksP
namespace Go.Proofs.YtnglhfeialomgaaDoor
open Go.RowKit

theorem DropL.ok {w0 w' : World} {tb K : Nat} {g : Tr.G} {dom : Nat → Prop} {s : List UInt8} {e : Ending} {d n : Nat} {x : Tr.Nme} (h : DropL w0 tb g dom K s e w') (h0 : Tr.dropErr g s = 0) (hs : Tr.spot g s = .at_ d x) (hk : Tr.kid g d x = some n) : e = .returned .nilIface ∧ TrL w0 w' tb (Tr.dropG g d x n) dom (K + 1) := by
  obtain ⟨he, hr⟩ := h
  rw [h0, errV0] at he
  rcases hr with ⟨-, d', x', n', hs', hk', -, h⟩ | ⟨h, -⟩
  · rw [hs] at hs'
    injection hs' with e1 e2
    subst e1 e2
    rw [hk] at hk'
    have e3 := Option.some.inj hk'
    subst e3
    exact ⟨he, h⟩
  · exact absurd h0 h
set_option maxRecDepth 100000 in
set_option maxHeartbeats 4000000 in
theorem tree_links (w : World) (v : Value) (ls : List (List (List UInt8))) (hR : RwT w v ls) (old tu : ByteArray) :
    Calls Tryd.prog 3 #[v, .string old, .string tu] w (OkT w) := by
  have HF := Lib.hid (tr_fact w)
  have HG := Lib.hid (fun w1 hf => tr_grown w w1 v ls hR hf)
  obtain ⟨A, g0, o, c, rfl, -⟩ := hR
  go_enter Tryd.func3, Tryd.ntmps3
  go_upto_region 5 with (first
    | (go_at_call 8; (with_reducible refine useC HF.out ?_); rintro e w1 ⟨rfl, hf⟩; have HF1 := Lib.hid hf; clear hf)
    | (go_at_call 9; (with_reducible refine useC (HG.out w1 HF1.out) ?_); rintro e w2 ⟨tb, g, dom, rfl, h⟩; have HL2 := Lib.hid h; clear h))
  have HN := Lib.hid (trl_Names HL2.out old)
  have HLK := Lib.hid (fun W (h : TrL w W tb g dom 80) => trl_Link h (by decide) old tu)
  have HNO := Lib.hid (fun W (g1 : Tr.G) K1 (h : TrL w W tb g1 dom K1) => trl_Names h old)
  have HNT := Lib.hid (fun W (g1 : Tr.G) K1 (h : TrL w W tb g1 dom K1) => trl_Names h tu)
  have HDR := Lib.hid (fun W (g1 : Tr.G) K1 (h : TrL w W tb g1 dom K1) (hk : K1 ≤ 100000) => trl_Drop h hk tu)
  obtain ⟨st, hst⟩ : ∃ x, old.data.toList = x := ⟨_, rfl⟩
  obtain ⟨tt, htt⟩ : ∃ x, tu.data.toList = x := ⟨_, rfl⟩
  rw [hst, htt] at HLK
  rw [hst] at HN HNO
  rw [htt] at HNT HDR
  clear hst htt
  cases hat : atV g st with
  | err ce =>
    have hne := Tr.atV_err_ne hat
    have hev := errV_no hne
    have hnv : namesV g st = .tuple #[.int .i64 0, errV ce] := by unfold namesV; rw [hat]
    rw [hnv, hev] at HN
    clear hat hne hev hnv
    go_wp2_with (go_at_call 10; (with_reducible refine useC HN.out ?_); rintro e w3 ⟨rfl, h, -⟩; have HL3 := Lib.hid h; clear h)
    go_ret
    exact ⟨rfl, HL3.out.fr⟩
  | ok n =>
    have HAT := Lib.hid hat
    obtain ⟨k, hk⟩ : ∃ k, (if (g.ent n).isSome = true then 0 else g.nms n) = k := ⟨_, rfl⟩
    have hnv : namesV g st = .tuple #[.int .i64 k, .nilIface] := by
      unfold namesV; rw [hat, ← hk]
    rw [hnv] at HN
    have HK := Lib.hid hk
    clear hat hnv hk
    go_upto_region 8 with (go_at_call 10; (with_reducible refine useC HN.out ?_); rintro e w3 ⟨rfl, h, -⟩; have HL3 := Lib.hid h; clear h)
    have HW := Lib.hid (trl_Walk HL3.out)
    have hmany := HL3.out.s.many
    have HMN := Lib.hid hmany
    clear hmany
    go_upto_region 9 with (go_at_call 11; (with_reducible refine useC HW.out ?_); rintro e w4 ⟨v1, l1, gv1, rfl, -, hs, -, hlen, -, h⟩; obtain ⟨A1, o1, c1, rfl, -⟩ := strs_cell hs; obtain ⟨M, hM⟩ : ∃ M, l1.length = M := ⟨_, rfl⟩; rw [hM] at hlen ⊢; have HM := Lib.hid hlen; have HL4 := Lib.hid h; clear hs hlen h hM)
    have hM9 : (M : Int) ≤ 24 := by have := HM.out; have := HMN.out; omega
    have mw : IntKind.i64.wrap ((M : Int) + 1) = (M : Int) + 1 := by rw [IntKind.wrap_i64]; omega
    by_cases h0 : Tr.linkErr g st tt = 0
    · have HLS : Hid (Calls Tryd.prog 12 #[.pointer (some ⟨tb, 0, none⟩), .string old, .string tu] w4 fun e w' => e = .returned .nilIface ∧ g.ent n = none ∧ ∃ d x, Tr.addErr g tt = 0 ∧ Tr.spot g tt = .at_ d x ∧ TrL w w' tb (Tr.addG g d x n) dom 81) :=
        (HLK.out w4 HL4.out).mono fun e w' ⟨he, hr⟩ => by
          rw [h0, errV0] at he
          rcases hr with ⟨-, n', d, x, q1, q2, q3, q4, h⟩ | ⟨h, -⟩
          · rw [HAT.out] at q1
            injection q1 with q1
            subst q1
            exact ⟨he, q2, d, x, q3, q4, h⟩
          · exact absurd h0 h
      have hnb := HL2.out.s.nb n (Tr.atV_dom HL2.out.s.rootD HL2.out.s.closed HAT.out)
      have HOK := Lib.hid HL2.out.s.ok
      clear h0
      go_upto_region 11 with (go_at_call 12; (with_reducible refine useC HLS.out ?_); rintro e w5 ⟨rfl, hen, d, x, h1, h2, h⟩; have HL5 := Lib.hid h; have HEN := Lib.hid hen; have HLP := Lib.hid (Tr.linkP HOK.out h.s.ok HAT.out hen h1 h2); clear h hen h1 h2)
      have hk : g.nms n = k := by
        have := HK.out
        rw [HEN.out] at this
        simpa using this
      rw [hk] at hnb
      have cw : IntKind.i64.wrap (k + 1) = k + 1 := by rw [IntKind.wrap_i64]; omega
      have HN5 : Hid (∀ W K1, TrL w W tb (Tr.addG g d x n) dom K1 → Calls Tryd.prog 10 #[.pointer (some ⟨tb, 0, none⟩), .string old] W fun e w' => e = .returned (.tuple #[.int .i64 (k + 1), .nilIface]) ∧ TrL w w' tb (Tr.addG g d x n) dom K1) := fun W K1 h =>
        (HNO.out W _ K1 h).mono fun e w' ⟨he, h, _⟩ => ⟨by rw [he, HLP.out.n1, hk], h⟩
      have HN6 : Hid (∀ W K1, TrL w W tb (Tr.addG g d x n) dom K1 → Calls Tryd.prog 10 #[.pointer (some ⟨tb, 0, none⟩), .string tu] W fun e w' => e = .returned (.tuple #[.int .i64 (k + 1), .nilIface]) ∧ TrL w w' tb (Tr.addG g d x n) dom K1) := fun W K1 h =>
        (HNT.out W _ K1 h).mono fun e w' ⟨he, h, _⟩ => ⟨by rw [he, HLP.out.n2, hk], h⟩
      have HD7 : Hid (∀ W K1, TrL w W tb (Tr.addG g d x n) dom K1 → K1 ≤ 100000 → Calls Tryd.prog 13 #[.pointer (some ⟨tb, 0, none⟩), .string tu] W fun e w' => e = .returned .nilIface ∧ TrL w w' tb (Tr.dropG (Tr.addG g d x n) d x n) dom (K1 + 1)) := fun W K1 h hK1 =>
        (HDR.out W _ K1 h hK1).mono fun e w' h => h.ok HLP.out.de HLP.out.sp HLP.out.kd
      have HN8 : Hid (∀ W K1, TrL w W tb (Tr.dropG (Tr.addG g d x n) d x n) dom K1 → Calls Tryd.prog 10 #[.pointer (some ⟨tb, 0, none⟩), .string old] W fun e w' => e = .returned (.tuple #[.int .i64 k, .nilIface]) ∧ TrL w w' tb (Tr.dropG (Tr.addG g d x n) d x n) dom K1) := fun W K1 h =>
        (HNO.out W _ K1 h).mono fun e w' ⟨he, h, _⟩ => ⟨by rw [he, HLP.out.n3, hk], h⟩
      have HM1 : Hid (∀ l : List (List UInt8), (l.length : Int) = (Tr.addG g d x n).many → l.length = M + 1) := fun l hl => by
        have : (l.length : Int) = g.many + 1 := hl
        have := HM.out
        omega
      have HM2 : Hid (∀ l : List (List UInt8), (l.length : Int) = (Tr.dropG (Tr.addG g d x n) d x n).many → l.length = M) := fun l hl => by
        have : (l.length : Int) = g.many + 1 - 1 := hl
        have := HM.out
        omega
      clear hnb hk hM9
      go_upto_region 15 with (first
        | (have h' := HL5; go_at_call 10; (with_reducible refine useC (HN5.out w5 81 HL5.out) ?_); rintro e w6 ⟨rfl, h⟩; have HL6 := Lib.hid h; clear h h' HL5)
        | (have h' := HL6; go_at_call 10; (with_reducible refine useC (HN6.out w6 81 HL6.out) ?_); rintro e w7 ⟨rfl, h⟩; have HL7 := Lib.hid (trl_Walk h); clear h h' HL6)
        | (have h' := HL7; go_at_call 11; (with_reducible refine useC HL7.out ?_); rintro e w8 ⟨v8, l8, gv8, rfl, -, hs, -, hlen, -, h⟩; obtain ⟨A8, o8, c8, rfl, -⟩ := strs_cell hs; have hl8 := HM1.out l8 hlen; rw [hl8]; have HL8 := Lib.hid h; clear hs hlen h h' hl8 HL7))
      have HDR8 := Lib.hid (HD7.out w8 81 HL8.out (by decide))
      go_wp2_with (first
        | (go_at_call 13; (with_reducible refine useC HDR8.out ?_); rintro e w9 ⟨rfl, h⟩; have HL9 := Lib.hid (HN8.out w9 82 h); clear h)
        | (have h' := HL9; go_at_call 10; (with_reducible refine useC HL9.out ?_); rintro e wa ⟨rfl, h⟩; have HLA := Lib.hid (trl_Walk h); clear h h' HL9)
        | (have h' := HLA; go_at_call 11; (with_reducible refine useC HLA.out ?_); rintro e wb ⟨vb, lb, gvb, rfl, -, hs, -, hlen, -, h⟩; obtain ⟨Ab, ob, cb, rfl, -⟩ := strs_cell hs; have hlb := HM2.out lb hlen; rw [hlb]; have HLB := Lib.hid h; clear hs hlen h h' hlb HLA))
      go_ret
      exact ⟨rfl, HLB.out.fr⟩
    · have hev := errV_no h0
      have HLN : Hid (Calls Tryd.prog 12 #[.pointer (some ⟨tb, 0, none⟩), .string old, .string tu] w4 fun e w' => e = .returned (.iface 57 (.int .i64 (Tr.linkErr g st tt))) ∧ TrL w w' tb g dom 80) :=
        (HLK.out w4 HL4.out).mono fun e w' ⟨he, hr⟩ => by
          rw [hev] at he
          rcases hr with ⟨h, -⟩ | ⟨-, h⟩
          · exact absurd h h0
          · exact ⟨he, h⟩
      clear h0 hev hM9 mw
      go_wp2_with (first
        | (go_at_call 12; (with_reducible refine useC HLN.out ?_); rintro e w5 ⟨rfl, h⟩; have HW5 := Lib.hid (trl_Walk h); clear h)
        | (go_at_call 11; (with_reducible refine useC HW5.out ?_); rintro e w6 ⟨v2, l2, gv2, rfl, -, hs, -, hlen, -, h⟩; obtain ⟨A2, o2, c2, rfl, -⟩ := strs_cell hs; have hl2 : l2.length = M := (by have := HM.out; omega); rw [hl2]; have HL6 := Lib.hid h; clear hs hlen h hl2))
      go_ret
      exact ⟨rfl, HL6.out.fr⟩
end Go.Proofs.YtnglhfeialomgaaDoor
