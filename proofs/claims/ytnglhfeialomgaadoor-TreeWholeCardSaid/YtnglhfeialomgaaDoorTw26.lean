/- The law TreeMove. -/

import Derived.Test.YtnglhfeialomgaaDoorTw21
import Derived.Test.YtnglhfeialomgaaDoorTw25
namespace Go.Proofs.YtnglhfeialomgaaDoor
open Go.RowKit

theorem slR_frP {w w' : World} {v : Value} {g : Nat} {l : List (List UInt8)} {P : Nat → Prop} (h : SlR strE w v g l) (hf : FrP P w w') (hP : ¬ P g ∨ l = []) : SlR strE w' v g l := by
  rcases h with h | ⟨a, c, e, h1, h2, h3⟩
  · exact .inl h
  · refine .inr ⟨a, c, e, h1, h2, fun i hi r hr => ?_⟩
    have h4 := h3 i hi r hr
    have h5 : ∃ x, w.cell? ⟨g, a + i * strE.k + r, none⟩ = some x := by
      rw [h4]
      have hr : r < 1 := hr
      obtain rfl : r = 0 := by omega
      exact ⟨_, rfl⟩
    obtain ⟨x, hx⟩ := h5
    rw [← h4]
    rcases hP with hP | hP
    · exact World.cell?_of_block (hf.block g (block_lt_of_cell hx) hP)
    · rw [hP] at hi; exact absurd hi (Nat.not_lt_zero i)
theorem TrL.off {w0 w : World} {tb K : Nat} {g : Tr.G} {dom : Nat → Prop} (h : TrL w0 w tb g dom K) {gv : Nat} {l : List (List UInt8)} (hg : w.heap.size ≤ gv ∨ l = []) : ¬ TrP tb g dom gv ∨ l = [] := by
  rcases hg with hg | hg
  · exact .inl (fun hp => by have := h.s.lt hp; omega)
  · exact .inr hg
theorem MoveL.ok {w0 w' : World} {tb K : Nat} {g : Tr.G} {dom : Nat → Prop} {old tu : List UInt8} {e : Ending} {P P' : List Tr.Nme} {d d' n : Nat} {x x' : Tr.Nme} (h : MoveL w0 tb g dom K old tu e w') (hm : Tr.Mv g P d x n P' d' x') (hp : Pa.parts old = (P ++ [x], 0)) (hp' : Pa.parts tu = (P' ++ [x'], 0)) (hdeep : ∀ r c, Tr.fnd g n r = .ok c → P'.length + 1 + r.length ≤ 8) :
    e = .returned .nilIface ∧ TrL w0 w' tb (Tr.movE g d x d' x' n) dom (K + 2) := by
  have h0 := Tr.moveErr_mv hm hp hp' hdeep
  obtain ⟨he, hr⟩ := h
  rw [h0, errV0] at he
  refine ⟨he, ?_⟩
  rcases hr with ⟨-, Q, a, y, b, Q', a', y', q1, q2, q3, -, h⟩ | ⟨h, -⟩
  · rw [hp] at q1
    rw [hp'] at q2
    have e1 := List.append_inj_left' (Prod.mk.inj q1).1 rfl
    have e2 := List.append_inj_right' (Prod.mk.inj q1).1 rfl
    have e3 := List.append_inj_left' (Prod.mk.inj q2).1 rfl
    have e4 := List.append_inj_right' (Prod.mk.inj q2).1 rfl
    injection e2 with e2 _
    injection e4 with e4 _
    subst e1 e2 e3 e4
    have f1 := q3.p
    rw [hm.p] at f1
    injection f1 with f1
    have f2 := q3.p'
    rw [hm.p'] at f2
    injection f2 with f2
    subst f1 f2
    have f3 := q3.k
    rw [hm.k] at f3
    have f3 := Option.some.inj f3
    subst f3
    exact h
  · exact absurd h0 h
set_option maxRecDepth 100000 in
set_option maxHeartbeats 4000000 in
theorem tree_move (w : World) (v : Value) (ls : List (List (List UInt8))) (hR : RwT w v ls) (old tu : ByteArray) :
    Calls Tryd.prog 4 #[v, .string old, .string tu] w (OkT w) := by
  have HF := Lib.hid (tr_fact w)
  have HG := Lib.hid (fun w1 hf => tr_grown w w1 v ls hR hf)
  obtain ⟨A, g0, o, c, rfl, -⟩ := hR
  go_enter Tryd.func4, Tryd.ntmps4
  go_upto_region 5 with (first
    | (go_at_call 8; (with_reducible refine useC HF.out ?_); rintro e w1 ⟨rfl, hf⟩; have HF1 := Lib.hid hf; clear hf)
    | (go_at_call 9; (with_reducible refine useC (HG.out w1 HF1.out) ?_); rintro e w2 ⟨tb, g, dom, rfl, h⟩; have HL2 := Lib.hid h; clear h))
  have HW2 := Lib.hid (trl_Walk HL2.out)
  go_upto_region 6 with (go_at_call 11; (with_reducible refine useC HW2.out ?_); rintro e w3 ⟨v1, l1, gv1, rfl, hg, hs, hw, -, -, h⟩; obtain ⟨A1, o1, c1, rfl, -⟩ := strs_cell hs; have HOFF := Lib.hid (HL2.out.off hg); have HS1 := Lib.hid hs; have HWI := Lib.hid hw; have HL3 := Lib.hid h; clear hg hs hw h)
  have HM := Lib.hid (trl_MoveF HL3.out (by decide) old tu)
  have HB := Lib.hid (fun W (g1 : Tr.G) K1 (h : TrL w W tb g1 dom K1) (hk : K1 ≤ 100000) => trl_MoveF h hk tu old)
  obtain ⟨st, hst⟩ : ∃ x, old.data.toList = x := ⟨_, rfl⟩
  obtain ⟨tt, htt⟩ : ∃ x, tu.data.toList = x := ⟨_, rfl⟩
  rw [hst, htt] at HM HB
  clear hst htt
  by_cases h0 : Tr.moveErr g st tt = 0
  · have HMS : Hid (Calls Tryd.prog 14 #[.pointer (some ⟨tb, 0, none⟩), .string old, .string tu] w3 fun e w' => e = .returned .nilIface ∧ ∃ P d x n P' d' x', Pa.parts st = (P ++ [x], 0) ∧ Pa.parts tt = (P' ++ [x'], 0) ∧ Tr.Mv g P d x n P' d' x' ∧ TrL w w' tb (Tr.movE g d x d' x' n) dom 82 ∧ FrP (TrP tb g dom) w3 w') :=
      HM.out.mono fun e w' ⟨⟨he, hr⟩, hf⟩ => by
        rw [h0, errV0] at he
        rcases hr with ⟨-, P, d, x, n, P', d', x', h1, h2, h3, -, h⟩ | ⟨h, -⟩
        · exact ⟨he, P, d, x, n, P', d', x', h1, h2, h3, h, hf⟩
        · exact absurd h0 h
    clear h0 HM
    go_upto_region 8 with (go_at_call 14; (with_reducible refine useC HMS.out ?_); rintro e w4 ⟨rfl, P, d, x, n, P', d', x', hp, hp', hmv, h, hf⟩; have HL4 := Lib.hid h; have HP := Lib.hid (And.intro hp hp'); have HMV := Lib.hid hmv; have HS4 := Lib.hid (slR_frP HS1.out hf HOFF.out); clear h hf hp hp' hmv)
    have HOK := Lib.hid HL2.out.s.ok
    have HW4 := Lib.hid (trl_Walk HL4.out)
    have HLEN := Lib.hid (fun l h => HMV.out.many HOK.out HL4.out.s.ok HWI.out (l' := l) h)
    have HTP : Hid (∀ k, TrP tb (Tr.movE g d x d' x' n) dom k → TrP tb g dom k) := fun k hk => trP_same (g := g) (g' := Tr.movE g d x d' x' n) (fun b => rfl) (fun b => Tr.Mv.isD b) hk
    have HBK : Hid (∀ W, TrL w W tb (Tr.movE g d x d' x' n) dom 82 → Calls Tryd.prog 14 #[.pointer (some ⟨tb, 0, none⟩), .string tu, .string old] W fun e w' => e = .returned .nilIface ∧ TrL w w' tb (Tr.movE (Tr.movE g d x d' x' n) d' x' d x n) dom 84 ∧ FrP (TrP tb (Tr.movE g d x d' x' n) dom) W w') := fun W hW =>
      (HB.out W _ 82 hW (by decide)).mono fun e w' ⟨h, hf⟩ => by
        obtain ⟨h1, h2⟩ := h.ok (HMV.out.back HOK.out) HP.out.2 HP.out.1 (HMV.out.backDeep HOK.out)
        exact ⟨h1, h2, hf⟩
    have HSAME : Hid (∀ l, Tr.WalkIs (Tr.movE (Tr.movE g d x d' x' n) d' x' d x n) l → l = l1) := fun l hl => Tr.walk_eq hl HWI.out (fun s => (HMV.out.sameF HOK.out HL4.out.s.ok).inW s)
    go_wp2_with (first
      | (have h' := HW4; go_at_call 11; (with_reducible refine useC HW4.out ?_); rintro e w5 ⟨v5, l5, gv5, rfl, -, hs, hw, -, hf, h⟩; obtain ⟨A5, o5, c5, rfl, -⟩ := strs_cell hs; have hl5 := HLEN.out l5 hw; rw [hl5]; have HL5 := Lib.hid h; have HS5 := Lib.hid (slR_fr HS4.out hf); have HB5 := Lib.hid (HBK.out w5 h); clear h' HW4 hs hw hf h hl5)
      | (go_at_call 14; (with_reducible refine useC HB5.out ?_); rintro e w6 ⟨rfl, h, hf⟩; have HW6 := Lib.hid (trl_Walk h); have HS6 := Lib.hid (slR_frP HS5.out hf (HOFF.out.imp (fun h hp => h (HTP.out _ hp)) id)); clear h hf)
      | (have h' := HW6; go_at_call 11; (with_reducible refine useC HW6.out ?_); rintro e w7 ⟨v7, l7, gv7, rfl, -, hs, hw, -, hf, h⟩; obtain rfl := HSAME.out l7 hw; obtain ⟨A7, o7, c7, rfl, -⟩ := strs_cell hs; have HTX := Lib.hid (texts_same w7 _ _ _ _ _ hs (slR_fr HS6.out hf)); have HF7 := Lib.hid h.fr; clear h' hs hw hf h)
      | (go_at_call 15; (with_reducible refine useC HTX.out ?_); rintro e w8 ⟨rfl, hf⟩; have HF8 := Lib.hid hf; clear hf))
    go_ret
    exact ⟨rfl, HF7.out.trans HF8.out⟩
  · have hev := errV_no h0
    have H0 := Lib.hid h0
    clear h0
    go_upto_region 7 with (go_at_call 14; (with_reducible refine useC HM.out ?_); rintro e w4 ⟨⟨rfl, ⟨h, -⟩ | ⟨-, h⟩⟩, hf⟩; exact absurd h H0.out; have HL4 := Lib.hid h; have HS4 := Lib.hid (slR_frP HS1.out hf HOFF.out); rw [hev]; clear h hf hev)
    have HW4 := Lib.hid (trl_Walk HL4.out)
    go_wp2_with (first
      | (go_at_call 11; (with_reducible refine useC HW4.out ?_); rintro e w5 ⟨v5, l5, gv5, rfl, -, hs, hw, -, hf, h⟩; obtain rfl := Tr.walk_eq hw HWI.out (fun s => Iff.rfl); obtain ⟨A5, o5, c5, rfl, -⟩ := strs_cell hs; have HTX := Lib.hid (texts_same w5 _ _ _ _ _ hs (slR_fr HS4.out hf)); have HF5 := Lib.hid h.fr; clear hs hw hf h)
      | (go_at_call 15; (with_reducible refine useC HTX.out ?_); rintro e w8 ⟨rfl, hf⟩; have HF8 := Lib.hid hf; clear hf))
    go_ret
    exact ⟨rfl, HF5.out.trans HF8.out⟩
end Go.Proofs.YtnglhfeialomgaaDoor
/- One more name, and one less; in plain Lean. -/
namespace Go.Proofs.YtnglhfeialomgaaDoor
namespace Tr

theorem atV_path {g : G} {s : List UInt8} {n : Nat} (h : atV g s = .ok n) : ∃ p, Pa.parts s = (p, 0) ∧ fnd g g.root p = .ok n := by
  unfold atV at h
  split at h
  · rename_i h0
    exact ⟨(Pa.parts s).1, by rw [← h0], h⟩
  · cases h
theorem atV_of {g : G} {s : List UInt8} {p : List Nme} {n : Nat} (hp : Pa.parts s = (p, 0)) (hf : fnd g g.root p = .ok n) : atV g s = .ok n := by
  unfold atV
  rw [hp, if_pos rfl]
  exact hf
theorem namesV_file {g : G} {s : List UInt8} {n : Nat} (h : atV g s = .ok n) (he : g.ent n = none) : namesV g s = .tuple #[.int .i64 (g.nms n), .nilIface] := by
  unfold namesV
  rw [h]
  show Value.tuple #[.int .i64 (if (g.ent n).isSome = true then 0 else g.nms n), .nilIface] = _
  rw [he]; rfl
structure LinkP (g : G) (st tt : List UInt8) (n d : Nat) (x : Nme) : Prop where
  n1 : namesV (addG g d x n) st = .tuple #[.int .i64 (g.nms n + 1), .nilIface]
  n2 : namesV (addG g d x n) tt = .tuple #[.int .i64 (g.nms n + 1), .nilIface]
  sp : spot (addG g d x n) tt = .at_ d x
  kd : kid (addG g d x n) d x = some n
  lf : Leaf (addG g d x n) n
  de : dropErr (addG g d x n) tt = 0
  n3 : namesV (dropG (addG g d x n) d x n) st = .tuple #[.int .i64 (g.nms n), .nilIface]
theorem linkP {g : G} {st tt : List UInt8} {n d : Nat} {x : Nme} (hO : OK g) (hO1 : OK (addG g d x n)) (ha : atV g st = .ok n) (he : g.ent n = none) (h0 : addErr g tt = 0) (hs : spot g tt = .at_ d x) : LinkP g st tt n d x := by
  obtain ⟨p, hp, hf⟩ := atV_path ha
  obtain ⟨P, hpt, hfd, hds⟩ := spot_at hs
  have hk := addErr_kid h0 hs
  have hne : n ≠ d := fun e => by rw [← e, he] at hds; cases hds
  have hfar : ¬ ∃ r, p = P ++ x :: r := fun ⟨r, e⟩ => by rw [e] at hf; exact free_none hfd hk r n hf
  have e1 : (addG g d x n).ent n = none := by rw [addG_ent, setE_ne hne]; exact he
  have f1 : fnd (addG g d x n) (addG g d x n).root p = .ok n := (added_far hO hfd hds hfar).trans hf
  have f2 : fnd (addG g d x n) (addG g d x n).root (P ++ [x]) = .ok n := added_fnd (x := x) hO hfd hds []
  have f3 : fnd (addG g d x n) (addG g d x n).root P = .ok d := (added_far hO hfd hds (fun ⟨r, e⟩ => by have := congrArg List.length e; simp at this)).trans hfd
  have hds1 : ((addG g d x n).ent d).isSome = true := by rw [addG_some]; exact hds
  have kd : kid (addG g d x n) d x = some n := by rw [added_kid hds, if_pos ⟨rfl, rfl⟩]
  have lf : Leaf (addG g d x n) n := fun y => by unfold kid; rw [e1]; rfl
  have sp : spot (addG g d x n) tt = .at_ d x := spot_of hpt f3 hds1
  have nm : (addG g d x n).nms n = g.nms n + 1 := if_pos rfl
  refine ⟨by rw [namesV_file (atV_of hp f1) e1, nm], by rw [namesV_file (atV_of hpt f2) e1, nm], sp, kd, lf, ((dropErr_at sp).2 n kd).1 lf, ?_⟩
  have e2 : (dropG (addG g d x n) d x n).ent n = none := (setE_ne hne x none).trans e1
  have f4 : fnd (dropG (addG g d x n) d x n) (dropG (addG g d x n) d x n).root p = .ok n := by
    have hc := fnd_congr (g := setE (addG g d x n) d x none) (g' := dropG (addG g d x n) d x n) (fun b => rfl)
    rw [hc]
    exact (fnd_set_far (hO1.way f3 hds1) x none hfar).trans f1
  have nm2 : (dropG (addG g d x n) d x n).nms n = g.nms n := by
    show (if n = n then (addG g d x n).nms n - 1 else _) = _
    rw [if_pos rfl, nm]; omega
  rw [namesV_file (atV_of hp f4) e2, nm2]
end Tr
end Go.Proofs.YtnglhfeialomgaaDoor

/- The law TreeLinks. -/
namespace Go.Proofs.YtnglhfeialomgaaDoor
open Go.RowKit

theorem DropL.ok {w0 w' : World} {tb K : Nat} {g : Tr.G} {dom : Nat → Prop} {s : List UInt8} {e : Ending} {d n : Nat} {x : Tr.Nme} (h : DropL w0 tb g dom K s e w') (h0 : Tr.dropErr g s = 0) (hs : Tr.spot g s = .at_ d x) (hk : Tr.kid g d x = some n) : e = .returned .nilIface ∧ TrL w0 w' tb (Tr.dropG g d x n) dom (K + 1) := by
  obtain ⟨he, hr⟩ := h
  rw [h0, errV0] at he
  rcases hr with ⟨-, d', x', n', hs', hk', -, h⟩ | ⟨h, -⟩
  · rw [hs] at hs'
    injection hs' with e1 e2
    subst e1 e2
    rw [hk] at hk'
    have e3 := Option.some.inj hk'
    subst e3
    exact ⟨he, h⟩
  · exact absurd h0 h
set_option maxRecDepth 100000 in
set_option maxHeartbeats 4000000 in
theorem tree_links (w : World) (v : Value) (ls : List (List (List UInt8))) (hR : RwT w v ls) (old tu : ByteArray) :
    Calls Tryd.prog 3 #[v, .string old, .string tu] w (OkT w) := by
  have HF := Lib.hid (tr_fact w)
  have HG := Lib.hid (fun w1 hf => tr_grown w w1 v ls hR hf)
  obtain ⟨A, g0, o, c, rfl, -⟩ := hR
  go_enter Tryd.func3, Tryd.ntmps3
  go_upto_region 5 with (first
    | (go_at_call 8; (with_reducible refine useC HF.out ?_); rintro e w1 ⟨rfl, hf⟩; have HF1 := Lib.hid hf; clear hf)
    | (go_at_call 9; (with_reducible refine useC (HG.out w1 HF1.out) ?_); rintro e w2 ⟨tb, g, dom, rfl, h⟩; have HL2 := Lib.hid h; clear h))
  have HN := Lib.hid (trl_Names HL2.out old)
  have HLK := Lib.hid (fun W (h : TrL w W tb g dom 80) => trl_Link h (by decide) old tu)
  have HNO := Lib.hid (fun W (g1 : Tr.G) K1 (h : TrL w W tb g1 dom K1) => trl_Names h old)
  have HNT := Lib.hid (fun W (g1 : Tr.G) K1 (h : TrL w W tb g1 dom K1) => trl_Names h tu)
  have HDR := Lib.hid (fun W (g1 : Tr.G) K1 (h : TrL w W tb g1 dom K1) (hk : K1 ≤ 100000) => trl_Drop h hk tu)
  obtain ⟨st, hst⟩ : ∃ x, old.data.toList = x := ⟨_, rfl⟩
  obtain ⟨tt, htt⟩ : ∃ x, tu.data.toList = x := ⟨_, rfl⟩
  rw [hst, htt] at HLK
  rw [hst] at HN HNO
  rw [htt] at HNT HDR
  clear hst htt
  cases hat : atV g st with
  | err ce =>
    have hne := Tr.atV_err_ne hat
    have hev := errV_no hne
    have hnv : namesV g st = .tuple #[.int .i64 0, errV ce] := by unfold namesV; rw [hat]
    rw [hnv, hev] at HN
    clear hat hne hev hnv
    go_wp2_with (go_at_call 10; (with_reducible refine useC HN.out ?_); rintro e w3 ⟨rfl, h, -⟩; have HL3 := Lib.hid h; clear h)
    go_ret
    exact ⟨rfl, HL3.out.fr⟩
  | ok n =>
    have HAT := Lib.hid hat
    obtain ⟨k, hk⟩ : ∃ k, (if (g.ent n).isSome = true then 0 else g.nms n) = k := ⟨_, rfl⟩
    have hnv : namesV g st = .tuple #[.int .i64 k, .nilIface] := by
      unfold namesV; rw [hat, ← hk]
    rw [hnv] at HN
    have HK := Lib.hid hk
    clear hat hnv hk
    go_upto_region 8 with (go_at_call 10; (with_reducible refine useC HN.out ?_); rintro e w3 ⟨rfl, h, -⟩; have HL3 := Lib.hid h; clear h)
    have HW := Lib.hid (trl_Walk HL3.out)
    have hmany := HL3.out.s.many
    have HMN := Lib.hid hmany
    clear hmany
    go_upto_region 9 with (go_at_call 11; (with_reducible refine useC HW.out ?_); rintro e w4 ⟨v1, l1, gv1, rfl, -, hs, -, hlen, -, h⟩; obtain ⟨A1, o1, c1, rfl, -⟩ := strs_cell hs; obtain ⟨M, hM⟩ : ∃ M, l1.length = M := ⟨_, rfl⟩; rw [hM] at hlen ⊢; have HM := Lib.hid hlen; have HL4 := Lib.hid h; clear hs hlen h hM)
    have hM9 : (M : Int) ≤ 24 := by have := HM.out; have := HMN.out; omega
    have mw : IntKind.i64.wrap ((M : Int) + 1) = (M : Int) + 1 := by rw [IntKind.wrap_i64]; omega
    by_cases h0 : Tr.linkErr g st tt = 0
    · have HLS : Hid (Calls Tryd.prog 12 #[.pointer (some ⟨tb, 0, none⟩), .string old, .string tu] w4 fun e w' => e = .returned .nilIface ∧ g.ent n = none ∧ ∃ d x, Tr.addErr g tt = 0 ∧ Tr.spot g tt = .at_ d x ∧ TrL w w' tb (Tr.addG g d x n) dom 81) :=
        (HLK.out w4 HL4.out).mono fun e w' ⟨he, hr⟩ => by
          rw [h0, errV0] at he
          rcases hr with ⟨-, n', d, x, q1, q2, q3, q4, h⟩ | ⟨h, -⟩
          · rw [HAT.out] at q1
            injection q1 with q1
            subst q1
            exact ⟨he, q2, d, x, q3, q4, h⟩
          · exact absurd h0 h
      have hnb := HL2.out.s.nb n (Tr.atV_dom HL2.out.s.rootD HL2.out.s.closed HAT.out)
      have HOK := Lib.hid HL2.out.s.ok
      clear h0
      go_upto_region 11 with (go_at_call 12; (with_reducible refine useC HLS.out ?_); rintro e w5 ⟨rfl, hen, d, x, h1, h2, h⟩; have HL5 := Lib.hid h; have HEN := Lib.hid hen; have HLP := Lib.hid (Tr.linkP HOK.out h.s.ok HAT.out hen h1 h2); clear h hen h1 h2)
      have hk : g.nms n = k := by
        have := HK.out
        rw [HEN.out] at this
        simpa using this
      rw [hk] at hnb
      have cw : IntKind.i64.wrap (k + 1) = k + 1 := by rw [IntKind.wrap_i64]; omega
      have HN5 : Hid (∀ W K1, TrL w W tb (Tr.addG g d x n) dom K1 → Calls Tryd.prog 10 #[.pointer (some ⟨tb, 0, none⟩), .string old] W fun e w' => e = .returned (.tuple #[.int .i64 (k + 1), .nilIface]) ∧ TrL w w' tb (Tr.addG g d x n) dom K1) := fun W K1 h =>
        (HNO.out W _ K1 h).mono fun e w' ⟨he, h, _⟩ => ⟨by rw [he, HLP.out.n1, hk], h⟩
      have HN6 : Hid (∀ W K1, TrL w W tb (Tr.addG g d x n) dom K1 → Calls Tryd.prog 10 #[.pointer (some ⟨tb, 0, none⟩), .string tu] W fun e w' => e = .returned (.tuple #[.int .i64 (k + 1), .nilIface]) ∧ TrL w w' tb (Tr.addG g d x n) dom K1) := fun W K1 h =>
        (HNT.out W _ K1 h).mono fun e w' ⟨he, h, _⟩ => ⟨by rw [he, HLP.out.n2, hk], h⟩
      have HD7 : Hid (∀ W K1, TrL w W tb (Tr.addG g d x n) dom K1 → K1 ≤ 100000 → Calls Tryd.prog 13 #[.pointer (some ⟨tb, 0, none⟩), .string tu] W fun e w' => e = .returned .nilIface ∧ TrL w w' tb (Tr.dropG (Tr.addG g d x n) d x n) dom (K1 + 1)) := fun W K1 h hK1 =>
        (HDR.out W _ K1 h hK1).mono fun e w' h => h.ok HLP.out.de HLP.out.sp HLP.out.kd
      have HN8 : Hid (∀ W K1, TrL w W tb (Tr.dropG (Tr.addG g d x n) d x n) dom K1 → Calls Tryd.prog 10 #[.pointer (some ⟨tb, 0, none⟩), .string old] W fun e w' => e = .returned (.tuple #[.int .i64 k, .nilIface]) ∧ TrL w w' tb (Tr.dropG (Tr.addG g d x n) d x n) dom K1) := fun W K1 h =>
        (HNO.out W _ K1 h).mono fun e w' ⟨he, h, _⟩ => ⟨by rw [he, HLP.out.n3, hk], h⟩
      have HM1 : Hid (∀ l : List (List UInt8), (l.length : Int) = (Tr.addG g d x n).many → l.length = M + 1) := fun l hl => by
        have : (l.length : Int) = g.many + 1 := hl
        have := HM.out
        omega
      have HM2 : Hid (∀ l : List (List UInt8), (l.length : Int) = (Tr.dropG (Tr.addG g d x n) d x n).many → l.length = M) := fun l hl => by
        have : (l.length : Int) = g.many + 1 - 1 := hl
        have := HM.out
        omega
      clear hnb hk hM9
      go_upto_region 15 with (first
        | (have h' := HL5; go_at_call 10; (with_reducible refine useC (HN5.out w5 81 HL5.out) ?_); rintro e w6 ⟨rfl, h⟩; have HL6 := Lib.hid h; clear h h' HL5)
        | (have h' := HL6; go_at_call 10; (with_reducible refine useC (HN6.out w6 81 HL6.out) ?_); rintro e w7 ⟨rfl, h⟩; have HL7 := Lib.hid (trl_Walk h); clear h h' HL6)
        | (have h' := HL7; go_at_call 11; (with_reducible refine useC HL7.out ?_); rintro e w8 ⟨v8, l8, gv8, rfl, -, hs, -, hlen, -, h⟩; obtain ⟨A8, o8, c8, rfl, -⟩ := strs_cell hs; have hl8 := HM1.out l8 hlen; rw [hl8]; have HL8 := Lib.hid h; clear hs hlen h h' hl8 HL7))
      have HDR8 := Lib.hid (HD7.out w8 81 HL8.out (by decide))
      go_wp2_with (first
        | (go_at_call 13; (with_reducible refine useC HDR8.out ?_); rintro e w9 ⟨rfl, h⟩; have HL9 := Lib.hid (HN8.out w9 82 h); clear h)
        | (have h' := HL9; go_at_call 10; (with_reducible refine useC HL9.out ?_); rintro e wa ⟨rfl, h⟩; have HLA := Lib.hid (trl_Walk h); clear h h' HL9)
        | (have h' := HLA; go_at_call 11; (with_reducible refine useC HLA.out ?_); rintro e wb ⟨vb, lb, gvb, rfl, -, hs, -, hlen, -, h⟩; obtain ⟨Ab, ob, cb, rfl, -⟩ := strs_cell hs; have hlb := HM2.out lb hlen; rw [hlb]; have HLB := Lib.hid h; clear hs hlen h h' hlb HLA))
      go_ret
      exact ⟨rfl, HLB.out.fr⟩
    · have hev := errV_no h0
      have HLN : Hid (Calls Tryd.prog 12 #[.pointer (some ⟨tb, 0, none⟩), .string old, .string tu] w4 fun e w' => e = .returned (.iface 57 (.int .i64 (Tr.linkErr g st tt))) ∧ TrL w w' tb g dom 80) :=
        (HLK.out w4 HL4.out).mono fun e w' ⟨he, hr⟩ => by
          rw [hev] at he
          rcases hr with ⟨h, -⟩ | ⟨-, h⟩
          · exact absurd h h0
          · exact ⟨he, h⟩
      clear h0 hev hM9 mw
      go_wp2_with (first
        | (go_at_call 12; (with_reducible refine useC HLN.out ?_); rintro e w5 ⟨rfl, h⟩; have HW5 := Lib.hid (trl_Walk h); clear h)
        | (go_at_call 11; (with_reducible refine useC HW5.out ?_); rintro e w6 ⟨v2, l2, gv2, rfl, -, hs, -, hlen, -, h⟩; obtain ⟨A2, o2, c2, rfl, -⟩ := strs_cell hs; have hl2 : l2.length = M := (by have := HM.out; omega); rw [hl2]; have HL6 := Lib.hid h; clear hs hlen h hl2))
      go_ret
      exact ⟨rfl, HL6.out.fr⟩
end Go.Proofs.YtnglhfeialomgaaDoor
