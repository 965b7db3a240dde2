/- The law TreeMove. -/
import Derived.Test.YtnglhfeialomgaaDoorTrGrown
namespace Go.Proofs.YtnglhfeialomgaaDoor
open Go.RowKit

theorem slR_frP {w w' : World} {v : Value} {g : Nat} {l : List (List UInt8)} {P : Nat → Prop} (h : SlR strE w v g l) (hf : FrP P w w') (hP : ¬ P g ∨ l = []) : SlR strE w' v g l := by
  rcases h with h | ⟨a, c, e, h1, h2, h3⟩
  · exact .inl h
  · refine .inr ⟨a, c, e, h1, h2, fun i hi r hr => ?_⟩
    have h4 := h3 i hi r hr
    have h5 : ∃ x, w.cell? ⟨g, a + i * strE.k + r, none⟩ = some x := by
      rw [h4]
      have hr : r < 1 := hr
      obtain rfl : r = 0 := by omega
      exact ⟨_, rfl⟩
    obtain ⟨x, hx⟩ := h5
    rw [← h4]
    rcases hP with hP | hP
    · exact World.cell?_of_block (hf.block g (block_lt_of_cell hx) hP)
    · rw [hP] at hi; exact absurd hi (Nat.not_lt_zero i)
theorem TrL.off {w0 w : World} {tb K : Nat} {g : Tr.G} {dom : Nat → Prop} (h : TrL w0 w tb g dom K) {gv : Nat} {l : List (List UInt8)} (hg : w.heap.size ≤ gv ∨ l = []) : ¬ TrP tb g dom gv ∨ l = [] := by
  rcases hg with hg | hg
  · exact .inl (fun hp => by have := h.s.lt hp; omega)
  · exact .inr hg
theorem MoveL.ok {w0 w' : World} {tb K : Nat} {g : Tr.G} {dom : Nat → Prop} {old tu : List UInt8} {e : Ending} {P P' : List Tr.Nme} {d d' n : Nat} {x x' : Tr.Nme} (h : MoveL w0 tb g dom K old tu e w') (hm : Tr.Mv g P d x n P' d' x') (hp : Pa.parts old = (P ++ [x], 0)) (hp' : Pa.parts tu = (P' ++ [x'], 0)) (hdeep : ∀ r c, Tr.fnd g n r = .ok c → P'.length + 1 + r.length ≤ 8) :
    e = .returned .nilIface ∧ TrL w0 w' tb (Tr.movE g d x d' x' n) dom (K + 2) := by
  have h0 := Tr.moveErr_mv hm hp hp' hdeep
  obtain ⟨he, hr⟩ := h
  rw [h0, errV0] at he
  refine ⟨he, ?_⟩
  rcases hr with ⟨-, Q, a, y, b, Q', a', y', q1, q2, q3, -, h⟩ | ⟨h, -⟩
  · rw [hp] at q1
    rw [hp'] at q2
    have e1 := List.append_inj_left' (Prod.mk.inj q1).1 rfl
    have e2 := List.append_inj_right' (Prod.mk.inj q1).1 rfl
    have e3 := List.append_inj_left' (Prod.mk.inj q2).1 rfl
    have e4 := List.append_inj_right' (Prod.mk.inj q2).1 rfl
    injection e2 with e2 _
    injection e4 with e4 _
    subst e1 e2 e3 e4
    have f1 := q3.p
    rw [hm.p] at f1
    injection f1 with f1
    have f2 := q3.p'
    rw [hm.p'] at f2
    injection f2 with f2
    subst f1 f2
    have f3 := q3.k
    rw [hm.k] at f3
    have f3 := Option.some.inj f3
    subst f3
    exact h
  · exact absurd h0 h
set_option maxRecDepth 100000 in
set_option maxHeartbeats 4000000 in
theorem tree_move (w : World) (v : Value) (ls : List (List (List UInt8))) (hR : RwT w v ls) (old tu : ByteArray) :
    Calls Tryd.prog 4 #[v, .string old, .string tu] w (OkT w) := by
  have HF := Lib.hid (tr_fact w)
  have HG := Lib.hid (fun w1 hf => tr_grown w w1 v ls hR hf)
  obtain ⟨A, g0, o, c, rfl, -⟩ := hR
  go_enter Tryd.func4, Tryd.ntmps4
  go_upto_region 5 with (first
    | (go_at_call 8; (with_reducible refine useC HF.out ?_); rintro e w1 ⟨rfl, hf⟩; have HF1 := Lib.hid hf; clear hf)
    | (go_at_call 9; (with_reducible refine useC (HG.out w1 HF1.out) ?_); rintro e w2 ⟨tb, g, dom, rfl, h⟩; have HL2 := Lib.hid h; clear h))
  have HW2 := Lib.hid (trl_Walk HL2.out)
  go_upto_region 6 with (go_at_call 11; (with_reducible refine useC HW2.out ?_); rintro e w3 ⟨v1, l1, gv1, rfl, hg, hs, hw, -, -, h⟩; obtain ⟨A1, o1, c1, rfl, -⟩ := strs_cell hs; have HOFF := Lib.hid (HL2.out.off hg); have HS1 := Lib.hid hs; have HWI := Lib.hid hw; have HL3 := Lib.hid h; clear hg hs hw h)
  have HM := Lib.hid (trl_MoveF HL3.out (by decide) old tu)
  have HB := Lib.hid (fun W (g1 : Tr.G) K1 (h : TrL w W tb g1 dom K1) (hk : K1 ≤ 100000) => trl_MoveF h hk tu old)
  obtain ⟨st, hst⟩ : ∃ x, old.data.toList = x := ⟨_, rfl⟩
  obtain ⟨tt, htt⟩ : ∃ x, tu.data.toList = x := ⟨_, rfl⟩
  rw [hst, htt] at HM HB
  clear hst htt
  by_cases h0 : Tr.moveErr g st tt = 0
  · have HMS : Hid (Calls Tryd.prog 14 #[.pointer (some ⟨tb, 0, none⟩), .string old, .string tu] w3 fun e w' => e = .returned .nilIface ∧ ∃ P d x n P' d' x', Pa.parts st = (P ++ [x], 0) ∧ Pa.parts tt = (P' ++ [x'], 0) ∧ Tr.Mv g P d x n P' d' x' ∧ TrL w w' tb (Tr.movE g d x d' x' n) dom 82 ∧ FrP (TrP tb g dom) w3 w') :=
      HM.out.mono fun e w' ⟨⟨he, hr⟩, hf⟩ => by
        rw [h0, errV0] at he
        rcases hr with ⟨-, P, d, x, n, P', d', x', h1, h2, h3, -, h⟩ | ⟨h, -⟩
        · exact ⟨he, P, d, x, n, P', d', x', h1, h2, h3, h, hf⟩
        · exact absurd h0 h
    clear h0 HM
    go_upto_region 8 with (go_at_call 14; (with_reducible refine useC HMS.out ?_); rintro e w4 ⟨rfl, P, d, x, n, P', d', x', hp, hp', hmv, h, hf⟩; have HL4 := Lib.hid h; have HP := Lib.hid (And.intro hp hp'); have HMV := Lib.hid hmv; have HS4 := Lib.hid (slR_frP HS1.out hf HOFF.out); clear h hf hp hp' hmv)
    have HOK := Lib.hid HL2.out.s.ok
    have HW4 := Lib.hid (trl_Walk HL4.out)
    have HLEN := Lib.hid (fun l h => HMV.out.many HOK.out HL4.out.s.ok HWI.out (l' := l) h)
    have HTP : Hid (∀ k, TrP tb (Tr.movE g d x d' x' n) dom k → TrP tb g dom k) := fun k hk => trP_same (g := g) (g' := Tr.movE g d x d' x' n) (fun b => rfl) (fun b => Tr.Mv.isD b) hk
    have HBK : Hid (∀ W, TrL w W tb (Tr.movE g d x d' x' n) dom 82 → Calls Tryd.prog 14 #[.pointer (some ⟨tb, 0, none⟩), .string tu, .string old] W fun e w' => e = .returned .nilIface ∧ TrL w w' tb (Tr.movE (Tr.movE g d x d' x' n) d' x' d x n) dom 84 ∧ FrP (TrP tb (Tr.movE g d x d' x' n) dom) W w') := fun W hW =>
      (HB.out W _ 82 hW (by decide)).mono fun e w' ⟨h, hf⟩ => by
        obtain ⟨h1, h2⟩ := h.ok (HMV.out.back HOK.out) HP.out.2 HP.out.1 (HMV.out.backDeep HOK.out)
        exact ⟨h1, h2, hf⟩
    have HSAME : Hid (∀ l, Tr.WalkIs (Tr.movE (Tr.movE g d x d' x' n) d' x' d x n) l → l = l1) := fun l hl => Tr.walk_eq hl HWI.out (fun s => (HMV.out.sameF HOK.out HL4.out.s.ok).inW s)
    go_wp2_with (first
      | (have h' := HW4; go_at_call 11; (with_reducible refine useC HW4.out ?_); rintro e w5 ⟨v5, l5, gv5, rfl, -, hs, hw, -, hf, h⟩; obtain ⟨A5, o5, c5, rfl, -⟩ := strs_cell hs; have hl5 := HLEN.out l5 hw; rw [hl5]; have HL5 := Lib.hid h; have HS5 := Lib.hid (slR_fr HS4.out hf); have HB5 := Lib.hid (HBK.out w5 h); clear h' HW4 hs hw hf h hl5)
      | (go_at_call 14; (with_reducible refine useC HB5.out ?_); rintro e w6 ⟨rfl, h, hf⟩; have HW6 := Lib.hid (trl_Walk h); have HS6 := Lib.hid (slR_frP HS5.out hf (HOFF.out.imp (fun h hp => h (HTP.out _ hp)) id)); clear h hf)
      | (have h' := HW6; go_at_call 11; (with_reducible refine useC HW6.out ?_); rintro e w7 ⟨v7, l7, gv7, rfl, -, hs, hw, -, hf, h⟩; obtain rfl := HSAME.out l7 hw; obtain ⟨A7, o7, c7, rfl, -⟩ := strs_cell hs; have HTX := Lib.hid (texts_same w7 _ _ _ _ _ hs (slR_fr HS6.out hf)); have HF7 := Lib.hid h.fr; clear h' hs hw hf h)
      | (go_at_call 15; (with_reducible refine useC HTX.out ?_); rintro e w8 ⟨rfl, hf⟩; have HF8 := Lib.hid hf; clear hf))
    go_ret
    exact ⟨rfl, HF7.out.trans HF8.out⟩
  · have hev := errV_no h0
    have H0 := Lib.hid h0
    clear h0
    go_upto_region 7 with (go_at_call 14; (with_reducible refine useC HM.out ?_); rintro e w4 ⟨⟨rfl, ⟨h, -⟩ | ⟨-, h⟩⟩, hf⟩; exact absurd h H0.out; have HL4 := Lib.hid h; have HS4 := Lib.hid (slR_frP HS1.out hf HOFF.out); rw [hev]; clear h hf hev)
    have HW4 := Lib.hid (trl_Walk HL4.out)
    go_wp2_with (first
      | (go_at_call 11; (with_reducible refine useC HW4.out ?_); rintro e w5 ⟨v5, l5, gv5, rfl, -, hs, hw, -, hf, h⟩; obtain rfl := Tr.walk_eq hw HWI.out (fun s => Iff.rfl); obtain ⟨A5, o5, c5, rfl, -⟩ := strs_cell hs; have HTX := Lib.hid (texts_same w5 _ _ _ _ _ hs (slR_fr HS4.out hf)); have HF5 := Lib.hid h.fr; clear hs hw hf h)
      | (go_at_call 15; (with_reducible refine useC HTX.out ?_); rintro e w8 ⟨rfl, hf⟩; have HF8 := Lib.hid hf; clear hf))
    go_ret
    exact ⟨rfl, HF5.out.trans HF8.out⟩
end Go.Proofs.YtnglhfeialomgaaDoor
