/- The document's At, Thing, Spot. -/

import Derived.Test.YtnglhfeialomgaaGreatDoorTz08
import Derived.Test.YtnglhfeialomgaaGreatDoorTz17
namespace Go.Proofs.YtnglhfeialomgaaGreatDoor
open Go.RowKit

theorem slE_take {α : Type} {E : Enc α} {w : World} {A : Option Addr} {n c g k : Nat} {l : List α} (h : SlR E w (.slice A n c) g l) (hk : k ≤ l.length) : SlR E w (.slice A k c) g (l.take k) := by
  have hlen : (l.take k).length = k := by rw [List.length_take]; omega
  rcases h with ⟨h, B, d, e⟩ | ⟨o, c', e, h1, h2, h3⟩
  · subst h
    have : k = 0 := by simpa using hk
    subst this
    exact .inl ⟨rfl, _, _, rfl⟩
  · injection e with e1 e2 e3
    subst e1 e3
    by_cases h0 : k = 0
    · subst h0; exact .inl ⟨rfl, _, _, rfl⟩
    · refine .inr ⟨o, c, by rw [hlen], by rw [hlen]; omega, h2, fun i hi r hr => ?_⟩
      have hi2 : i < l.length := by rw [hlen] at hi; omega
      rw [h3 i hi2 r hr, List.getElem_take]
def thV (ths : List Nat) : Tr.Rs → Value
  | .ok c => .tuple #[.int .i64 (ths.idxOf c : Int), .int .i64 0]
  | .err e => .tuple #[.int .i64 0, .int .i64 e]
theorem thV_ok (ths : List Nat) (c : Nat) : thV ths (.ok c) = .tuple #[.int .i64 (ths.idxOf c : Int), .int .i64 0] := rfl
theorem thV_err (ths : List Nat) (e : Int) : thV ths (.err e) = .tuple #[.int .i64 0, .int .i64 e] := rfl
def idxR (ths : List Nat) : Tr.Rs → Int
  | .ok c => (ths.idxOf c : Int)
  | .err _ => -1
theorem Nms.take {p : List Tr.Nme} (h : Tr.Nms p) (k : Nat) : Tr.Nms (p.take k) := ⟨fun x hx => h.1 x (List.mem_of_mem_take hx), by rw [List.length_take]; have := h.2; omega⟩
theorem nms_long {p : List Tr.Nme} (h : Tr.Nms p) : Pa.long p ≤ 100 := by
  have := Tr.long_names h.1
  have := h.2
  omega
theorem drop_cons' {α : Type} {l : List α} {i : Nat} (h : i < l.length) : l = l.take i ++ l[i] :: l.drop (i + 1) := by rw [← List.drop_eq_getElem_cons h, List.take_append_drop]
theorem take_snoc {α : Type} {l : List α} {i : Nat} (h : i < l.length) : l.take (i + 1) = l.take i ++ [l[i]] := List.take_succ_eq_append_getElem h
set_option maxRecDepth 100000 in
set_option maxHeartbeats 4000000 in
theorem m_At (w : World) (v0 v1 : Value) (g0 g1 : Nat) (T : Tr.RT) (hV : TpV w v0 v1 g0 g1 T) {g : Tr.G} {dom : Nat → Prop} {ns : Tr.Nl} {ths : List Nat} (hR : Tr.Rf g dom ns ths T) (hO : Tr.OK g) (u : Value) (gu : Nat) (l : List Tr.Nme) (hu : SlR strE w u gu l) (hN : Tr.Nms l) :
    Calls Tryz.prog 24 #[.agg #[v0, v1], u] w fun e w' => e = .returned (thV ths (Tr.fnd g g.root l)) ∧ Fr [] w w' := by
  obtain ⟨A, o, c, rfl, hm, hcap, hA, hc⟩ := strs_cell hu
  obtain ⟨A1, o1, c1, rfl, hm1, hA1, hc1⟩ := bo_cells hV.dirs
  obtain ⟨A0, o0, c0, rfl, -⟩ := nm_cells hV.nm
  obtain ⟨hf0, hx0⟩ := box_fr w (.slice A0 T.nm.length c0) (.slice A1 T.dirs.length c1)
  have HX0 := Lib.hid hx0
  have HF0 := Lib.hid hf0
  have HV := Lib.hid hV
  have HR := Lib.hid hR
  have HO := Lib.hid hO
  have HU := Lib.hid hu
  have HA1 := Lib.hid hA1
  have HC1 := Lib.hid hc1
  have HNM := Lib.hid hN
  have h8 := hN.2
  have HSH : Hid (∀ W k, Fr [] w W → k ≤ l.length → Calls Tryz.prog 19 #[.slice A k c] W fun e w' => e = .returned (.string (Pa.mk (Pa.shown (l.take k)))) ∧ w' = W) := fun W k hW hk =>
    pa_Shown W _ gu _ (slE_take (slE_fr HU.out hW) hk) (by have := nms_long (Nms.take HNM.out k); omega)
  have HFI : Hid (∀ W p, Fr [] w W → Tr.Nms p → Calls Tryz.prog 22 #[.agg #[.slice A0 T.nm.length c0, .slice A1 T.dirs.length c1], .string (Pa.mk (Pa.shown p))] W fun e w' => e = .returned (.int .i64 (idxR ths (Tr.fnd g g.root p))) ∧ Fr [] W w') := fun W p hW hp =>
    (m_find W _ _ g0 _ _ (slE_fr HV.out.nm hW)).mono fun e w' h => ⟨by rw [h.1, HR.out.find HO.out hp]; cases Tr.fnd g g.root p <;> rfl, h.2⟩
  clear hA hc hA1 hc1 hV hu hf0 hx0 hR hO hN hm1
  go_enter Tryz.func24, Tryz.ntmps24
  go_wp2_with fail
  generalize w.alloc (.cells #[.slice A0 T.nm.length c0, .slice A1 T.dirs.length c1] 28) = w1 at *
  go_loopw [6, 7] (fun nv i wr => ∃ k cn : Nat, k ≤ l.length ∧ i = .int .i64 k ∧ nv = .int .i64 (ths.idxOf cn : Nat) ∧ Hid (Tr.fnd g g.root (l.take k) = .ok cn) ∧ Hid (Fr [] w1 wr)) (fun _ i _ => l.length - (intOf i).toNat)
  case atStart => exact ⟨0, g.root, Nat.zero_le _, rfl, by rw [HR.out.root.1]; rfl, rfl, Lib.hid (Fr.refl [] w1)⟩
  case round =>
    obtain ⟨k, cn, hk, rfl, rfl, hfk, hF⟩ := hrel
    have k0 : (0 : Int) ≤ k := by omega
    obtain ⟨x0, x1⟩ := (HX0.out.step hF.out).cells
    by_cases hlt : k < l.length
    · have i1 : (k : Int) < l.length := by omega
      obtain ⟨j, hj⟩ : ∃ j : Nat, j = k + 1 := ⟨_, rfl⟩
      have j1 : (k : Int) + 1 = j := by omega
      have j2 : IntKind.i64.wrap (j : Int) = j := by rw [IntKind.wrap_i64]; omega
      have j0 : (0 : Int) ≤ j := by omega
      have jc : (j : Int) ≤ c := by omega
      have HJ := Lib.hid hj
      have hjl : j ≤ l.length := by omega
      have HJL := Lib.hid hjl
      have hth : cn ∈ ths := HR.out.thing hfk.out
      obtain ⟨hi, hd⟩ := HR.out.dirAt hth
      obtain rfl := HA1.out (by omega)
      have cd := (HF0.out.trans hF.out).cell (HC1.out _ hi) (by simp)
      rw [hd] at cd
      obtain ⟨t, ht⟩ : ∃ t, ths.idxOf cn = t := ⟨_, rfl⟩
      rw [ht] at hi cd ⊢
      have t0 : (0 : Int) ≤ t := by omega
      have t1 : (t : Int) < T.dirs.length := by omega
      have HT := Lib.hid ht
      clear hd hth ht hj hjl
      cases hdir : (g.ent cn).isSome with
      | false =>
        rw [hdir] at cd
        have HE : Hid (Tr.fnd g g.root l = .err 3) := by
          show _ = _
          rw [drop_cons' hlt, Tr.fnd_app_ok hfk.out]
          exact Tr.fnd_file (by simpa using hdir) _ _
        have HFE := Lib.hid (HF0.out.trans hF.out)
        clear hdir
        go_wp2
        go_ret2
        exact ⟨by rw [HE.out]; rfl, HFE.out⟩
      | true =>
        rw [hdir] at cd
        have HSN : Hid (l.take j = l.take k ++ [l[k]]) := by show _ = _; rw [HJ.out]; exact take_snoc hlt
        obtain ⟨mm, hmm⟩ := Option.isSome_iff_exists.1 hdir
        have hstep : Tr.fnd g g.root (l.take j) = match mm l[k] with | none => .err 5 | some e => .ok e := by
          rw [HSN.out, Tr.fnd_app_ok hfk.out, Tr.fnd_cons, hmm]
          show (match mm l[k] with | none => Tr.Rs.err 5 | some e => Tr.fnd g e []) = _
          cases mm l[k] <;> rfl
        have HFW := Lib.hid ((HF0.out.trans hF.out).drew)
        have HCS := Lib.hid (HSH.out wr.drew j HFW.out HJL.out)
        have HCF := Lib.hid (HFI.out wr.drew (l.take j) HFW.out (Nms.take HNM.out j))
        have HW1 := Lib.hid hF.out.drew
        clear hdir
        cases hnx : mm l[k] with
        | none =>
          rw [hnx] at hstep
          rw [hstep] at HCF
          have HE : Hid (Tr.fnd g g.root l = .err 5) := by
            show _ = _
            have e : l = l.take j ++ l.drop j := (List.take_append_drop j l).symm
            rw [e]
            exact Tr.fnd_app_err hstep _
          have HCF2 : Hid (Calls Tryz.prog 22 #[.agg #[.slice A0 T.nm.length c0, .slice (some ⟨g1, o1, none⟩) T.dirs.length c1], .string (Pa.mk (Pa.shown (l.take j)))] wr.drew fun e w' => e = .returned (.int .i64 (-1)) ∧ Fr [] wr.drew w') := HCF.out.mono fun _ _ h => h
          clear hstep hnx hmm HCF
          go_wp2_with fail
          (refine wp_region_mix ((· = wr.drew)) 6 [(true, 0), (true, 1), (true, 2), (true, 3), (true, 4), (false, 5)] (by kernel_rfl) (by kernel_rfl) (rfl) ?_; simp only [pickOps, List.map_cons, List.map_nil, List.getD_cons_zero, List.getD_cons_succ, List.drop_succ_cons, List.drop_zero])
          (iterate 5 (first | (refine wpMix_take (v := ?_) (by rfl) ?_ ?_; rotate_left; (focus (intro W hW; subst hW; go_simp; (try with_reducible rfl); done)); try simp only [Act.put, List.setIfInBounds_toArray, List.set_cons_zero, List.set_cons_succ]) | (refine wpMix_leave (by rfl) ?_; try simp only [Act.put, List.setIfInBounds_toArray, List.set_cons_zero, List.set_cons_succ])))
          refine wpMix_walk ?_
          go_wp2_with (go_at_call 19; (with_reducible refine useC HCS.out ?_); rintro e w2 ⟨rfl, rfl⟩)
          refine MixQ.mk (rfl) ?_
          refine wpMix_nil ?_
          go_wp2_with (go_at_call 22; (with_reducible refine useC HCF2.out ?_); rintro e w2 ⟨rfl, hf⟩; have HF2 := Lib.hid (HFW.out.trans hf); clear hf)
          go_ret2
          exact ⟨by rw [HE.out]; rfl, HF2.out⟩
        | some e =>
          rw [hnx] at hstep
          have HN2 : Hid (Tr.fnd g g.root (l.take (k + 1)) = .ok e) := by show _ = _; rw [← HJ.out]; exact hstep
          rw [hstep] at HCF
          have hneg : ¬ ((ths.idxOf e : Nat) : Int) < 0 := by omega
          obtain ⟨te, hte⟩ : ∃ t, ths.idxOf e = t := ⟨_, rfl⟩
          have HCF2 : Hid (Calls Tryz.prog 22 #[.agg #[.slice A0 T.nm.length c0, .slice (some ⟨g1, o1, none⟩) T.dirs.length c1], .string (Pa.mk (Pa.shown (l.take j)))] wr.drew fun e w' => e = .returned (.int .i64 (te : Int)) ∧ Fr [] wr.drew w') := HCF.out.mono fun _ _ h => ⟨by rw [h.1, ← hte]; rfl, h.2⟩
          rw [hte] at hneg
          have HTE := Lib.hid hte
          clear hstep hnx hmm HCF hte
          go_wp2_with fail
          (refine wp_region_mix ((· = wr.drew)) 6 [(true, 0), (true, 1), (true, 2), (true, 3), (true, 4), (false, 5)] (by kernel_rfl) (by kernel_rfl) (rfl) ?_; simp only [pickOps, List.map_cons, List.map_nil, List.getD_cons_zero, List.getD_cons_succ, List.drop_succ_cons, List.drop_zero])
          (iterate 5 (first | (refine wpMix_take (v := ?_) (by rfl) ?_ ?_; rotate_left; (focus (intro W hW; subst hW; go_simp; (try with_reducible rfl); done)); try simp only [Act.put, List.setIfInBounds_toArray, List.set_cons_zero, List.set_cons_succ]) | (refine wpMix_leave (by rfl) ?_; try simp only [Act.put, List.setIfInBounds_toArray, List.set_cons_zero, List.set_cons_succ])))
          refine wpMix_walk ?_
          go_wp2_with (go_at_call 19; (with_reducible refine useC HCS.out ?_); rintro e w2 ⟨rfl, rfl⟩)
          refine MixQ.mk (rfl) ?_
          refine wpMix_nil ?_
          go_wp2_with (go_at_call 22; (with_reducible refine useC HCF2.out ?_); rintro e w2 ⟨rfl, hf⟩; have HF2 := Lib.hid (HW1.out.trans hf); clear hf)
          go_roundw
          case rel => exact ⟨k + 1, e, by omega, by go_num, by rw [HTE.out], HN2, HF2⟩
          case measure => (simp [intOf]; try omega)
    · have i1 : ¬ (k : Int) < l.length := by omega
      obtain rfl : k = l.length := by omega
      have hfk2 := hfk.out
      rw [List.take_length] at hfk2
      have HE := Lib.hid hfk2
      have HFE := Lib.hid (HF0.out.trans hF.out)
      clear hfk2
      go_wp2
      go_ret2
      exact ⟨by rw [HE.out]; rfl, HFE.out⟩
end Go.Proofs.YtnglhfeialomgaaGreatDoor
/- The document's Thing, Spot. -/
namespace Go.Proofs.YtnglhfeialomgaaGreatDoor
open Go.RowKit

theorem nms_parts {s : List UInt8} (h : (Pa.parts s).2 = 0) : Tr.Nms (Pa.parts s).1 := by
  have hp : Pa.parts s = ((Pa.parts s).1, 0) := by rw [← h]
  exact ⟨Pa.parts_names hp, (Pa.parts_ok hp).2.2.2⟩
section
variable (w : World) (v0 v1 : Value) (g0 g1 : Nat) (T : Tr.RT) (hV : TpV w v0 v1 g0 g1 T) {g : Tr.G} {dom : Nat → Prop} {ns : Tr.Nl} {ths : List Nat} (hR : Tr.Rf g dom ns ths T) (hO : Tr.OK g)
include hV hR hO
set_option maxRecDepth 100000 in
set_option maxHeartbeats 4000000 in
theorem m_Thing (s : ByteArray) :
    Calls Tryz.prog 8 #[.agg #[v0, v1], .string s] w fun e w' => e = .returned (thV ths (atV g s.data.toList)) ∧ Fr [] w w' := by
  obtain ⟨hf0, hx0⟩ := box_fr w v0 v1
  have HX0 := Lib.hid hx0
  have HF0 := Lib.hid hf0
  have HP := Lib.hid (fun W => m_Parts s W)
  have HAT := Lib.hid (fun W u gu l (hW : Fr [] w W) (hu : SlR strE W u gu l) (hN : Tr.Nms l) => m_At W v0 v1 g0 g1 T (hV.step hW) hR hO u gu l hu hN)
  obtain ⟨st, hst⟩ : ∃ x, s.data.toList = x := ⟨_, rfl⟩
  rw [hst] at HP ⊢
  clear hV hR hO hst hf0 hx0
  by_cases hc : (Pa.parts st).2 = 0
  · have HC := Lib.hid hc
    have HPP : Hid (∀ W, Calls Tryz.prog 17 #[.string s] W fun e w' => ∃ v g, e = .returned (.tuple #[v, .int .i64 0]) ∧ SlR strE w' v g (Pa.parts st).1 ∧ Fr [] W w') := fun W => (HP.out W).mono fun e w' ⟨v, g, he, hs, hf⟩ => ⟨v, g, by rw [he, hc], hs, hf⟩
    clear hc HP
    go_enter Tryz.func8, Tryz.ntmps8
    go_upto_region 1 with (fail)
    generalize w.alloc (.cells #[v0, v1] 28) = w1 at *
    obtain ⟨x0, x1⟩ := HX0.out.cells
    have HA : Hid (atV g st = Tr.fnd g g.root (Pa.parts st).1) := if_pos HC.out
    go_upto_region 4 with (go_at_call 17; (with_reducible refine useC (HPP.out w1) ?_); rintro e w2 ⟨u, gu, rfl, hs, hf⟩; have HF2 := Lib.hid hf; have HAT2 := Lib.hid (HAT.out w2 u gu _ (HF0.out.trans hf) hs (nms_parts HC.out)); have y0 := hf.cell x0 (by simp); have y1 := hf.cell x1 (by simp); clear hs hf)
    rw [← HA.out] at HAT2
    cases hat : atV g st with
    | ok cn =>
      have HE := Lib.hid hat
      rw [hat] at HAT2
      unfold thV at HAT2
      clear hat
      go_wp2_with (go_at_call 24; (with_reducible refine useC HAT2.out ?_); rintro e w3 ⟨rfl, hf⟩; have HF3 := Lib.hid hf; clear hf)
      go_ret2
      exact ⟨by rw [HE.out]; rfl, (HF0.out.trans HF2.out).trans HF3.out⟩
    | err ce =>
      have HE := Lib.hid hat
      rw [hat] at HAT2
      unfold thV at HAT2
      clear hat
      go_wp2_with (go_at_call 24; (with_reducible refine useC HAT2.out ?_); rintro e w3 ⟨rfl, hf⟩; have HF3 := Lib.hid hf; clear hf)
      go_ret2
      exact ⟨by rw [HE.out]; rfl, (HF0.out.trans HF2.out).trans HF3.out⟩
  · have HA : Hid (atV g st = .err (Pa.parts st).2) := if_neg hc
    obtain ⟨pc, hpc⟩ : ∃ x, (Pa.parts st).2 = x := ⟨_, rfl⟩
    have HPP : Hid (∀ W, Calls Tryz.prog 17 #[.string s] W fun e w' => ∃ v, e = .returned (.tuple #[v, .int .i64 pc]) ∧ Fr [] W w') := fun W => (HP.out W).mono fun e w' ⟨v, g, he, hs, hf⟩ => ⟨v, by rw [he, hpc], hf⟩
    rw [hpc] at hc HA
    have hq : (pc == 0) = false := by simpa using hc
    have hq2 : (pc != 0) = true := by simpa using hc
    clear hc HP hpc
    go_enter Tryz.func8, Tryz.ntmps8
    go_upto_region 1 with (fail)
    generalize w.alloc (.cells #[v0, v1] 28) = w1 at *
    go_wp2_with (go_at_call 17; (with_reducible refine useC (HPP.out w1) ?_); rintro e w2 ⟨u, rfl, hf⟩; have HF2 := Lib.hid hf; clear hf)
    go_ret2
    exact ⟨by rw [HA.out]; rfl, HF0.out.trans HF2.out⟩
/-- What Spot hands back: the whole path, what is wrong. -/
def spV (g : Tr.G) (s : List UInt8) : Value := match Tr.spot g s with
  | .at_ _ _ => .tuple #[.string (Pa.mk (Pa.shown (Pa.parts s).1)), .int .i64 0]
  | .err e => .tuple #[.string ⟨#[]⟩, .int .i64 e]
set_option maxRecDepth 100000 in
set_option maxHeartbeats 4000000 in
theorem m_Spot (s : ByteArray) :
    Calls Tryz.prog 21 #[.agg #[v0, v1], .string s] w fun e w' => e = .returned (spV g s.data.toList) ∧ Fr [] w w' := by
  obtain ⟨hf0, hx0⟩ := box_fr w v0 v1
  have HX0 := Lib.hid hx0
  have HF0 := Lib.hid hf0
  have HV := Lib.hid hV
  have HR := Lib.hid hR
  have HP := Lib.hid (fun W => m_Parts s W)
  have HAT := Lib.hid (fun W u gu l (hW : Fr [] w W) (hu : SlR strE W u gu l) (hN : Tr.Nms l) => m_At W v0 v1 g0 g1 T (hV.step hW) hR hO u gu l hu hN)
  obtain ⟨st, hst⟩ : ∃ x, s.data.toList = x := ⟨_, rfl⟩
  rw [hst] at HP ⊢
  clear hV hR hO hst hf0 hx0
  by_cases hc : (Pa.parts st).2 = 0
  · have HC := Lib.hid hc
    have HPP : Hid (∀ W, Calls Tryz.prog 17 #[.string s] W fun e w' => ∃ v g, e = .returned (.tuple #[v, .int .i64 0]) ∧ SlR strE w' v g (Pa.parts st).1 ∧ Fr [] W w') := fun W => (HP.out W).mono fun e w' ⟨v, g, he, hs, hf⟩ => ⟨v, g, by rw [he, hc], hs, hf⟩
    have HSL : Hid (Tr.spot g st = Tr.spotL g (Pa.parts st).1) := if_pos hc
    have HNM := Lib.hid (nms_parts hc)
    clear hc HP
    go_enter Tryz.func21, Tryz.ntmps21
    go_upto_region 1 with (fail)
    generalize w.alloc (.cells #[v0, v1] 28) = w1 at *
    obtain ⟨x0, x1⟩ := HX0.out.cells
    by_cases hl : (Pa.parts st).1 = []
    · have HPQ : Hid (∀ W, Calls Tryz.prog 17 #[.string s] W fun e w' => ∃ A c, e = .returned (.tuple #[.slice A 0 c, .int .i64 0]) ∧ Fr [] W w') := fun W => (HPP.out W).mono fun e w' ⟨v, g, he, hs, hf⟩ => by
        obtain ⟨A, o, c, hv, -⟩ := strs_cell hs
        rw [hv, hl] at he
        exact ⟨A, c, he, hf⟩
      have HS : Hid (spV g st = .tuple #[.string ⟨#[]⟩, .int .i64 7]) := by
        show _ = _
        unfold spV
        rw [HSL.out]
        unfold Tr.spotL
        rw [if_pos hl]
      clear hl
      go_wp2_with (go_at_call 17; (with_reducible refine useC (HPQ.out w1) ?_); rintro e w2 ⟨A, c, rfl, hf⟩; have HF2 := Lib.hid hf; clear hf)
      go_ret2
      exact ⟨by rw [HS.out]; rfl, HF0.out.trans HF2.out⟩
    · obtain ⟨N, hN⟩ : ∃ N, (Pa.parts st).1.length = N := ⟨_, rfl⟩
      have hN0 : N ≠ 0 := fun e => hl (List.eq_nil_of_length_eq_zero (by omega))
      have e0 : ((N : Int) == 0) = false := beq_eq_false_iff_ne.2 (by omega)
      have e00 : (N == 0) = false := beq_eq_false_iff_ne.2 hN0
      obtain ⟨q, hq⟩ : ∃ q : Nat, q + 1 = N := ⟨N - 1, by omega⟩
      have hN8 : N ≤ 8 := by rw [← hN]; exact HNM.out.2
      have e1 : (N : Int) - 1 = q := by omega
      have e2 : IntKind.i64.wrap (q : Int) = q := by rw [IntKind.wrap_i64]; omega
      have q0 : (0 : Int) ≤ q := by omega
      have HDL : Hid ((Pa.parts st).1.take q = (Pa.parts st).1.dropLast) := by show _ = _; rw [List.dropLast_eq_take, hN, ← hq]; rfl
      have HPQ : Hid (∀ W, Calls Tryz.prog 17 #[.string s] W fun e w' => ∃ A c gu, e = .returned (.tuple #[.slice A N c, .int .i64 0]) ∧ N ≤ c ∧ SlR strE w' (.slice A N c) gu (Pa.parts st).1 ∧ Fr [] W w') := fun W => (HPP.out W).mono fun e w' ⟨v, g, he, hs, hf⟩ => by
        obtain ⟨A, o, c, hv, -, hcap, -⟩ := strs_cell hs
        subst hv
        rw [hN] at he hs hcap
        exact ⟨A, c, g, he, hcap, hs, hf⟩
      have HQL : Hid (q ≤ (Pa.parts st).1.length) := by show _ ≤ _; omega
      have HSP : Hid (Tr.spotL g (Pa.parts st).1 = match Tr.fnd g g.root (Pa.parts st).1.dropLast with
        | .err e => .err e
        | .ok d => if (g.ent d).isSome = true then .at_ d ((Pa.parts st).1.getLastD []) else .err 3) := if_neg hl
      have HSH : Hid (∀ W v gu, SlR strE W v gu (Pa.parts st).1 → Calls Tryz.prog 19 #[v] W fun e w' => e = .returned (.string (Pa.mk (Pa.shown (Pa.parts st).1))) ∧ w' = W) := fun W v gu h => pa_Shown W v gu _ h (by have := nms_long HNM.out; omega)
      clear hl hN hq HPP
      go_upto_region 6 with (go_at_call 17; (with_reducible refine useC (HPQ.out w1) ?_); rintro e w2 ⟨A, c, gu, rfl, hcap, hs, hf⟩; have HF2 := Lib.hid hf; have HS2 := Lib.hid hs; have qc : (q : Int) ≤ c := (by omega); have y0 := hf.cell x0 (by simp); have y1 := hf.cell x1 (by simp); clear hs hf x0 x1 hcap)
      have HAQ := Lib.hid (HAT.out w2.drew (.slice A q c) gu ((Pa.parts st).1.take q) ((HF0.out.trans HF2.out).drew) (slE_take (slE_fr HS2.out (Fr.refl [] w2).drew) HQL.out) (Nms.take HNM.out q))
      rw [HDL.out] at HAQ
      have HFW := Lib.hid ((HF0.out.trans HF2.out).drew)
      have HSW := Lib.hid (slE_fr HS2.out (Fr.refl [] w2).drew)
      have HYX : Hid (∀ W, Fr [] w2.drew W → TpX W w.heap.size v0 v1) := fun W hW => (HX0.out.step (HF2.out.drew.trans hW))
      clear HAT
      cases hfd : Tr.fnd g g.root (Pa.parts st).1.dropLast with
      | err ce =>
        have hce := Tr.fnd_err_ne _ _ _ hfd
        rw [hfd] at HAQ HSP
        rw [thV_err] at HAQ
        have HS : Hid (spV g st = .tuple #[.string ⟨#[]⟩, .int .i64 ce]) := by
          show _ = _
          unfold spV
          rw [HSL.out, HSP.out]
        have f1 : (ce == 0) = false := by simpa using hce
        have f2 : (ce != 0) = true := by simpa using hce
        clear hfd hce
        (refine wp_region_mix (Fr [] w2.drew ·) 11 [(true, 0), (true, 1), (true, 2), (true, 3), (true, 4), (true, 5), (false, 6), (true, 7), (true, 8), (true, 9), (false, 10)] (by kernel_rfl) (by kernel_rfl) (Fr.refl _ _) ?_; simp only [pickOps, List.map_cons, List.map_nil, List.getD_cons_zero, List.getD_cons_succ, List.drop_succ_cons, List.drop_zero])
        (iterate 6 (first | (refine wpMix_take (v := ?_) (by rfl) ?_ ?_; rotate_left; (focus (intro W hW; obtain ⟨z0, z1⟩ := (HYX.out W hW).cells; go_simp; (try with_reducible rfl); done)); try simp only [Act.put, List.setIfInBounds_toArray, List.set_cons_zero, List.set_cons_succ]) | (refine wpMix_leave (by rfl) ?_; try simp only [Act.put, List.setIfInBounds_toArray, List.set_cons_zero, List.set_cons_succ])))
        refine wpMix_walk ?_
        go_wp2_with (go_at_call 24; (with_reducible refine useC HAQ.out ?_); rintro e w3 ⟨rfl, hf⟩; have HF3 := Lib.hid hf; clear hf)
        refine MixQ.mk (HF3.out) ?_
        (iterate 3 (first | (refine wpMix_take (v := ?_) (by rfl) ?_ ?_; rotate_left; (focus (intro W hW; skip; go_simp; (try with_reducible rfl); done)); try simp only [Act.put, List.setIfInBounds_toArray, List.set_cons_zero, List.set_cons_succ]) | (refine wpMix_leave (by rfl) ?_; try simp only [Act.put, List.setIfInBounds_toArray, List.set_cons_zero, List.set_cons_succ])))
        refine wpMix_walk ?_
        go_wp2_with fail
        refine MixQ.mk (HF3.out) ?_
        refine wpMix_nil ?_
        go_wp2
        go_ret2
        exact ⟨by rw [HS.out]; rfl, HFW.out.trans HF3.out⟩
      | ok d =>
        have hth := HR.out.thing hfd
        obtain ⟨hi, hdd⟩ := HR.out.dirAt hth
        rw [hfd] at HAQ HSP
        rw [thV_ok] at HAQ
        obtain ⟨A1, o1, c1, rfl, hm1, hA1, hc1⟩ := bo_cells HV.out.dirs
        obtain rfl := hA1 (by omega)
        have cd := hc1 _ hi
        rw [hdd] at cd
        obtain ⟨t, ht⟩ : ∃ t, ths.idxOf d = t := ⟨_, rfl⟩
        rw [ht] at hi cd HAQ
        have t0 : (0 : Int) ≤ t := by omega
        have t1 : (t : Int) < T.dirs.length := by omega
        have HCD := Lib.hid (fun W (hW : Fr [] w W) => hW.cell cd (by simp))
        clear hfd hth hdd ht hA1 hc1 cd
        cases hdir : (g.ent d).isSome with
        | false =>
          rw [hdir] at HCD
          have HS : Hid (spV g st = .tuple #[.string ⟨#[]⟩, .int .i64 3]) := by
            show _ = _
            unfold spV
            rw [HSL.out, HSP.out]
            dsimp only
            rw [hdir]
            rfl
          clear hdir
          (refine wp_region_mix (Fr [] w2.drew ·) 11 [(true, 0), (true, 1), (true, 2), (true, 3), (true, 4), (true, 5), (false, 6), (true, 7), (true, 8), (true, 9), (false, 10)] (by kernel_rfl) (by kernel_rfl) (Fr.refl _ _) ?_; simp only [pickOps, List.map_cons, List.map_nil, List.getD_cons_zero, List.getD_cons_succ, List.drop_succ_cons, List.drop_zero])
          (iterate 6 (first | (refine wpMix_take (v := ?_) (by rfl) ?_ ?_; rotate_left; (focus (intro W hW; obtain ⟨z0, z1⟩ := (HYX.out W hW).cells; go_simp; (try with_reducible rfl); done)); try simp only [Act.put, List.setIfInBounds_toArray, List.set_cons_zero, List.set_cons_succ]) | (refine wpMix_leave (by rfl) ?_; try simp only [Act.put, List.setIfInBounds_toArray, List.set_cons_zero, List.set_cons_succ])))
          refine wpMix_walk ?_
          go_wp2_with (go_at_call 24; (with_reducible refine useC HAQ.out ?_); rintro e w3 ⟨rfl, hf⟩; have HF3 := Lib.hid hf; clear hf)
          refine MixQ.mk (HF3.out) ?_
          (iterate 3 (first | (refine wpMix_take (v := ?_) (by rfl) ?_ ?_; rotate_left; (focus (intro W hW; skip; go_simp; (try with_reducible rfl); done)); try simp only [Act.put, List.setIfInBounds_toArray, List.set_cons_zero, List.set_cons_succ]) | (refine wpMix_leave (by rfl) ?_; try simp only [Act.put, List.setIfInBounds_toArray, List.set_cons_zero, List.set_cons_succ])))
          refine wpMix_walk ?_
          go_wp2_with fail
          refine MixQ.mk (HF3.out) ?_
          refine wpMix_nil ?_
          obtain ⟨z0, z1⟩ := (HYX.out w3 HF3.out).cells
          have cd := HCD.out w3 (HFW.out.trans HF3.out)
          go_wp2
          go_ret2
          exact ⟨by rw [HS.out]; rfl, HFW.out.trans HF3.out⟩
        | true =>
          rw [hdir] at HCD
          have HS : Hid (spV g st = .tuple #[.string (Pa.mk (Pa.shown (Pa.parts st).1)), .int .i64 0]) := by
            show _ = _
            unfold spV
            rw [HSL.out, HSP.out]
            dsimp only
            rw [hdir]
            rfl
          clear hdir
          (refine wp_region_mix (Fr [] w2.drew ·) 11 [(true, 0), (true, 1), (true, 2), (true, 3), (true, 4), (true, 5), (false, 6), (true, 7), (true, 8), (true, 9), (false, 10)] (by kernel_rfl) (by kernel_rfl) (Fr.refl _ _) ?_; simp only [pickOps, List.map_cons, List.map_nil, List.getD_cons_zero, List.getD_cons_succ, List.drop_succ_cons, List.drop_zero])
          (iterate 6 (first | (refine wpMix_take (v := ?_) (by rfl) ?_ ?_; rotate_left; (focus (intro W hW; obtain ⟨z0, z1⟩ := (HYX.out W hW).cells; go_simp; (try with_reducible rfl); done)); try simp only [Act.put, List.setIfInBounds_toArray, List.set_cons_zero, List.set_cons_succ]) | (refine wpMix_leave (by rfl) ?_; try simp only [Act.put, List.setIfInBounds_toArray, List.set_cons_zero, List.set_cons_succ])))
          refine wpMix_walk ?_
          go_wp2_with (go_at_call 24; (with_reducible refine useC HAQ.out ?_); rintro e w3 ⟨rfl, hf⟩; have HF3 := Lib.hid hf; clear hf)
          refine MixQ.mk (HF3.out) ?_
          (iterate 3 (first | (refine wpMix_take (v := ?_) (by rfl) ?_ ?_; rotate_left; (focus (intro W hW; skip; go_simp; (try with_reducible rfl); done)); try simp only [Act.put, List.setIfInBounds_toArray, List.set_cons_zero, List.set_cons_succ]) | (refine wpMix_leave (by rfl) ?_; try simp only [Act.put, List.setIfInBounds_toArray, List.set_cons_zero, List.set_cons_succ])))
          refine wpMix_walk ?_
          go_wp2_with fail
          refine MixQ.mk (HF3.out) ?_
          refine wpMix_nil ?_
          obtain ⟨z0, z1⟩ := (HYX.out w3 HF3.out).cells
          have cd := HCD.out w3 (HFW.out.trans HF3.out)
          have HS3 := Lib.hid (HSH.out w3 _ gu (slE_fr HSW.out HF3.out))
          go_wp2_with (go_at_call 19; (with_reducible refine useC HS3.out ?_); rintro e w4 ⟨rfl, rfl⟩)
          go_ret2
          exact ⟨by rw [HS.out]; rfl, HFW.out.trans HF3.out⟩
  · obtain ⟨pc, hpc⟩ : ∃ x, (Pa.parts st).2 = x := ⟨_, rfl⟩
    have HPP : Hid (∀ W, Calls Tryz.prog 17 #[.string s] W fun e w' => ∃ v, e = .returned (.tuple #[v, .int .i64 pc]) ∧ Fr [] W w') := fun W => (HP.out W).mono fun e w' ⟨v, g, he, hs, hf⟩ => ⟨v, by rw [he, hpc], hf⟩
    have HS : Hid (spV g st = .tuple #[.string ⟨#[]⟩, .int .i64 pc]) := by
      show _ = _
      unfold spV Tr.spot
      rw [if_neg hc, hpc]
    rw [hpc] at hc
    have hq : (pc == 0) = false := by simpa using hc
    have hq2 : (pc != 0) = true := by simpa using hc
    clear hc HP hpc
    go_enter Tryz.func21, Tryz.ntmps21
    go_upto_region 1 with (fail)
    generalize w.alloc (.cells #[v0, v1] 28) = w1 at *
    go_wp2_with (go_at_call 17; (with_reducible refine useC (HPP.out w1) ?_); rintro e w2 ⟨u, rfl, hf⟩; have HF2 := Lib.hid hf; clear hf)
    go_ret2
    exact ⟨by rw [HS.out]; rfl, HF0.out.trans HF2.out⟩
end
end Go.Proofs.YtnglhfeialomgaaGreatDoor
