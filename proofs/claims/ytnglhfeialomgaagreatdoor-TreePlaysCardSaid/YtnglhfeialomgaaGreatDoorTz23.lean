/- The document's Move. -/

import Derived.Test.YtnglhfeialomgaaGreatDoorTz21
import Derived.Test.YtnglhfeialomgaaGreatDoorTz22
namespace Go.Proofs.YtnglhfeialomgaaGreatDoor
open Go.RowKit

/-- A name's own variable, and the row that grows. -/
structure MvI (w3 wr w5 : World) (Y : Nat) (u0 u1 v : Value) (L : Tr.Nr) : Prop where
  blk : w5.heap[Y]? = some (.cells #[u0, u1] 63 (0, 0))
  own : OwnR nmE w5 w3.heap.size 63 v L
  fr : Fr [] w3 w5
theorem MvI.cells {w3 wr w5 : World} {Y : Nat} {u0 u1 v : Value} {L : Tr.Nr} (h : MvI w3 wr w5 Y u0 u1 v L) : w5.cell? ⟨Y, 0, none⟩ = some u0 ∧ w5.cell? ⟨Y, 1, none⟩ = some u1 ∧ w5.frozen? ⟨Y, 0, none⟩ = false ∧ w5.frozen? ⟨Y, 1, none⟩ = false := by
  refine ⟨?_, ?_, free_block h.blk 0 none, free_block h.blk 1 none⟩ <;> rw [cell_of_row _ _ _ _ _ _ h.blk] <;> rfl
theorem MvI.start {w3 wr w4 : World} {u0 u1 v : Value} {L : Tr.Nr} (ho : OwnR nmE wr w3.heap.size 63 v L) (hf : Fr [] w3 wr) (hb : w4.heap[wr.heap.size]? = some (.cells #[u0, u1] 63 (0, 0))) (hf4 : Fr [] wr w4) : MvI w3 wr w4 wr.heap.size u0 u1 v L := ⟨hb, ho.kept hf4 (by simp), hf.trans hf4⟩
theorem MvI.step {w3 wr w5 w6 : World} {Y : Nat} {u0 u1 v : Value} {L : Tr.Nr} (h : MvI w3 wr w5 Y u0 u1 v L) (hf : Fr [] w5 w6) : MvI w3 wr w6 Y u0 u1 v L := ⟨hf.get h.blk (by simp), h.own.kept hf (by simp), h.fr.trans hf⟩
theorem MvI.set {w3 wr w4 : World} {u0 u1 x0 x1 v : Value} {L : Tr.Nr} (ho : OwnR nmE wr w3.heap.size 63 v L) (hf : Fr [] w3 wr) (hf4 : Fr [] wr w4) (h : MvI w3 wr w4 wr.heap.size u0 u1 v L) : MvI w3 wr ((w4.setCell ⟨wr.heap.size, 0, none⟩ x0).setCell ⟨wr.heap.size, 1, none⟩ x1) wr.heap.size x0 x1 v L := by
  have h1 : Fr [wr.heap.size] w4 ((w4.setCell ⟨wr.heap.size, 0, none⟩ x0).setCell ⟨wr.heap.size, 1, none⟩ x1) := ((Fr.refl _ w4).setCell (.inl (by simp)) _).setCell (.inl (by simp)) _
  have h2 : (w4.setCell ⟨wr.heap.size, 0, none⟩ x0).heap[wr.heap.size]? = some (.cells #[x0, u1] 63 (0, 0)) := set_block h.blk x0
  refine ⟨set_block h2 x1, h.own.kept h1 (fun g hg e => ?_), h.fr.step h1 (fun y hy => .inr (by simp only [List.mem_singleton] at hy; subst hy; exact hf.size))⟩
  simp only [List.mem_singleton] at hg
  subst hg
  have := (ho.ge _ e).2
  omega
def mvL (nm : Tr.Nr) (p q : List UInt8) : Tr.Nr := nm.map (fun e => (Tr.mvT p q e.1, e.2))
theorem mvL_succ {nm : Tr.Nr} {k : Nat} (h : k < nm.length) (p q : List UInt8) : mvL (nm.take (k + 1)) p q = mvL (nm.take k) p q ++ [(Tr.mvT p q nm[k].1, nm[k].2)] := by
  unfold mvL
  rw [List.take_succ_eq_append_getElem h, List.map_append]
  rfl
section
variable (w : World) (v0 v1 : Value) (g0 g1 : Nat) (T : Tr.RT) (hV : TpV w v0 v1 g0 g1 T) {g : Tr.G} {dom : Nat → Prop} {ns : Tr.Nl} {ths : List Nat} (hR : Tr.Rf g dom ns ths T) (hO : Tr.OK g)
include hV hR hO
set_option maxRecDepth 100000 in
set_option maxHeartbeats 16000000 in
theorem m_Move (s tu : ByteArray) (hl : T.nm.length ≤ 24) (hbn : ∀ e ∈ T.nm, e.1.length ≤ 1000) :
    Calls Tryz.prog 9 #[.agg #[v0, v1], .string s, .string tu] w (TpA g0 g1 (moveT g T s.data.toList tu.data.toList) (Tr.moveErr g s.data.toList tu.data.toList) w) := by
  obtain ⟨A0, o0, c0, rfl, hm0, -⟩ := nm_cells hV.nm
  obtain ⟨A1, o1, c1, rfl, hm1, -⟩ := bo_cells hV.dirs
  obtain ⟨ga, gb, hU⟩ := TpW.start hV
  have HSP := Lib.hid (fun W (hW : TpV W (.slice A0 T.nm.length c0) (.slice A1 T.dirs.length c1) ga gb T) => m_Spot W _ _ ga gb T hW hR hO s)
  have HSQ := Lib.hid (fun W (hW : TpV W (.slice A0 T.nm.length c0) (.slice A1 T.dirs.length c1) ga gb T) => m_Spot W _ _ ga gb T hW hR hO tu)
  have HFI : Hid (∀ W p, TpV W (.slice A0 T.nm.length c0) (.slice A1 T.dirs.length c1) ga gb T → Tr.Nms p → Calls Tryz.prog 22 #[.agg #[.slice A0 T.nm.length c0, .slice A1 T.dirs.length c1], .string (Pa.mk (Pa.shown p))] W fun e w' => e = .returned (.int .i64 (idxR ths (Tr.fnd g g.root p))) ∧ Fr [] W w') := fun W p hW hp =>
    (m_find W _ _ ga _ _ hW.nm).mono fun e w' h => ⟨by rw [h.1, hR.find hO hp]; cases Tr.fnd g g.root p <;> rfl, h.2⟩
  have HRF := Lib.hid hR
  have HOK := Lib.hid hO
  have HBN := Lib.hid hbn
  obtain ⟨st, hst⟩ : ∃ x, s.data.toList = x := ⟨_, rfl⟩
  obtain ⟨tt, htt⟩ : ∃ x, tu.data.toList = x := ⟨_, rfl⟩
  rw [hst] at HSP ⊢
  rw [htt] at HSQ ⊢
  clear hst htt hV hR hO hbn
  go_enter Tryz.func9, Tryz.ntmps9
  go_upto_region 1 with (fail)
  generalize (w.alloc (.cells #[.slice A0 T.nm.length c0, .slice A1 T.dirs.length c1] 28)).alloc (.cells #[.slice none 0 0, .slice none 0 0] 28) = W0 at *
  obtain ⟨X, hX⟩ : ∃ X, X = w.heap.size := ⟨_, rfl⟩
  rw [← hX] at hU ⊢
  have HU0 := Lib.hid hU
  clear hX hU
  obtain ⟨b0, b1, z0, z1⟩ := HU0.out.cells
  obtain ⟨p0, p1, q0, q1⟩ := HU0.out.outs
  cases hsp : Tr.spot g st with
  | err ce =>
    have hne := spot_err_ne hsp
    have hae := Tr.moveErr_1 (tu := tt) hsp
    have HT : Hid (moveT g T st tt = T) := by show _ = _; unfold moveT; rw [hae, if_neg hne]
    have hsv : spV g st = .tuple #[.string ⟨#[]⟩, .int .i64 ce] := by unfold spV; rw [hsp]
    rw [hsv] at HSP
    have HAE := Lib.hid hae
    have f1 : (ce == 0) = false := by simpa using hne
    have f2 : (ce != 0) = true := by simpa using hne
    clear hsp hne hae hsv
    go_wp2_with (have h' := HSP; go_at_call 21; (with_reducible refine useC (HSP.out W0 HU0.out.v) ?_); rintro e w2 ⟨rfl, hf⟩; have HU1 := Lib.hid (HU0.out.step hf); obtain ⟨b0, b1, z0, z1⟩ := HU1.out.cells; obtain ⟨p0, p1, q0, q1⟩ := HU1.out.outs; clear hf h' HSP)
    exact bodyPost_ret (v := .tuple #[.agg #[.slice A0 T.nm.length c0, .slice A1 T.dirs.length c1], .int .i64 ce]) (tp_results Tryz.results9 rfl rfl (TpW.fin HU1.out).1) rfl (by rw [HT.out, HAE.out]; exact (TpW.fin HU1.out).2 _)
  | at_ d x =>
    obtain ⟨P, hpt, hf, hds⟩ := Tr.spot_at hsp
    have hP : Tr.Nms (P ++ [x]) := by have := nms_parts (s := st) (by rw [hpt]); rwa [hpt] at this
    have hsv : spV g st = .tuple #[.string (Pa.mk (Pa.shown (P ++ [x]))), .int .i64 0] := by unfold spV; rw [hsp, hpt]
    have hfk := fnd_kid (x := x) hf hds
    have HPT : Hid (Pa.shown (Pa.parts st).1 = Pa.shown (P ++ [x])) := by show _ = _; rw [hpt]
    have HSPT := Lib.hid hsp
    have HFD := Lib.hid hf
    have HPN := Lib.hid hP
    rw [hsv] at HSP
    have HF := Lib.hid (fun W hW => HFI.out W (P ++ [x]) hW hP)
    have hpl : (Pa.shown (P ++ [x])).length ≤ 1000 := by have := Tr.shown_len hP.1 hP.2; omega
    clear hsp hpt hf hds hsv
    cases hk : Tr.kid g d x with
    | none =>
      rw [hk] at hfk
      have hfk5 : Tr.fnd g g.root (P ++ [x]) = .err 5 := hfk
      rw [hfk5] at HF
      have hae : Tr.moveErr g st tt = 5 := Tr.moveErr_2 HSPT.out hk
      have HAE := Lib.hid hae
      have HT : Hid (moveT g T st tt = T) := by show _ = _; unfold moveT; rw [hae, if_neg (by decide)]
      have HFP : Hid (∀ W, TpV W (.slice A0 T.nm.length c0) (.slice A1 T.dirs.length c1) ga gb T → Calls Tryz.prog 22 #[.agg #[.slice A0 T.nm.length c0, .slice A1 T.dirs.length c1], .string (Pa.mk (Pa.shown (P ++ [x])))] W fun e w' => e = .returned (.int .i64 (-1)) ∧ Fr [] W w') := fun W hW => (HF.out W hW).mono fun _ _ h => h
      clear hk hfk hfk5 hae HF
      generalize Pa.mk (Pa.shown (P ++ [x])) = mp at *
      go_wp2_with (first
        | (have h' := HSP; go_at_call 21; (with_reducible refine useC (HSP.out W0 HU0.out.v) ?_); rintro e w2 ⟨rfl, hf⟩; have HU1 := Lib.hid (HU0.out.step hf); obtain ⟨b0, b1, z0, z1⟩ := HU1.out.cells; clear hf h' HSP)
        | (have h' := HFP; go_at_call 22; (with_reducible refine useC (HFP.out w2 HU1.out.v) ?_); rintro e w3 ⟨rfl, hf⟩; have HU2 := Lib.hid (HU1.out.step hf); obtain ⟨b0, b1, z0, z1⟩ := HU2.out.cells; obtain ⟨p0, p1, q0, q1⟩ := HU2.out.outs; clear hf h' HFP))
      exact bodyPost_ret (v := .tuple #[.agg #[.slice A0 T.nm.length c0, .slice A1 T.dirs.length c1], .int .i64 5]) (tp_results Tryz.results9 rfl rfl (TpW.fin HU2.out).1) rfl (by rw [HT.out, HAE.out]; exact (TpW.fin HU2.out).2 _)
    | some n =>
      rw [hk] at hfk
      have hfkc : Tr.fnd g g.root (P ++ [x]) = .ok n := hfk
      rw [hfkc] at HF
      have HKN := Lib.hid hk
      have hth := HRF.out.thing hfkc
      obtain ⟨hi, hdd⟩ := HRF.out.dirAt hth
      obtain ⟨t, ht⟩ : ∃ t, ths.idxOf n = t := ⟨_, rfl⟩
      have HFP : Hid (∀ W, TpV W (.slice A0 T.nm.length c0) (.slice A1 T.dirs.length c1) ga gb T → Calls Tryz.prog 22 #[.agg #[.slice A0 T.nm.length c0, .slice A1 T.dirs.length c1], .string (Pa.mk (Pa.shown (P ++ [x])))] W fun e w' => e = .returned (.int .i64 (t : Int)) ∧ Fr [] W w') := fun W hW => (HF.out W hW).mono fun _ _ h => ⟨by rw [h.1, ← ht]; rfl, h.2⟩
      have HFP3 := Lib.hid HFP.out
      have t0 : (0 : Int) ≤ t := by omega
      have t1 : ¬ (t : Int) < 0 := by omega
      have hdq : T.dirs[ths.idxOf n]? = some (g.ent n).isSome := by rw [List.getElem?_eq_getElem hi, hdd]
      rw [ht] at hdq
      have HTI : Hid (∃ (h : t < T.dirs.length), T.dirs[t] = (g.ent n).isSome) := List.getElem?_eq_some_iff.1 hdq
      have t2 : (t : Int) < T.dirs.length := by obtain ⟨h, -⟩ := HTI.out; omega
      clear hk hfk hfkc ht HF hth hdq hi hdd
      cases hsq : Tr.spot g tt with
      | err ce =>
        have hne := spot_err_ne hsq
        have hae : Tr.moveErr g st tt = ce := Tr.moveErr_3 HSPT.out HKN.out hsq
        have HT : Hid (moveT g T st tt = T) := by show _ = _; unfold moveT; rw [hae, if_neg hne]
        have hsv : spV g tt = .tuple #[.string ⟨#[]⟩, .int .i64 ce] := by unfold spV; rw [hsq]
        rw [hsv] at HSQ
        have HAE := Lib.hid hae
        have f1 : (ce == 0) = false := by simpa using hne
        have f2 : (ce != 0) = true := by simpa using hne
        clear hsq hne hae hsv
        generalize Pa.mk (Pa.shown (P ++ [x])) = mp at *
        go_wp2_with (first
          | (have h' := HSP; go_at_call 21; (with_reducible refine useC (HSP.out W0 HU0.out.v) ?_); rintro e w2 ⟨rfl, hf⟩; have HU1 := Lib.hid (HU0.out.step hf); obtain ⟨b0, b1, z0, z1⟩ := HU1.out.cells; clear hf h' HSP)
          | (have h' := HFP; go_at_call 22; (with_reducible refine useC (HFP.out w2 HU1.out.v) ?_); rintro e w3 ⟨rfl, hf⟩; have HU2 := Lib.hid (HU1.out.step hf); obtain ⟨b0, b1, z0, z1⟩ := HU2.out.cells; clear hf h' HFP)
          | (go_at_call 21; (with_reducible refine useC (HSQ.out w3 HU2.out.v) ?_); rintro e w4 ⟨rfl, hf⟩; have HU3 := Lib.hid (HU2.out.step hf); obtain ⟨b0, b1, z0, z1⟩ := HU3.out.cells; obtain ⟨p0, p1, q0, q1⟩ := HU3.out.outs; clear hf))
        exact bodyPost_ret (v := .tuple #[.agg #[.slice A0 T.nm.length c0, .slice A1 T.dirs.length c1], .int .i64 ce]) (tp_results Tryz.results9 rfl rfl (TpW.fin HU3.out).1) rfl (by rw [HT.out, HAE.out]; exact (TpW.fin HU3.out).2 _)
      | at_ d' x' =>
        obtain ⟨P', hpt', hf', hds'⟩ := Tr.spot_at hsq
        have hQ : Tr.Nms (P' ++ [x']) := by have := nms_parts (s := tt) (by rw [hpt']); rwa [hpt'] at this
        have hsv : spV g tt = .tuple #[.string (Pa.mk (Pa.shown (P' ++ [x']))), .int .i64 0] := by unfold spV; rw [hsq, hpt']
        have hfk := fnd_kid (x := x') hf' hds'
        have HQT : Hid (Pa.shown (Pa.parts tt).1 = Pa.shown (P' ++ [x'])) := by show _ = _; rw [hpt']
        have hm4 := Tr.moveErr_4 HSPT.out HKN.out hsq
        rw [hpt'] at hm4
        have HM4 := Lib.hid hm4
        have HINTO := Lib.hid (Tr.move_into HOK.out HFD.out HKN.out hf' hds' HPN.out hQ)
        have HDEEP := Lib.hid (HRF.out.deep HOK.out HFD.out HKN.out HPN.out hQ (by simp))
        rw [hsv] at HSQ
        have HF := Lib.hid (fun W hW => HFI.out W (P' ++ [x']) hW hQ)
        have hql : (Pa.shown (P' ++ [x'])).length ≤ 1000 := by have := Tr.shown_len hQ.1 hQ.2; omega
        clear hsq hpt' hf' hds' hsv hm4 HFI
        cases hk' : Tr.kid g d' x' with
        | some c =>
          rw [hk'] at hfk HM4
          have hfkc : Tr.fnd g g.root (P' ++ [x']) = .ok c := hfk
          rw [hfkc] at HF
          have HAE : Hid (Tr.moveErr g st tt = 6) := HM4.out
          have HT : Hid (moveT g T st tt = T) := by show _ = _; unfold moveT; rw [HAE.out, if_neg (by decide)]
          obtain ⟨u, hu⟩ : ∃ u, ths.idxOf c = u := ⟨_, rfl⟩
          have HFQ : Hid (∀ W, TpV W (.slice A0 T.nm.length c0) (.slice A1 T.dirs.length c1) ga gb T → Calls Tryz.prog 22 #[.agg #[.slice A0 T.nm.length c0, .slice A1 T.dirs.length c1], .string (Pa.mk (Pa.shown (P' ++ [x'])))] W fun e w' => e = .returned (.int .i64 (u : Int)) ∧ Fr [] W w') := fun W hW => (HF.out W hW).mono fun _ _ h => ⟨by rw [h.1, ← hu]; rfl, h.2⟩
          have u0 : (0 : Int) ≤ u := by omega
          clear hk' hfk hfkc HF hu
          generalize Pa.mk (Pa.shown (P ++ [x])) = mp at *
          generalize Pa.mk (Pa.shown (P' ++ [x'])) = mq at *
          go_wp2_with (first
            | (have h' := HSP; go_at_call 21; (with_reducible refine useC (HSP.out W0 HU0.out.v) ?_); rintro e w2 ⟨rfl, hf⟩; have HU1 := Lib.hid (HU0.out.step hf); obtain ⟨b0, b1, z0, z1⟩ := HU1.out.cells; clear hf h' HSP)
            | (have h' := HFP; go_at_call 22; (with_reducible refine useC (HFP.out w2 HU1.out.v) ?_); rintro e w3 ⟨rfl, hf⟩; have HU2 := Lib.hid (HU1.out.step hf); obtain ⟨b0, b1, z0, z1⟩ := HU2.out.cells; clear hf h' HFP)
            | (go_at_call 21; (with_reducible refine useC (HSQ.out w3 HU2.out.v) ?_); rintro e w4 ⟨rfl, hf⟩; have HU3 := Lib.hid (HU2.out.step hf); obtain ⟨b0, b1, z0, z1⟩ := HU3.out.cells; clear hf)
            | (go_at_call 22; (with_reducible refine useC (HFQ.out w4 HU3.out.v) ?_); rintro e w5 ⟨rfl, hf⟩; have HU4 := Lib.hid (HU3.out.step hf); obtain ⟨b0, b1, z0, z1⟩ := HU4.out.cells; obtain ⟨p0, p1, q0, q1⟩ := HU4.out.outs; clear hf))
          exact bodyPost_ret (v := .tuple #[.agg #[.slice A0 T.nm.length c0, .slice A1 T.dirs.length c1], .int .i64 6]) (tp_results Tryz.results9 rfl rfl (TpW.fin HU4.out).1) rfl (by rw [HT.out, HAE.out]; exact (TpW.fin HU4.out).2 _)
        | none =>
          rw [hk'] at hfk HM4
          have hfk5 : Tr.fnd g g.root (P' ++ [x']) = .err 5 := hfk
          rw [hfk5] at HF
          have HFQ : Hid (∀ W, TpV W (.slice A0 T.nm.length c0) (.slice A1 T.dirs.length c1) ga gb T → Calls Tryz.prog 22 #[.agg #[.slice A0 T.nm.length c0, .slice A1 T.dirs.length c1], .string (Pa.mk (Pa.shown (P' ++ [x'])))] W fun e w' => e = .returned (.int .i64 (-1)) ∧ Fr [] W w') := fun W hW => (HF.out W hW).mono fun _ _ h => h
          clear hk' hfk hfk5 HF
          obtain ⟨p, hp⟩ : ∃ p, Pa.shown (P ++ [x]) = p := ⟨_, rfl⟩
          obtain ⟨q, hq⟩ : ∃ q, Pa.shown (P' ++ [x']) = q := ⟨_, rfl⟩
          rw [hp] at HPT HSP HFP HFP3 hpl HINTO HDEEP
          rw [hq] at HQT HSQ HFQ hql HINTO HDEEP
          clear hp hq
          go_upto_region 11 with (first
            | (have h' := HSP; go_at_call 21; (with_reducible refine useC (HSP.out W0 HU0.out.v) ?_); rintro e w2 ⟨rfl, hf⟩; have HU1 := Lib.hid (HU0.out.step hf); obtain ⟨b0, b1, z0, z1⟩ := HU1.out.cells; clear hf h' HSP)
            | (have h' := HFP; go_at_call 22; (with_reducible refine useC (HFP.out w2 HU1.out.v) ?_); rintro e w3 ⟨rfl, hf⟩; have HU2 := Lib.hid (HU1.out.step hf); obtain ⟨b0, b1, z0, z1⟩ := HU2.out.cells; clear hf h' HFP)
            | (go_at_call 21; (with_reducible refine useC (HSQ.out w3 HU2.out.v) ?_); rintro e w4 ⟨rfl, hf⟩; have HU3 := Lib.hid (HU2.out.step hf); obtain ⟨b0, b1, z0, z1⟩ := HU3.out.cells; clear hf)
            | (go_at_call 22; (with_reducible refine useC (HFQ.out w4 HU3.out.v) ?_); rintro e w5 ⟨rfl, hf⟩; have HU4 := Lib.hid (HU3.out.step hf); obtain ⟨b0, b1, z0, z1⟩ := HU4.out.cells; clear hf))
          have HRW := Lib.hid (nm_cells HU4.out.v.nm)
          have HUW := Lib.hid (fun W (hW : Fr [] w5.drew W) => HU4.out.step (((Fr.refl [] w5).drew).trans hW))
          obtain ⟨A9, o9, c9, e9, -, hA9, hC9⟩ := bo_cells HU4.out.v.dirs
          injection e9 with e9 _ e9c
          subst e9 e9c
          obtain rfl := hA9 (by omega)
          obtain ⟨hti, htd⟩ := HTI.out
          have cd := hC9 t hti
          rw [htd] at cd
          clear htd
          have HCD := Lib.hid (fun W (hW : Fr [] w5.drew W) => (((Fr.refl [] w5).drew).trans hW).cell cd (by simp))
          have HFP4 := Lib.hid (HFP3.out w5.drew (HU4.out.step (Fr.refl [] w5).drew).v)
          have HBG := Lib.hid (fun W => m_begins q p W (by omega) (by omega))
          clear hA9 hC9 cd b0 b1 z0 z1 p0 p1 q0 q1
          obtain ⟨bd, hbd⟩ : ∃ b, (g.ent n).isSome = b := ⟨_, rfl⟩
          rw [hbd] at HCD HINTO
          obtain ⟨bg, hbg⟩ : ∃ b, Tr.beg q p = b := ⟨_, rfl⟩
          rw [hbg] at HBG HINTO
          have HBD := Lib.hid hbd
          clear hbd hbg
          -- THE TEST
          (refine wp_region_mix (Fr [] w5.drew ·) 10 [(true, 0), (true, 1), (true, 2), (true, 3), (false, 4), (true, 5), (true, 6), (true, 7), (true, 8), (true, 9)] (by kernel_rfl) (by kernel_rfl) (Fr.refl _ _) ?_; simp only [pickOps, List.map_cons, List.map_nil, List.getD_cons_zero, List.getD_cons_succ, List.drop_succ_cons, List.drop_zero])
          (iterate 4 (first | (refine wpMix_take (v := ?_) (by rfl) ?_ ?_; rotate_left; (focus (intro W hW; obtain ⟨b0, b1, -, -⟩ := (HUW.out W hW).cells; go_simp; (try with_reducible rfl); done)); try simp only [Act.put, List.setIfInBounds_toArray, List.set_cons_zero, List.set_cons_succ]) | (refine wpMix_leave (by rfl) ?_; try simp only [Act.put, List.setIfInBounds_toArray, List.set_cons_zero, List.set_cons_succ])))
          refine wpMix_walk ?_
          go_wp2_with (go_at_call 22; (with_reducible refine useC HFP4.out ?_); rintro e w6 ⟨rfl, hf⟩; have HF6 := Lib.hid hf; clear hf)
          refine MixQ.mk (HF6.out) ?_
          rcases bd with _ | _
          all_goals
            rcases bg with _ | _
          case' false.true => exact absurd (HINTO.out.2 rfl).1 (by simp)
          case' true.true =>
            have HAE : Hid (Tr.moveErr g st tt = 7) := by
              show _ = _
              rw [HM4.out, if_neg (by simp), if_pos (by rw [HBD.out]; exact HINTO.out.2 rfl)]
            have HT : Hid (moveT g T st tt = T) := by show _ = _; unfold moveT; rw [HAE.out, if_neg (by decide)]
            (iterate 5 (first | (refine wpMix_take (v := ?_) (by rfl) ?_ ?_; rotate_left; (focus (intro W hW; have cd := HCD.out W hW; go_simp; (try with_reducible rfl); done)); try simp only [Act.put, List.setIfInBounds_toArray, List.set_cons_zero, List.set_cons_succ]) | (refine wpMix_leave (by rfl) ?_; try simp only [Act.put, List.setIfInBounds_toArray, List.set_cons_zero, List.set_cons_succ])))
            refine wpMix_nil ?_
            have HU6 := Lib.hid (HUW.out w6 HF6.out)
            obtain ⟨b0, b1, z0, z1⟩ := HU6.out.cells
            obtain ⟨p0, p1, q0, q1⟩ := HU6.out.outs
            go_wp2_with (go_at_call 23; (with_reducible refine useC (HBG.out _) ?_); rintro e w7 ⟨rfl, rfl⟩)
            exact bodyPost_ret (v := .tuple #[.agg #[.slice A0 T.nm.length c0, .slice (some ⟨gb, o9, none⟩) T.dirs.length c1], .int .i64 7]) (tp_results Tryz.results9 rfl rfl (TpW.fin HU6.out).1) rfl (by rw [HT.out, HAE.out]; exact (TpW.fin HU6.out).2 _)
          all_goals
            have HM5 : Hid (((∃ e ∈ T.nm, Tr.longT p q e) → Tr.moveErr g st tt = 4) ∧ ((¬ ∃ e ∈ T.nm, Tr.longT p q e) → Tr.moveErr g st tt = 0)) := by
              have hno : ¬ ((g.ent n).isSome = true ∧ (d' = n ∨ Tr.Und g n d')) := by rw [HBD.out]; intro h; have := HINTO.out.1 h; cases this
              refine ⟨fun h => ?_, fun h => ?_⟩
              · rw [HM4.out, if_neg (by simp), if_neg hno, if_pos (HDEEP.out.2 h)]
              · rw [HM4.out, if_neg (by simp), if_neg hno, if_neg (fun h2 => h (HDEEP.out.1 h2))]
            (iterate 5 (first | (refine wpMix_take (v := ?_) (by rfl) ?_ ?_; rotate_left; (focus (intro W hW; have cd := HCD.out W hW; go_simp; (try with_reducible rfl); done)); try simp only [Act.put, List.setIfInBounds_toArray, List.set_cons_zero, List.set_cons_succ]) | (refine wpMix_leave (by rfl) ?_; try simp only [Act.put, List.setIfInBounds_toArray, List.set_cons_zero, List.set_cons_succ])))
            refine wpMix_nil ?_
            have HU6 := Lib.hid (HUW.out w6 HF6.out)
            have HRW2 := Lib.hid (nm_cells HU6.out.v.nm)
            have HO0 : Hid (OwnR nmE w6 w6.heap.size 63 (.slice none 0 0) []) := OwnR.nil
            have HNB0 : Hid (∀ j (hj : j < T.nm.length), j < 0 → ¬ Tr.longT p q T.nm[j]) := fun j _ hj => absurd hj (by omega)
            go_wp2_with (go_at_call 23; (with_reducible refine useC (HBG.out _) ?_); rintro e w6 ⟨rfl, rfl⟩)
            go_loopw [11, 12] (fun ov kv wr => ∃ k : Nat, k ≤ T.nm.length ∧ kv = .int .i64 k ∧ (∃ Ao co, ov = .slice Ao k co) ∧ Hid (OwnR nmE wr w6.heap.size 63 ov (mvL (T.nm.take k) p q)) ∧ Hid (Fr [] w6 wr) ∧ Hid (∀ j (hj : j < T.nm.length), j < k → ¬ Tr.longT p q T.nm[j])) (fun _ kv _ => T.nm.length - (intOf kv).toNat)
            case atStart => exact ⟨0, Nat.zero_le _, rfl, ⟨_, _, rfl⟩, HO0, Lib.hid (Fr.refl [] w6), HNB0⟩
            case round =>
              clear HO0 HNB0
              obtain ⟨k, hk, rfl, ⟨Ao, co, rfl⟩, hOw, hF, hNB⟩ := hrel
              have k0 : (0 : Int) ≤ k := by omega
              have kw : IntKind.i64.wrap ((k : Int) + 1) = (k : Int) + 1 := by rw [IntKind.wrap_i64]; omega
              have HU7 := Lib.hid (HU6.out.step hF.out)
              obtain ⟨b0, b1, z0, z1⟩ := HU7.out.cells
              by_cases hlt : k < T.nm.length
              · have i1 : (k : Int) < T.nm.length := by omega
                obtain ⟨A8, o8, c8, e8, -, hA8, hC8⟩ := HRW2.out
                injection e8 with e8 _ e8c
                subst e8 e8c
                obtain rfl := hA8 (by omega)
                obtain ⟨ca, cb⟩ := hC8 k hlt
                have ca := hF.out.cell ca (by simp)
                have cb := hF.out.cell cb (by simp)
                obtain ⟨cur, ty, ff, hgd, hsz, hvs⟩ := nm_row ca cb
                have HGD := Lib.hid hgd
                have HSZ := Lib.hid hsz
                have HVS := Lib.hid hvs
                have hb2 := HBN.out _ (List.getElem_mem hlt)
                have HS := Lib.hid (mvL_succ hlt p q)
                have HBG2 := Lib.hid (fun W => m_begins T.nm[k].1 p W (by omega) (by omega))
                have HNX : Hid (¬ Tr.longT p q T.nm[k] → ∀ j (hj : j < T.nm.length), j < k + 1 → ¬ Tr.longT p q T.nm[j]) := fun h j hj hj2 => by
                  rcases Nat.lt_or_ge j k with h1 | h1
                  · exact hNB.out j hj h1
                  · obtain rfl : j = k := by omega
                    exact h
                have hmem := List.getElem_mem hlt
                have HEX : Hid (Tr.longT p q T.nm[k] → Tr.moveErr g st tt = 4) := fun h => HM5.out.1 ⟨_, hmem, h⟩
                obtain ⟨L, hL⟩ : ∃ L, mvL (T.nm.take k) p q = L := ⟨_, rfl⟩
                have hLk : L.length = k := by rw [← hL]; unfold mvL; rw [List.length_map, List.length_take]; omega
                rw [hL] at HS hOw
                have HLK := Lib.hid hLk
                have hlo : L.length < 1000000 := by omega
                clear hA8 hC8 hgd hsz hvs hmem hL hLk ca cb
                generalize T.nm[k] = y at *
                go_upto_region 18 with (first
                  | (refine wpList_load_part rfl 63 _ rfl ga (o8 + k * 2) 2 rfl ty cur ff _ HGD.out Tryz.underlying63 rfl (by kernel_rfl) HSZ.out _ HVS.out ?_)
                  | (refine wpList_store_fresh (w := wr) rfl 63 _ _ rfl rfl #[.string (Pa.mk y.1), .int .i64 y.2] rfl rfl (by kernel_rfl) rfl (by simp [Value.oneCell']) ?_; intro w8 hw8 hf8 hs8; have HMV := Lib.hid (MvI.start hOw.out hF.out hw8 hf8); have HF8 := Lib.hid hf8; clear hw8 hf8 hs8))
                obtain ⟨y0, y1, f0, f1⟩ := HMV.out.cells
                have HSET := Lib.hid (fun x0 x1 => MvI.set (x0 := x0) (x1 := x1) hOw.out hF.out HF8.out HMV.out)
                have HSETD := Lib.hid (fun x0 x1 => MvI.set (x0 := x0) (x1 := x1) hOw.out hF.out HF8.out.drew (HMV.out.step (Fr.refl [] w8).drew))
                obtain ⟨Y, hY⟩ : ∃ Y, Y = wr.heap.size := ⟨_, rfl⟩
                rw [← hY] at y0 y1 f0 f1 HMV HSET HSETD ⊢
                have HY := Lib.hid hY
                clear hY
                by_cases he : y.1 = p
                · have hcm : ((Pa.mk y.1).toList == (Pa.mk p).toList) = true := by rw [he]; simp
                  have hmv : Tr.mvT p q y.1 = q := by unfold Tr.mvT; rw [if_pos he]
                  rw [hmv] at HS
                  have hnl : ¬ Tr.longT p q y := fun h => by
                    have h1 := h.1
                    rw [he, Tr.beg_iff] at h1
                    obtain ⟨r, hr⟩ := h1
                    have := congrArg List.length hr
                    simp at this
                  have HNB2 := Lib.hid (HNX.out hnl)
                  clear he hmv hnl
                  go_upto_region 24 with (fail)
                  have HM9 := Lib.hid (HSET.out (.string (Pa.mk q)) (.int .i64 y.2))
                  clear y0 y1 f0 f1 HSET HSETD
                  generalize (w8.setCell ⟨Y, 0, none⟩ (.string (Pa.mk q))).setCell ⟨Y, 1, none⟩ (.int .i64 y.2) = w9 at *
                  obtain ⟨y0, y1, f0, f1⟩ := HM9.out.cells
                  go_wp2_with (at_builtin; have hO8 := HM9.out.own; refine wpList_push_enc (E := nmE) (wr := w9) (y := (q, y.2)) u_nm info_nm rfl (by decide) rfl _ _ rfl w6.heap.size (.slice Ao k co) L rfl rfl hO8 rfl hlo HM9.out.fr.size ?_; intro v9 wA h1 h2 h3; obtain ⟨A9', c9', hv9⟩ := h1.form0; subst hv9; have HO9 := Lib.hid h1; have HF9 := Lib.hid (HM9.out.fr.below_step h3 (Nat.le_refl _)); clear h1 h2 h3 hO8)
                  go_roundw
                  case rel => exact ⟨k + 1, by omega, by go_num, ⟨A9', c9', by simp [HLK.out]⟩, by rw [HS.out]; simpa using HO9, HF9, HNB2⟩
                  case measure => (simp [intOf]; try omega)
                · have hcm : ((Pa.mk y.1).toList == (Pa.mk p).toList) = false := by rw [mk_toList, mk_toList]; exact beq_eq_false_iff_ne.2 he
                  cases hbg : Tr.beg y.1 p with
                  | false =>
                    rw [hbg] at HBG2
                    have hmv : Tr.mvT p q y.1 = y.1 := by unfold Tr.mvT; rw [if_neg he, if_neg (by rw [hbg]; simp)]
                    rw [hmv] at HS
                    have hnl : ¬ Tr.longT p q y := fun h => by have := h.1; rw [hbg] at this; cases this
                    have HNB2 := Lib.hid (HNX.out hnl)
                    clear he hmv hnl hbg HSET HSETD
                    go_upto_region 24 with (go_at_call 23; (with_reducible refine useC (HBG2.out _) ?_); rintro e w9 ⟨rfl, rfl⟩)
                    have HM9 := Lib.hid HMV.out
                    go_wp2_with (at_builtin; have hO8 := HM9.out.own; refine wpList_push_enc (E := nmE) (wr := w9) (y := (y.1, y.2)) u_nm info_nm rfl (by decide) rfl _ _ rfl w6.heap.size (.slice Ao k co) L rfl rfl hO8 rfl hlo HM9.out.fr.size ?_; intro v9 wA h1 h2 h3; obtain ⟨A9', c9', hv9⟩ := h1.form0; subst hv9; have HO9 := Lib.hid h1; have HF9 := Lib.hid (HM9.out.fr.below_step h3 (Nat.le_refl _)); clear h1 h2 h3 hO8)
                    go_roundw
                    case rel => exact ⟨k + 1, by omega, by go_num, ⟨A9', c9', by simp [HLK.out]⟩, by rw [HS.out]; simpa using HO9, HF9, HNB2⟩
                    case measure => (simp [intOf]; try omega)
                  | true =>
                    rw [hbg] at HBG2
                    have hmv : Tr.mvT p q y.1 = q ++ y.1.drop p.length := by unfold Tr.mvT; rw [if_neg he, if_pos hbg]
                    rw [hmv] at HS
                    have HNL : Hid (Tr.longT p q y ↔ 8 < Tr.slN (q ++ y.1.drop p.length)) := ⟨fun h => h.2, fun h => ⟨hbg, h⟩⟩
                    obtain ⟨r, hr⟩ := (Tr.beg_iff y.1 p).1 hbg
                    have hlen := congrArg List.length hr
                    rw [List.length_append, List.length_cons] at hlen
                    have zx := Pa.mk_size y.1
                    have zp := Pa.mk_size p
                    have zq := Pa.mk_size q
                    have j3 : ((Pa.mk p).size : Int) ≤ (Pa.mk y.1).size := by omega
                    have j0 : (0 : Int) ≤ (Pa.mk p).size := by omega
                    have he1 : (Pa.mk y.1).extract (Pa.mk p).size (Pa.mk y.1).size = Pa.mk (y.1.drop p.length) := by rw [zx, zp]; exact mk_drop y.1 _
                    have zd := Pa.mk_size (y.1.drop p.length)
                    rw [List.length_drop] at zd
                    have he2 : Pa.mk q ++ Pa.mk (y.1.drop p.length) = Pa.mk (q ++ y.1.drop p.length) := mk_append _ _
                    have hzl : (q ++ y.1.drop p.length).length ≤ 2000 := by rw [List.length_append, List.length_drop]; omega
                    have HSLS := Lib.hid (fun W => m_slashes (q ++ y.1.drop p.length) W (by omega))
                    have zd1 : (Pa.mk (y.1.drop p.length)).size ≤ 1000 := by omega
                    have zq1 : (Pa.mk q).size ≤ 1000 := by omega
                    clear he hmv hbg hr hlen zx zp zq zd HSETD
                    generalize q ++ y.1.drop p.length = z at *
                    generalize Pa.mk (y.1.drop p.length) = md at *
                    generalize Pa.mk y.1 = my at *
                    have hc1 : (Pa.mk q).size + md.size ≤ 9223372036854775807 := by omega
                    have hc2 : ¬ (9223372036854775807 : Int) < ((Pa.mk q).size : Int) + (md.size : Int) := by omega
                    have hc3 : ¬ 9223372036854775807 < (Pa.mk q).size + md.size := by omega
                    go_upto_region 21 with (go_at_call 23; (with_reducible refine useC (HBG2.out _) ?_); rintro e w8 ⟨rfl, rfl⟩)
                    (refine wp_region_mixq 9 [(true, 0), (true, 1), (true, 2), (true, 3), (true, 4), (true, 5), (true, 6), (true, 7), (true, 8)] (by kernel_rfl) (by kernel_rfl) ?_; simp only [pickOps, List.map_cons, List.map_nil, List.getD_cons_zero, List.getD_cons_succ, List.drop_succ_cons, List.drop_zero]; (iterate 9 (first | (refine wpMix_take (v := ?_) (by rfl) ?_ ?_; rotate_left; (focus (intro W hW; subst hW; go_simp; (try with_reducible rfl); done)); try simp only [Act.put, List.setIfInBounds_toArray, List.set_cons_zero, List.set_cons_succ]) | (refine wpMix_leave (by rfl) ?_; try simp only [Act.put, List.setIfInBounds_toArray, List.set_cons_zero, List.set_cons_succ]))); refine wpMix_nil ?_)
                    go_upto_region 22 with (fail)
                    have HM9 := Lib.hid ((HSET.out (.string (Pa.mk z)) (.int .i64 y.2)).step (Fr.refl [] _).drew)
                    clear y0 y1 f0 f1 HSET he1 he2
                    generalize ((w8.setCell ⟨Y, 0, none⟩ (.string (Pa.mk z))).setCell ⟨Y, 1, none⟩ (.int .i64 y.2)).drew = w9 at *
                    obtain ⟨y0, y1, f0, f1⟩ := HM9.out.cells
                    by_cases h8 : 8 < Tr.slN z
                    · have HAE : Hid (Tr.moveErr g st tt = 4) := HEX.out (HNL.out.2 h8)
                      have HT : Hid (moveT g T st tt = T) := by show _ = _; unfold moveT; rw [HAE.out, if_neg (by decide)]
                      have h8i : (8 : Int) < (Tr.slN z : Int) := by omega
                      have HU9 := Lib.hid (HU6.out.step HM9.out.fr)
                      obtain ⟨b0, b1, z0, z1⟩ := HU9.out.cells
                      obtain ⟨p0, p1, q0, q1⟩ := HU9.out.outs
                      clear h8
                      generalize Tr.slN z = sz at *
                      go_wp2_with (go_at_call 25; (with_reducible refine useC (HSLS.out _) ?_); rintro e w9 ⟨rfl, rfl⟩)
                      exact bodyPost_ret (v := .tuple #[.agg #[.slice (some ⟨ga, o8, none⟩) T.nm.length c0, .slice (some ⟨gb, o9, none⟩) T.dirs.length c1], .int .i64 4]) (tp_results Tryz.results9 rfl rfl (TpW.fin HU9.out).1) rfl (by rw [HT.out, HAE.out]; exact (TpW.fin HU9.out).2 _)
                    · have HNB2 := Lib.hid (HNX.out (fun h => h8 (HNL.out.1 h)))
                      have h8i : ¬ (8 : Int) < (Tr.slN z : Int) := by omega
                      clear h8 HNL
                      generalize Tr.slN z = sz at *
                      go_wp2_with (first
                        | (go_at_call 25; (with_reducible refine useC (HSLS.out _) ?_); rintro e w9 ⟨rfl, rfl⟩)
                        | (at_builtin; have hO8 := HM9.out.own; refine wpList_push_enc (E := nmE) (wr := w9) (y := (z, y.2)) u_nm info_nm rfl (by decide) rfl _ _ rfl w6.heap.size (.slice Ao k co) L rfl rfl hO8 rfl hlo HM9.out.fr.size ?_; intro v9 wA h1 h2 h3; obtain ⟨A9', c9', hv9⟩ := h1.form0; subst hv9; have HO9 := Lib.hid h1; have HF9 := Lib.hid (HM9.out.fr.below_step h3 (Nat.le_refl _)); clear h1 h2 h3 hO8))
                      go_roundw
                      case rel => exact ⟨k + 1, by omega, by go_num, ⟨A9', c9', by simp [HLK.out]⟩, by rw [HS.out]; simpa using HO9, HF9, HNB2⟩
                      case measure => (simp [intOf]; try omega)
              · have i1 : ¬ (k : Int) < T.nm.length := by omega
                obtain rfl : k = T.nm.length := by omega
                have hall : T.nm.take T.nm.length = T.nm := List.take_length
                have HAE : Hid (Tr.moveErr g st tt = 0) := HM5.out.2 (fun ⟨e, he, hle⟩ => by
                  obtain ⟨j, hj, rfl⟩ := List.getElem_of_mem he
                  exact hNB.out j hj hj hle)
                have HT : Hid (moveT g T st tt = ⟨mvL T.nm p q, T.dirs⟩) := by
                  show _ = _
                  unfold moveT mvL
                  rw [HAE.out, if_pos rfl, HPT.out, HQT.out]
                obtain ⟨g8, hg8, hs8⟩ := hOw.out.sl
                rw [hall] at hs8 hg8
                obtain ⟨g9, hUA⟩ := HU7.out.set0 hs8 (hg8.imp (fun h => Nat.le_trans HU6.out.lt h) id)
                have HUA := Lib.hid hUA
                clear hall hg8 hs8 hUA
                go_upto_region 26 with (fail)
                generalize wr.setCell ⟨X, 0, none⟩ (.slice Ao T.nm.length co) = wA at *
                obtain ⟨b0, b1, z0, z1⟩ := HUA.out.cells
                obtain ⟨p0, p1, q0, q1⟩ := HUA.out.outs
                go_wp2
                exact bodyPost_ret (v := .tuple #[.agg #[.slice Ao T.nm.length co, .slice (some ⟨gb, o9, none⟩) T.dirs.length c1], .int .i64 0]) (tp_results Tryz.results9 rfl rfl (TpW.fin HUA.out).1) rfl (by rw [HT.out, HAE.out]; exact (TpW.fin HUA.out).2 _)
end
end Go.Proofs.YtnglhfeialomgaaGreatDoor
