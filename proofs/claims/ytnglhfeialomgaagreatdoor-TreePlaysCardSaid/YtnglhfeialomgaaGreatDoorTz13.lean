/- Trees of directories: Move. -/

import Derived.Test.YtnglhfeialomgaaGreatDoorTz12
namespace Go.Proofs.YtnglhfeialomgaaGreatDoor
open Go.RowKit

theorem tr_depth (s : ByteArray) (w : World) : Calls Tryz.prog 45 #[.string s] w fun e w' => e = .returned (.int .i64 (Pa.parts s.data.toList).1.length) ∧ Fr [] w w' := by
  have HPA := Lib.hid (pa_Parts s w)
  unfold PaP at HPA
  generalize (Pa.parts s.data.toList).1 = l at *
  generalize (Pa.parts s.data.toList).2 = c at *
  go_enter Tryz.func45, Tryz.ntmps45
  go_wp2_with (go_at_call 49; (with_reducible refine useC HPA.out ?_); rintro e w1 ⟨v, gv, rfl, hv, hf⟩; obtain ⟨A, o, cc, rfl, -⟩ := strs_cell hv; have HF := Lib.hid hf; clear hv hf)
  go_ret
  exact ⟨rfl, HF.out⟩
namespace Tr
open Classical in
noncomputable def moveErr (g : G) (old tu : List UInt8) : Int := match spot g old with
  | .err e => e
  | .at_ d x => match kid g d x with
    | none => 5
    | some n => match spot g tu with
      | .err e => e
      | .at_ d' x' => if (kid g d' x').isSome = true then 6 else if (g.ent n).isSome = true ∧ (d' = n ∨ Und g n d') then 7 else if ∃ r c, fnd g n r = .ok c ∧ 8 < r.length + (Pa.parts tu).1.length then 4 else 0
theorem moveErr_1 {g : G} {old tu : List UInt8} {e : Int} (h : spot g old = .err e) : moveErr g old tu = e := by unfold moveErr; rw [h]
theorem moveErr_2 {g : G} {old tu : List UInt8} {d : Nat} {x : Nme} (h : spot g old = .at_ d x) (hk : kid g d x = none) : moveErr g old tu = 5 := by
  unfold moveErr; rw [h]
  show (match kid g d x with | none => (5 : Int) | some n => _) = 5
  rw [hk]
theorem moveErr_3 {g : G} {old tu : List UInt8} {d n : Nat} {x : Nme} {e : Int} (h : spot g old = .at_ d x) (hk : kid g d x = some n) (h2 : spot g tu = .err e) : moveErr g old tu = e := by
  unfold moveErr; rw [h]
  show (match kid g d x with | none => (5 : Int) | some n => _) = e
  rw [hk, h2]
open Classical in
theorem moveErr_4 {g : G} {old tu : List UInt8} {d n d' : Nat} {x x' : Nme} (h : spot g old = .at_ d x) (hk : kid g d x = some n) (h2 : spot g tu = .at_ d' x') : moveErr g old tu = if (kid g d' x').isSome = true then 6 else if (g.ent n).isSome = true ∧ (d' = n ∨ Und g n d') then 7 else if ∃ r c, fnd g n r = .ok c ∧ 8 < r.length + (Pa.parts tu).1.length then 4 else 0 := by
  unfold moveErr; rw [h]
  show (match kid g d x with | none => (5 : Int) | some n => _) = _
  rw [hk, h2]
theorem off_of {g : G} {n d' : Nat} (hd : (g.ent d').isSome = true) (h : ¬ ((g.ent n).isSome = true ∧ (d' = n ∨ Und g n d'))) : Off g n d' := fun q hq => by
  cases q with
  | nil => injection hq with hq; subst hq; exact h ⟨hd, .inl rfl⟩
  | cons x q =>
    refine h ⟨?_, .inr ⟨x, q, hq⟩⟩
    obtain ⟨a, m, e, h1, h2, h3, h4⟩ := fnd_front (p := []) hq
    injection h1 with h1
    subst h1
    rw [h2]; rfl
theorem spot_of {g : G} {s : List UInt8} {P : List Nme} {x : Nme} {d : Nat} (hp : Pa.parts s = (P ++ [x], 0)) (hf : fnd g g.root P = .ok d) (hd : (g.ent d).isSome = true) : spot g s = .at_ d x := by
  unfold spot
  rw [hp]
  show (if (0 : Int) = 0 then spotL g (P ++ [x]) else _) = _
  rw [if_pos rfl]
  unfold spotL
  rw [if_neg (by simp), List.dropLast_concat, hf, List.getLastD_concat]
  show (if (g.ent d).isSome = true then Sp.at_ d x else Sp.err 3) = _
  rw [if_pos hd]
/-- A move that is one takes place. -/
theorem moveErr_mv {g : G} {old tu : List UInt8} {P P' : List Nme} {d d' n : Nat} {x x' : Nme} (h : Mv g P d x n P' d' x') (hp : Pa.parts old = (P ++ [x], 0)) (hp' : Pa.parts tu = (P' ++ [x'], 0)) (hdeep : ∀ r c, fnd g n r = .ok c → P'.length + 1 + r.length ≤ 8) : moveErr g old tu = 0 := by
  rw [moveErr_4 (spot_of hp h.p h.hd) h.k (spot_of hp' h.p' h.hd'), h.k', if_neg (by simp), if_neg, if_neg]
  · rintro ⟨r, c, hr, hl⟩
    have := hdeep r c hr
    rw [hp'] at hl
    simp at hl
    omega
  · rintro ⟨-, h1 | ⟨y, r, h1⟩⟩
    · exact h.off [] (by rw [h1]; rfl)
    · exact h.off _ h1
end Tr
/-- What Move does. -/
def MoveA (tb : Nat) (g : Tr.G) (dom : Nat → Prop) (K : Nat) (old tu : List UInt8) (w : World) (e : Ending) (w' : World) : Prop :=
  e = .returned (errV (Tr.moveErr g old tu)) ∧ FrP (TrP tb g dom) w w' ∧
    ((Tr.moveErr g old tu = 0 ∧ ∃ P d x n P' d' x', Pa.parts old = (P ++ [x], 0) ∧ Pa.parts tu = (P' ++ [x'], 0) ∧ Tr.Mv g P d x n P' d' x' ∧ (∀ r c, Tr.fnd g n r = .ok c → P'.length + 1 + r.length ≤ 8) ∧ TrS w' tb (Tr.movE g d x d' x' n) dom (K + 2)) ∨ (Tr.moveErr g old tu ≠ 0 ∧ Fr [] w w'))
theorem MoveA.err {tb : Nat} {g : Tr.G} {dom : Nat → Prop} {K : Nat} {old tu : List UInt8} {w w' : World} {c : Int} (h : Tr.moveErr g old tu = c) (hc : c ≠ 0) (hf : Fr [] w w') : MoveA tb g dom K old tu w (.returned (.iface 66 (.int .i64 c))) w' := by
  refine ⟨?_, (FrP.refl _ _).step hf (by simp), .inr ⟨by rw [h]; exact hc, hf⟩⟩
  rw [h, errV_no hc]
set_option maxRecDepth 100000 in
set_option maxHeartbeats 4000000 in
theorem tr_move (w : World) (tb : Nat) (g : Tr.G) (dom : Nat → Prop) (K : Nat) (old tu : ByteArray) (hS : TrS w tb g dom K) (hK : K ≤ 100000) :
    Calls Tryz.prog 31 #[.pointer (some ⟨tb, 0, none⟩), .string old, .string tu] w (MoveA tb g dom K old.data.toList tu.data.toList w) := by
  have HS := Lib.hid hS
  have HSP := Lib.hid (tr_spot w tb g dom K old hS)
  have HSP2 := Lib.hid (fun W (h : Fr [] w W) => tr_spot W tb g dom K tu (hS.step h))
  have HDE := Lib.hid (fun W => tr_depth tu W)
  obtain ⟨st, hst⟩ : ∃ x, old.data.toList = x := ⟨_, rfl⟩
  obtain ⟨tt, htt⟩ : ∃ x, tu.data.toList = x := ⟨_, rfl⟩
  rw [hst] at HSP ⊢
  rw [htt] at HSP2 HDE ⊢
  clear hS hst htt
  unfold SpA at HSP HSP2
  go_enter Tryz.func31, Tryz.ntmps31
  cases hsp : Tr.spot g st with
  | err c0 =>
    rw [hsp] at HSP
    have HA := Lib.hid (Tr.moveErr_1 (tu := tt) hsp)
    clear hsp
    go_wp2_with (go_at_call 42; (with_reducible refine useC HSP.out ?_); rintro e w1 ⟨hf, o, t, h0, rfl⟩; have HF := Lib.hid hf; have HN := Lib.hid h0; have hev := errV_no h0; clear hf h0; rw [hev]; clear hev)
    go_ret
    exact MoveA.err HA.out HN.out HF.out
  | at_ d x =>
    rw [hsp] at HSP
    have HSPE := Lib.hid hsp
    obtain ⟨P, hpt, hfd, hds⟩ := Tr.spot_at hsp
    have hdd := HS.out.found P g.root d HS.out.rootD hfd
    obtain ⟨m, hm⟩ := Option.isSome_iff_exists.1 hds
    have hx4 := (Pa.parts_names hpt x (by simp)).2.1
    have HX : Hid (x.length ≤ maxLen) := by show _ ≤ _; unfold maxLen; omega
    have HM := Lib.hid hm
    have HDD := Lib.hid hdd
    have HFD := Lib.hid (And.intro hpt hfd)
    clear hsp hpt hfd hds hx4
    go_upto_region 4 with (go_at_call 42; (with_reducible refine useC HSP.out ?_); rintro e w1 ⟨hf, rfl⟩; have HF := Lib.hid hf; clear hf)
    have HS1 := Lib.hid (HS.out.step HF.out)
    obtain ⟨h0, hmap⟩ := (HS1.out.node d hdd).dir hm
    have n0 : w1.cell? ⟨d, 0, none⟩ = some (.map (some (g.mb d))) := by rw [cell_of_row _ _ _ _ _ _ h0]; rfl
    have HMAP := Lib.hid hmap
    have HKD : Hid (Tr.kid g d x = m x) := Tr.kid_of hm x
    clear h0 hmap hdd hm
    cases hmx : m x with
    | none =>
      have HA := Lib.hid (Tr.moveErr_2 (tu := tt) HSPE.out (by rw [HKD.out, hmx]))
      go_wp2_with (at_lookup; refine wpList_slook rfl _ _ rfl HMAP.out Tryz.underlying9 Tryz.underlying54 (zero_nodeP _) rfl x rfl HX.out (.pointer none) (by rw [hmx]; rfl) ?_)
      go_ret
      exact MoveA.err HA.out (by decide) HF.out
    | some n =>
      have hkid : Tr.kid g d x = some n := by rw [HKD.out, hmx]
      have hnd := HS1.out.closed d x n HDD.out hkid
      have HND := Lib.hid hnd
      have HMX := Lib.hid hmx
      have HKID := Lib.hid hkid
      have HSP3 := Lib.hid (HSP2.out w1 HF.out)
      clear hkid hnd hmx
      cases hsp2 : Tr.spot g tt with
      | err c0 =>
        rw [hsp2] at HSP3
        have HA := Lib.hid (Tr.moveErr_3 HSPE.out HKID.out hsp2)
        clear hsp2
        go_wp2_with (first
          | (at_lookup; refine wpList_slook rfl _ _ rfl HMAP.out Tryz.underlying9 Tryz.underlying54 (zero_nodeP _) rfl x rfl HX.out (.pointer (some ⟨n, 0, none⟩)) (by rw [HMX.out]; rfl) ?_)
          | (go_at_call 42; (with_reducible refine useC HSP3.out ?_); rintro e w2 ⟨hf, o, t, h0, rfl⟩; have HF2 := Lib.hid hf; have HN := Lib.hid h0; have hev := errV_no h0; clear hf h0; rw [hev]; clear hev))
        go_ret
        exact MoveA.err HA.out HN.out (HF.out.trans HF2.out)
      | at_ d' x' =>
        rw [hsp2] at HSP3
        have HSPE2 := Lib.hid hsp2
        have HA4 := Lib.hid (Tr.moveErr_4 HSPE.out HKID.out hsp2)
        obtain ⟨P', hpt', hfd', hds'⟩ := Tr.spot_at hsp2
        have hdd' := HS.out.found P' g.root d' HS.out.rootD hfd'
        obtain ⟨m', hm'⟩ := Option.isSome_iff_exists.1 hds'
        have hx4' := (Pa.parts_names hpt' x' (by simp)).2.1
        have HX' : Hid (x'.length ≤ maxLen) := by show _ ≤ _; unfold maxLen; omega
        have HM' := Lib.hid hm'
        have HDD' := Lib.hid hdd'
        have HFD' := Lib.hid (And.intro hpt' hfd')
        have hlen : (Pa.parts tt).1.length = P'.length + 1 := by rw [hpt']; simp
        have HLEN := Lib.hid hlen
        have h8 := (Pa.parts_ok hpt').2.2.2
        rw [List.length_append, List.length_singleton] at h8
        have HNM := Lib.hid (Pa.parts_names hpt' x' (by simp))
        clear hsp2 hpt' hfd' hds' hx4'
        go_upto_region 10 with (first
          | (at_lookup; refine wpList_slook rfl _ _ rfl HMAP.out Tryz.underlying9 Tryz.underlying54 (zero_nodeP _) rfl x rfl HX.out (.pointer (some ⟨n, 0, none⟩)) (by rw [HMX.out]; rfl) ?_)
          | (go_at_call 42; (with_reducible refine useC HSP3.out ?_); rintro e w2 ⟨hf, rfl⟩; have HF2 := Lib.hid hf; clear hf))
        have HS2 := Lib.hid (HS1.out.step HF2.out)
        obtain ⟨h0, hmap⟩ := (HS2.out.node d' hdd').dir hm'
        have n1 : w2.cell? ⟨d', 0, none⟩ = some (.map (some (g.mb d'))) := by rw [cell_of_row _ _ _ _ _ _ h0]; rfl
        have HMAP' := Lib.hid hmap
        have HKD' : Hid (Tr.kid g d' x' = m' x') := Tr.kid_of hm' x'
        clear h0 hmap hdd' hm' n0 HLEN
        cases hmx' : m' x' with
        | some c1 =>
          have HA := Lib.hid (HA4.out.trans (if_pos (by rw [HKD'.out, hmx']; rfl)))
          go_wp2_with (at_lookup; refine wpList_slook rfl _ _ rfl HMAP'.out Tryz.underlying9 Tryz.underlying54 (zero_nodeP _) rfl x' rfl HX'.out (.pointer (some ⟨c1, 0, none⟩)) (by rw [hmx']; rfl) ?_)
          go_ret
          exact MoveA.err HA.out (by decide) (HF.out.trans HF2.out)
        | none =>
          have HMX' := Lib.hid hmx'
          have HA5 := Lib.hid (HA4.out.trans (if_neg (by rw [HKD'.out, hmx']; simp)))
          clear hmx'
          go_upto_region 12 with (at_lookup; refine wpList_slook rfl _ _ rfl HMAP'.out Tryz.underlying9 Tryz.underlying54 (zero_nodeP _) rfl x' rfl HX'.out (.pointer none) (by rw [HMX'.out]; rfl) ?_)
          have hpe := nodePtr_eq HS2.out HDD'.out HND.out
          have hnode := HS2.out.node n HND.out
          have HB8 : Hid (∀ r c, Tr.fnd g n r = .ok c → r.length ≤ 8) := fun r c hr => by
            have := HS2.out.ok.short (P ++ x :: r) c (by rw [Tr.fnd_app_ok HFD.out.2, Tr.fnd_step HKID.out]; exact hr)
            rw [List.length_append, List.length_cons] at this
            omega
          have HWI := Lib.hid (fun b hb => tr_within tb g dom K d' HDD'.out 8 w2 n b HS2.out HND.out HB8.out (by decide) hb)
          have HLEN2 : Hid ((Pa.parts tt).1.length = P'.length + 1 ∧ P'.length + 1 ≤ 8) := ⟨hlen, h8⟩
          clear hlen h8
          by_cases h7 : (g.ent n).isSome = true ∧ (d' = n ∨ Tr.Und g n d')
          · have HA := Lib.hid (HA5.out.trans (if_pos h7))
            obtain ⟨hdir, h7⟩ := h7
            obtain ⟨mn, hmn⟩ := Option.isSome_iff_exists.1 hdir
            obtain ⟨hb, -⟩ := hnode.dir hmn
            have nn : w2.cell? ⟨n, 0, none⟩ = some (.map (some (g.mb n))) := by rw [cell_of_row _ _ _ _ _ _ hb]; rfl
            have q0 := mapNilN w2 (some (g.mb n))
            clear hnode hb hmn hdir
            by_cases hdn : d' = n
            · rw [decide_eq_true hdn] at hpe
              clear hdn h7
              go_wp2
              go_ret
              exact MoveA.err HA.out (by decide) (HF.out.trans HF2.out)
            · rw [decide_eq_false hdn] at hpe
              have HWT := Lib.hid (HWI.out true ⟨fun _ => h7.resolve_left hdn, fun _ => rfl⟩)
              clear hdn h7 HWI
              go_wp2_with (go_at_call 43; (with_reducible refine useC HWT.out ?_); rintro e w3 ⟨rfl, hf⟩; have HF3 := Lib.hid hf; clear hf)
              go_ret
              exact MoveA.err HA.out (by decide) ((HF.out.trans HF2.out).trans HF3.out)
          · have HA6 := Lib.hid (HA5.out.trans (if_neg h7))
            have HOFF := Lib.hid (Tr.off_of (by rw [HM'.out]; rfl) h7)
            cases he : g.ent n with
            | some mn =>
              obtain ⟨hb, -⟩ := hnode.dir he
              have nn : w2.cell? ⟨n, 0, none⟩ = some (.map (some (g.mb n))) := by rw [cell_of_row _ _ _ _ _ _ hb]; rfl
              have q0 := mapNilN w2 (some (g.mb n))
              have hdir : (g.ent n).isSome = true := by rw [he]; rfl
              have hdn : d' ≠ n := fun e => h7 ⟨hdir, .inl e⟩
              rw [decide_eq_false hdn] at hpe
              have HWF := Lib.hid (HWI.out false ⟨fun h => (by cases h), fun h => absurd ⟨hdir, .inr h⟩ h7⟩)
              clear hnode hb he hdir hdn h7 HWI
              go_upto_region 14 with (go_at_call 43; (with_reducible refine useC HWF.out ?_); rintro e w3 ⟨rfl, hf⟩; have HF3 := Lib.hid hf; clear hf)
              have HS3 := Lib.hid (HS2.out.step HF3.out)
              obtain ⟨dp, hdp8, hdp⟩ := Tr.deep_is (g := g) (n := n) 8 HB8.out
              have HDP := Lib.hid hdp
              have HDEEP := Lib.hid (tr_deep tb g dom K dp w3 n HS3.out HND.out hdp hdp8)
              have HDW := Lib.hid (fun W => HDE.out W)
              have HPL := Lib.hid HLEN2.out
              have hw : IntKind.i64.wrap ((dp : Int) + ((Pa.parts tt).1.length : Int)) = (dp : Int) + ((Pa.parts tt).1.length : Int) := by rw [IntKind.wrap_i64]; have := HLEN2.out; omega
              clear hdp
              by_cases h4 : 8 < dp + (Pa.parts tt).1.length
              · have h4I : (8 : Int) < (dp : Int) + ((Pa.parts tt).1.length : Int) := by omega
                have HA := Lib.hid (HA6.out.trans (if_pos (by obtain ⟨r, c, h1, h2⟩ := HDP.out.2; exact ⟨r, c, h1, by omega⟩)))
                clear h4 hdp8
                go_wp2_with (first
                  | (go_at_call 44; (with_reducible refine useC HDEEP.out ?_); rintro e w4 ⟨rfl, hf⟩; have HF4 := Lib.hid hf; clear hf)
                  | (go_at_call 45; (with_reducible refine useC (HDW.out _) ?_); rintro e w5 ⟨rfl, hf⟩; have HF5 := Lib.hid hf; clear hf))
                go_ret
                exact MoveA.err HA.out (by decide) ((((HF.out.trans HF2.out).trans HF3.out).trans HF4.out).trans HF5.out)
              · have h4I : ¬ ((8 : Int) < (dp : Int) + ((Pa.parts tt).1.length : Int)) := by omega
                have HA := Lib.hid (HA6.out.trans (if_neg (by rintro ⟨r, c, h1, h2⟩; have := HDP.out.1 r c h1; omega)))
                have HDEPTH : Hid (∀ r c, Tr.fnd g n r = .ok c → P'.length + 1 + r.length ≤ 8) := fun r c hr => by
                  have := HDP.out.1 r c hr
                  have := HPL.out
                  omega
                clear h4 hdp8
                go_upto_region 16 with (first
                  | (go_at_call 44; (with_reducible refine useC HDEEP.out ?_); rintro e w4 ⟨rfl, hf⟩; have HF4 := Lib.hid hf; clear hf)
                  | (go_at_call 45; (with_reducible refine useC (HDW.out _) ?_); rintro e w5 ⟨rfl, hf⟩; have HF5 := Lib.hid hf; clear hf))
                have HS5 := Lib.hid ((HS3.out.step HF4.out).step HF5.out)
                obtain ⟨h0, hmap⟩ := (HS5.out.node d HDD.out).dir HM.out
                have k0 : w5.cell? ⟨d, 0, none⟩ = some (.map (some (g.mb d))) := by rw [cell_of_row _ _ _ _ _ _ h0]; rfl
                have HMAP5 := Lib.hid hmap
                clear h0 hmap h4I hw
                go_upto_region 17 with (refine wpList_sdelete rfl _ _ rfl HMAP5.out Tryz.underlying9 Tryz.underlying54 rfl x rfl HX.out ?_; intro w6 hm2 hf2; have HM6 := Lib.hid hm2; have HF6 := Lib.hid hf2; clear hm2 hf2)
                have HMV : Hid (Tr.Mv g P d x n P' d' x') := ⟨HFD.out.2, by rw [HM.out]; rfl, HKID.out, HFD'.out.2, by rw [HM'.out]; rfl, by rw [HKD'.out, HMX'.out], HOFF.out⟩
                have HS6 : Hid (TrS w6 tb (Tr.setE g d x none) dom (K + 1)) := HS5.out.setMap (o := none) HDD.out HM.out (fun c h => by cases h) HF6.out (HM6.out.mono (Nat.le_succ _)) (HS5.out.ok.drop HFD.out.2 (by rw [HM.out]; rfl))
                obtain ⟨m2, hm2⟩ : ∃ m2, (Tr.setE g d x none).ent d' = some m2 := Option.isSome_iff_exists.1 (by rw [Tr.setE_some, HM'.out]; rfl)
                have HM2E := Lib.hid hm2
                obtain ⟨h0, hmap⟩ := (HS6.out.node d' HDD'.out).dir hm2
                have k1 : w6.cell? ⟨d', 0, none⟩ = some (.map (some (g.mb d'))) := by rw [cell_of_row _ _ _ _ _ _ h0]; rfl
                have HMAP6 : Hid (SMap Tryz.prog 9 w6 (g.mb d') (K + 1) m2) := hmap
                have hK1 : K + 1 < maxLen := by unfold maxLen; omega
                have HK1 := Lib.hid hK1
                clear h0 hmap hm2 k0 hK1
                go_upto_region 18 with (refine wpList_supdate rfl _ _ _ rfl HMAP6.out Tryz.underlying9 Tryz.underlying54 HK1.out rfl x' rfl n rfl HX'.out ?_; intro w7 hm3 hf3; have HM7 := Lib.hid hm3; have HF7 := Lib.hid hf3; clear hm3 hf3)
                have HS7 : Hid (TrS w7 tb (Tr.movE g d x d' x' n) dom (K + 2)) := HS6.out.setMap (o := some n) HDD'.out HM2E.out (fun c h => by cases h; exact HND.out) HF7.out HM7.out (HMV.out.ok HS5.out.ok HNM.out HDEPTH.out)
                have HFR : Hid (FrP (TrP tb g dom) w w7) := by
                  have f1 : FrP (TrP tb g dom) w w5 := (FrP.refl _ _).step ((((HF.out.trans HF2.out).trans HF3.out).trans HF4.out).trans HF5.out) (by simp)
                  have f2 := f1.step HF6.out (fun y hy => .inl (by simp only [List.mem_singleton] at hy; subst hy; exact .inr (.inr ⟨d, HDD.out, by rw [HM.out]; rfl, rfl⟩)))
                  exact f2.step HF7.out (fun y hy => .inl (by simp only [List.mem_singleton] at hy; subst hy; exact .inr (.inr ⟨d', HDD'.out, by rw [HM'.out]; rfl, rfl⟩)))
                clear k1
                go_wp2
                go_ret
                exact ⟨by rw [HA.out]; rfl, HFR.out, .inl ⟨HA.out, P, d, x, n, P', d', x', HFD.out.1, HFD'.out.1, HMV.out, HDEPTH.out, HS7.out⟩⟩
            | none =>
              have hb := hnode.file he
              have nn : w2.cell? ⟨n, 0, none⟩ = some (.map none) := by rw [cell_of_row _ _ _ _ _ _ hb]; rfl
              have q0 := mapNilN w2 none
              have HF3 : Hid (Fr [] w2 w2) := Fr.refl _ _
              clear hnode hb he h7 HWI hpe
              go_upto_region 14 with fail
              clear nn q0
              have HS3 := Lib.hid (HS2.out.step HF3.out)
              obtain ⟨dp, hdp8, hdp⟩ := Tr.deep_is (g := g) (n := n) 8 HB8.out
              have HDP := Lib.hid hdp
              have HDEEP := Lib.hid (tr_deep tb g dom K dp w2 n HS3.out HND.out hdp hdp8)
              have HDW := Lib.hid (fun W => HDE.out W)
              have HPL := Lib.hid HLEN2.out
              have hw : IntKind.i64.wrap ((dp : Int) + ((Pa.parts tt).1.length : Int)) = (dp : Int) + ((Pa.parts tt).1.length : Int) := by rw [IntKind.wrap_i64]; have := HLEN2.out; omega
              clear hdp
              by_cases h4 : 8 < dp + (Pa.parts tt).1.length
              · have h4I : (8 : Int) < (dp : Int) + ((Pa.parts tt).1.length : Int) := by omega
                have HA := Lib.hid (HA6.out.trans (if_pos (by obtain ⟨r, c, h1, h2⟩ := HDP.out.2; exact ⟨r, c, h1, by omega⟩)))
                clear h4 hdp8
                go_wp2_with (first
                  | (go_at_call 44; (with_reducible refine useC HDEEP.out ?_); rintro e w4 ⟨rfl, hf⟩; have HF4 := Lib.hid hf; clear hf)
                  | (go_at_call 45; (with_reducible refine useC (HDW.out _) ?_); rintro e w5 ⟨rfl, hf⟩; have HF5 := Lib.hid hf; clear hf))
                go_ret
                exact MoveA.err HA.out (by decide) ((((HF.out.trans HF2.out).trans HF3.out).trans HF4.out).trans HF5.out)
              · have h4I : ¬ ((8 : Int) < (dp : Int) + ((Pa.parts tt).1.length : Int)) := by omega
                have HA := Lib.hid (HA6.out.trans (if_neg (by rintro ⟨r, c, h1, h2⟩; have := HDP.out.1 r c h1; omega)))
                have HDEPTH : Hid (∀ r c, Tr.fnd g n r = .ok c → P'.length + 1 + r.length ≤ 8) := fun r c hr => by
                  have := HDP.out.1 r c hr
                  have := HPL.out
                  omega
                clear h4 hdp8
                go_upto_region 16 with (first
                  | (go_at_call 44; (with_reducible refine useC HDEEP.out ?_); rintro e w4 ⟨rfl, hf⟩; have HF4 := Lib.hid hf; clear hf)
                  | (go_at_call 45; (with_reducible refine useC (HDW.out _) ?_); rintro e w5 ⟨rfl, hf⟩; have HF5 := Lib.hid hf; clear hf))
                have HS5 := Lib.hid ((HS3.out.step HF4.out).step HF5.out)
                obtain ⟨h0, hmap⟩ := (HS5.out.node d HDD.out).dir HM.out
                have k0 : w5.cell? ⟨d, 0, none⟩ = some (.map (some (g.mb d))) := by rw [cell_of_row _ _ _ _ _ _ h0]; rfl
                have HMAP5 := Lib.hid hmap
                clear h0 hmap h4I hw
                go_upto_region 17 with (refine wpList_sdelete rfl _ _ rfl HMAP5.out Tryz.underlying9 Tryz.underlying54 rfl x rfl HX.out ?_; intro w6 hm2 hf2; have HM6 := Lib.hid hm2; have HF6 := Lib.hid hf2; clear hm2 hf2)
                have HMV : Hid (Tr.Mv g P d x n P' d' x') := ⟨HFD.out.2, by rw [HM.out]; rfl, HKID.out, HFD'.out.2, by rw [HM'.out]; rfl, by rw [HKD'.out, HMX'.out], HOFF.out⟩
                have HS6 : Hid (TrS w6 tb (Tr.setE g d x none) dom (K + 1)) := HS5.out.setMap (o := none) HDD.out HM.out (fun c h => by cases h) HF6.out (HM6.out.mono (Nat.le_succ _)) (HS5.out.ok.drop HFD.out.2 (by rw [HM.out]; rfl))
                obtain ⟨m2, hm2⟩ : ∃ m2, (Tr.setE g d x none).ent d' = some m2 := Option.isSome_iff_exists.1 (by rw [Tr.setE_some, HM'.out]; rfl)
                have HM2E := Lib.hid hm2
                obtain ⟨h0, hmap⟩ := (HS6.out.node d' HDD'.out).dir hm2
                have k1 : w6.cell? ⟨d', 0, none⟩ = some (.map (some (g.mb d'))) := by rw [cell_of_row _ _ _ _ _ _ h0]; rfl
                have HMAP6 : Hid (SMap Tryz.prog 9 w6 (g.mb d') (K + 1) m2) := hmap
                have hK1 : K + 1 < maxLen := by unfold maxLen; omega
                have HK1 := Lib.hid hK1
                clear h0 hmap hm2 k0 hK1
                go_upto_region 18 with (refine wpList_supdate rfl _ _ _ rfl HMAP6.out Tryz.underlying9 Tryz.underlying54 HK1.out rfl x' rfl n rfl HX'.out ?_; intro w7 hm3 hf3; have HM7 := Lib.hid hm3; have HF7 := Lib.hid hf3; clear hm3 hf3)
                have HS7 : Hid (TrS w7 tb (Tr.movE g d x d' x' n) dom (K + 2)) := HS6.out.setMap (o := some n) HDD'.out HM2E.out (fun c h => by cases h; exact HND.out) HF7.out HM7.out (HMV.out.ok HS5.out.ok HNM.out HDEPTH.out)
                have HFR : Hid (FrP (TrP tb g dom) w w7) := by
                  have f1 : FrP (TrP tb g dom) w w5 := (FrP.refl _ _).step ((((HF.out.trans HF2.out).trans HF3.out).trans HF4.out).trans HF5.out) (by simp)
                  have f2 := f1.step HF6.out (fun y hy => .inl (by simp only [List.mem_singleton] at hy; subst hy; exact .inr (.inr ⟨d, HDD.out, by rw [HM.out]; rfl, rfl⟩)))
                  exact f2.step HF7.out (fun y hy => .inl (by simp only [List.mem_singleton] at hy; subst hy; exact .inr (.inr ⟨d', HDD'.out, by rw [HM'.out]; rfl, rfl⟩)))
                clear k1
                go_wp2
                go_ret
                exact ⟨by rw [HA.out]; rfl, HFR.out, .inl ⟨HA.out, P, d, x, n, P', d', x', HFD.out.1, HFD'.out.1, HMV.out, HDEPTH.out, HS7.out⟩⟩
end Go.Proofs.YtnglhfeialomgaaGreatDoor
