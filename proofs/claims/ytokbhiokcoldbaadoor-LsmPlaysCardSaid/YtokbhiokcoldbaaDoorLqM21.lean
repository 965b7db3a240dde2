/- Keys of package lsm. -/

import Derived.Test.YtokbhiokcoldbaaDoorLqM02
import Derived.Test.YtokbhiokcoldbaaDoorLqM19
import Derived.Test.YtokbhiokcoldbaaDoorLqM20
namespace Go.Proofs.YtokbhiokcoldbaaDoor
open Go.RowKit

namespace Ls
theorem scan_seen (l : List E) : ∀ k, k ∈ (scan l).1 ↔ k ∈ l.map (·.1) := by
  refine snoc_ind (p := fun l => ∀ k, k ∈ (scan l).1 ↔ k ∈ l.map (·.1)) (fun k => by simp [scan]) (fun l e h k => ?_) l
  rw [scan_snoc, seenStep, List.map_append, List.mem_append]
  split
  · rename_i hm
    rw [h k]
    constructor
    · exact .inl
    · rintro (h1 | h1)
      · exact h1
      · simp only [List.map_cons, List.map_nil, List.mem_singleton] at h1
        rw [h1]
        exact (h e.1).1 hm
  · rw [List.mem_cons, h k]
    simp only [List.map_cons, List.map_nil, List.mem_singleton]
    exact ⟨fun h => h.symm, fun h => h.symm⟩
/-- One round: the numbers that were met, and those that count. -/
theorem scan_step (l : List E) (k : Nat) (hk : k < l.length) : (scan (l.take (k + 1))).2 = if hasB ((l.take k).map (·.1)) l[k].1 = true ∨ l[k].2 < 0 then (scan (l.take k)).2 else (scan (l.take k)).2 ++ [l[k].1] := by
  rw [List.take_succ_eq_append_getElem hk, scan_snoc, seenStep]
  have h := scan_seen (l.take k) l[k].1
  have hb : hasB ((l.take k).map (·.1)) l[k].1 = true ↔ l[k].1 ∈ (scan (l.take k)).1 := by
    rw [h]
    unfold hasB
    simp
  by_cases hm : l[k].1 ∈ (scan (l.take k)).1
  · rw [if_pos hm, if_pos (.inl (hb.2 hm))]
  · rw [if_neg hm]
    by_cases hv : l[k].2 < 0
    · rw [if_pos hv, if_pos (.inr hv)]
    · rw [if_neg hv, if_neg (fun h => h.elim (fun h => hm (hb.1 h)) hv)]
end Ls
/-- What the first rounds know: the entries of the runs gathered. -/
structure LsK1 (w wr : World) (u : Value) (l : List (Int × Int)) : Prop where
  own : OwnR entE wr w.heap.size 117 u l
  fr : Fr [] w wr
/-- What the second rounds know. -/
structure LsK2 (wC wr : World) (mb : Nat) (u : Value) (L : List (Int × Int)) (k : Nat) : Prop where
  own : Own wr wC.heap.size 3 u ((Ls.scan (L.take k)).2)
  set : St wr mb k ((L.take k).map (·.1))
  fr : Fr [mb] wC wr
set_option maxRecDepth 100000 in
set_option maxHeartbeats 4000000 in
theorem ls_Keys (w : World) (P : Nat → Prop) (b : Nat) (m : Ls.M) (h : LsF P w b m) (hO : Ls.OK m) :
    Calls Tryd.prog 37 #[.pointer (some ⟨b, 0, none⟩)] w (NewRow (Ls.keys m) w) := by
  obtain ⟨vm, vr, vs, hS⟩ := h
  obtain ⟨A, c, rfl⟩ := hS.mem.form
  obtain ⟨A2, c2, hvr⟩ := hS.runs.form
  have hvl := hS.len
  have hOl := hO.len
  have hOm := hO.many
  have hOt := hO.tot
  have HCE : Hid (∀ W, Fr [] w W → W.cell? ⟨b, 0, none⟩ = some (.slice A m.mem.length c) ∧ W.cell? ⟨b, 1, none⟩ = some (.slice A2 vs.length c2)) := fun W hW => by
    have hc := (hS.keep hW).cells
    exact ⟨hc.1, by rw [hc.2.1, hvr]⟩
  have HRUN : Hid (∀ W, Fr [] w W → ∀ k, k < vs.length → ∃ g A' c', (A2 = some ⟨g, 0, none⟩ ∧ W.cell? ⟨g, k, none⟩ = some (.slice A' (m.runs.getD k []).length c')) ∧ ∃ gs, SlR entE W (.slice A' (m.runs.getD k []).length c') gs (m.runs.getD k [])) := fun W hW k hk => by
    obtain ⟨g, c, A', c', e, h1, h2⟩ := (hS.keep hW).runAt hk
    rw [hvr] at e
    injection e with e1 _ _
    obtain ⟨gs, _, hs⟩ := h2.sl
    exact ⟨g, A', c', ⟨e1, h1⟩, gs, hs⟩
  have HFL : Hid (∀ k, k < vs.length → (m.runs.take (k + 1)).flatten = (m.runs.take k).flatten ++ m.runs.getD k []) := fun k hk => by
    have e : m.runs.getD k [] = m.runs[k]'(by omega) := by simp only [List.getD, List.getElem?_eq_getElem (show k < m.runs.length by omega), Option.getD_some]
    rw [List.take_add_one, List.getElem?_eq_getElem (by omega), e, List.flatten_append]
    simp only [Option.toList_some, List.flatten_cons, List.flatten_nil, List.append_nil]
  have HFT : Hid ((m.runs.take vs.length).flatten = m.runs.flatten) := by show _ = _; rw [hvl, List.take_length]
  have HLB : Hid (∀ k, k < vs.length → (m.runs.take k).flatten.length + (m.runs.getD k []).length ≤ 60) := fun k hk => by
    have h1 : (m.runs.take (k + 1)).flatten.length ≤ m.runs.flatten.length := by
      have e : m.runs.flatten = (m.runs.take (k + 1)).flatten ++ (m.runs.drop (k + 1)).flatten := by rw [← List.flatten_append, List.take_append_drop]
      rw [e, List.length_append]
      omega
    rw [HFL.out k hk, List.length_append] at h1
    omega
  have HMEM : Hid (∀ W, Fr [] w W → ∃ gm, SlR entE W (.slice A m.mem.length c) gm m.mem) := fun W hW => by
    obtain ⟨g, _, hs⟩ := (hS.keep hW).mem.sl
    exact ⟨g, hs⟩
  have HES : Hid (∀ i (hi : i < (m.mem ++ m.runs.flatten).length), I64 (m.mem ++ m.runs.flatten)[i].1) := fun i hi => by
    have hm := List.getElem_mem hi
    have : Ls.okE (m.mem ++ m.runs.flatten)[i] := by
      rcases List.mem_append.1 hm with h1 | h1
      · exact hO.es _ (by simp) _ h1
      · obtain ⟨l, hl, h2⟩ := List.mem_flatten.1 h1
        exact hO.es l (by simp [hl]) _ h2
    obtain ⟨h1, h2, _, _⟩ := this
    unfold I64
    omega
  have HI0 : Hid (LsK1 w w (.slice none 0 0) (m.runs.take 0).flatten) := ⟨OwnR.nil, Fr.refl _ _⟩
  obtain ⟨-, q1⟩ := HCE.out w (Fr.refl _ _)
  have hv60 : vs.length ≤ 60 := by omega
  have hLL : (m.mem ++ m.runs.flatten).length ≤ 60 := by rw [List.length_append]; omega
  have HKD : Hid (Ls.keys m = Ls.srt ((Ls.scan (m.mem ++ m.runs.flatten)).2)) := rfl
  have hm60 : m.mem.length ≤ 60 := by omega
  have hf60 : m.runs.flatten.length ≤ 60 := by omega
  clear hS hO hvr hvl hOl hOm hOt
  generalize m.runs.flatten = FLT at *
  go_enter Tryd.func37, Tryd.ntmps37
  go_wp2_with fail
  go_loopw [3, 15] (fun u i wr => ∃ k : Nat, k ≤ vs.length ∧ i = .int .i64 k ∧ Hid (LsK1 w wr u (m.runs.take k).flatten)) (fun _ i _ => vs.length - (intOf i).toNat)
  case atStart => exact ⟨0, Nat.zero_le _, rfl, HI0⟩
  case round =>
    clear HI0 q1
    obtain ⟨k, hk, rfl, hI⟩ := hrel
    by_cases hlt : k < vs.length
    · have kI : (k : Int) < vs.length := by omega
      have k0 : (0 : Int) ≤ k := by omega
      obtain ⟨g, A', c', ⟨rfl, q⟩, gs, hgs⟩ := HRUN.out wr hI.out.fr k hlt
      have HGS := Lib.hid hgs
      have HN2 := Lib.hid (HFL.out k hlt)
      have hb := HLB.out k hlt
      generalize m.runs.getD k [] = R at *
      generalize (m.runs.take k).flatten = F at *
      have hsz := hI.out.fr.size
      clear hgs
      go_wp2_with (at_builtin; refine wpList_spread_enc (E := entE) Tryd.und_insE Tryd.info_insE rfl (by decide) rfl _ _ rfl w.heap.size _ _ F R gs rfl hI.out.own rfl HGS.out (by omega) hsz ?_; intro v' w2 h1 _ h3; have HI2 : Hid (LsK1 w w2 v' (F ++ R)) := ⟨h1, hI.out.fr.below_step h3 (Nat.le_refl _)⟩; clear h1 h3)
      go_roundw
      case rel => exact ⟨k + 1, by omega, by go_num, by show LsK1 _ _ _ _; rw [HN2.out]; exact HI2.out⟩
      case measure => (simp [intOf]; try omega)
    · obtain rfl : k = vs.length := by omega
      have kI : ¬ (vs.length : Int) < vs.length := by omega
      have HI := Lib.hid hI.out
      rw [HFT.out] at HI
      obtain ⟨wA, hwA⟩ : ∃ x, x = wr := ⟨_, rfl⟩
      subst hwA
      obtain ⟨AA, cA, rfl⟩ := HI.out.own.form
      obtain ⟨wB, hwB⟩ : ∃ wB, wA.alloc (.map #[] 0) = wB := ⟨_, rfl⟩
      have hfB : Fr [] wA wB := by rw [← hwB]; exact (Fr.refl _ _).alloc _
      have hsB : St wB wA.heap.size 0 [] := by rw [← hwB]; exact SetI.made wA _ _ _
      have HSZ := Lib.hid HI.out.fr.size
      have hszB : wB.heap.size = wA.heap.size + 1 := by rw [← hwB]; simp
      have hF2 := HI.out.fr.trans hfB
      obtain ⟨q0, -⟩ := HCE.out wB hF2
      obtain ⟨gm, hgm⟩ := HMEM.out wB hF2
      have HCL := Lib.hid (ls_clone wB _ gm m.mem hgm (by omega))
      have HOA := Lib.hid (HI.out.own.kept hfB (by simp))
      have HSB := Lib.hid hsB
      have HFB := Lib.hid hF2
      have HWB := Lib.hid hwB
      have hmm := @run_makeMap Tryd.prog
      clear hI hlt hk hwB hfB hsB hF2 hgm HI HRUN HFL HFT HLB HMEM HCE
      go_wp2_with (first
        | rw [HWB.out]
        | (go_at_call 70; (with_reducible refine useC HCL.out ?_); rintro e w2 ⟨v2, rfl, ho2, hf2⟩; have HO2 := Lib.hid ho2; have HFC := Lib.hid hf2; obtain ⟨ga, -, hsa⟩ := (HOA.out.kept hf2 (by simp)).sl; have HSA := Lib.hid hsa; have hz2 := hf2.size; clear ho2 hf2 hsa)
        | (have ho' := HO2; at_builtin; refine wpList_spread_enc (E := entE) Tryd.und_insE Tryd.info_insE rfl (by decide) rfl _ _ rfl wB.heap.size _ _ m.mem FLT ga rfl HO2.out rfl HSA.out (by omega) hz2 ?_; intro v3 wC h1 _ h3; have HO3 := Lib.hid h1; have HF3 := Lib.hid (HFC.out.below_step h3 (Nat.le_refl _)); obtain ⟨A4, c4, hv4⟩ := h1.form; obtain ⟨LL, hLLe⟩ : ∃ LL, (m.mem ++ FLT).length = LL := ⟨_, rfl⟩; rw [hLLe] at hv4; subst hv4; clear h1 h3))
      generalize m.mem ++ FLT = L at *
      subst hLLe
      obtain ⟨gL, hrw, hgo, -, -, -⟩ := RwL.of (HO3.out.base (C := 0) (fun _ _ => Nat.zero_le _))
      have HNE : Hid (0 < L.length → gL ≠ wA.heap.size) := fun h0 e => by
        obtain ⟨rfl, _⟩ := hrw.use h0
        have := (HO3.out.ge gL (by rw [hgo]; rfl)).1
        omega
      have HRW := Lib.hid hrw
      have hmC : wA.heap.size < wC.heap.size := by have := HF3.out.size; omega
      have hmw : w.heap.size ≤ wA.heap.size := by have h1 := HFB.out.size; have h2 := HWB.out; exact HSZ.out
      have HFWC := Lib.hid (HFB.out.trans HF3.out)
      have HK0 : Hid (LsK2 wC wC wA.heap.size (.slice none 0 0) L 0) := ⟨Own.nil _ _ _, HSB.out.fr HF3.out (by simp), Fr.refl _ _⟩
      clear hrw hgo HO3 HO2 HFC HSA HCL HOA ho' hz2 q0 hmm HF3 HSB HWB hszB
      generalize wA.heap.size = mb at *
      go_loopw [6, 32] (fun u i wr => ∃ k : Nat, k ≤ L.length ∧ i = .int .i64 k ∧ Hid (LsK2 wC wr mb u L k)) (fun _ i _ => L.length - (intOf i).toNat)
      case atStart => exact ⟨0, Nat.zero_le _, rfl, HK0⟩
      case round =>
        clear HK0
        obtain ⟨k, hk, rfl, hI⟩ := hrel
        by_cases hlt : k < L.length
        · have kI2 : (k : Int) < L.length := by omega
          have k0 : (0 : Int) ≤ k := by omega
          obtain ⟨rfl, hD0⟩ := HRW.out.use (by omega)
          have hD := hD0.fr hI.out.fr (by simpa using HNE.out (by omega))
          obtain ⟨cur, hg, hsz, hpart⟩ := hD.room hlt
          have HG := Lib.hid hg
          have HPT : Hid (((cur.toList.drop (k * 2)).take 2).toArray = #[.int .i64 L[k].1, .int .i64 L[k].2]) := hpart
          have hsz' : k * 2 + 2 ≤ cur.size := hsz
          have HSTEP := Lib.hid (Ls.scan_step L k hlt)
          have HX := Lib.hid (HES.out k hlt)
          have HTK : Hid ((L.take (k + 1)).map (·.1) = (L.take k).map (·.1) ++ [L[k].1]) := by
            show _ = _
            rw [List.take_succ_eq_append_getElem hlt, List.map_append]
            rfl
          have hszr := hI.out.fr.size
          have hmr : mb < wr.heap.size := by omega
          generalize L[k].1 = ek at *
          generalize L[k].2 = ex at *
          obtain ⟨S0, hS0⟩ : ∃ S0, (L.take k).map (·.1) = S0 := ⟨_, rfl⟩
          have HSET : Hid (St wr mb k S0) := by show St _ _ _ _; rw [← hS0]; exact hI.out.set
          rw [hS0] at HSTEP HTK
          have hOC : ((Ls.scan (L.take k)).2).length < 1000000 := by
            have := (Ls.scan_ok (L.take k)).len
            rw [List.length_take] at this
            omega
          have HOWN := Lib.hid hI.out.own
          have HFRI := Lib.hid hI.out.fr
          obtain ⟨A5, c5, hu⟩ := hI.out.own.form0
          have HNX : Hid (∀ W u', Own W wC.heap.size 3 u' ((Ls.scan (L.take (k + 1))).2) → St W mb (k + 1) (S0 ++ [ek]) → Fr [mb] wC W → LsK2 wC W mb u' L (k + 1)) := fun W u' k1 k2 k3 => ⟨k1, by rw [HTK.out]; exact k2, k3⟩
          generalize (Ls.scan (L.take k)).2 = OC at *
          generalize (Ls.scan (L.take (k + 1))).2 = ON at *
          subst hu
          clear hg hpart hsz hD hS0 hD0 hI HTK
          obtain ⟨bb, hbb⟩ : ∃ bb, hasB S0 ek = bb := ⟨_, rfl⟩
          cases bb with
          | true =>
            have HE := Lib.hid (HSTEP.out.trans (if_pos (.inl hbb)))
            clear HSTEP
            go_wp2_with (first
              | (refine wpList_load_part rfl 117 _ rfl gL (k * 2) 2 rfl _ cur _ _ HG.out Tryd.underlying117 rfl (by kernel_rfl) hsz' _ HPT.out ?_)
              | (refine wpList_store_fresh (w := wr) rfl 117 _ _ rfl rfl #[.int .i64 ek, .int .i64 ex] rfl rfl ent_info rfl (by simp [Value.oneCell']) ?_; intro w4 hw4 hf4 hs4; have HF4 := Lib.hid hf4; have HW4 := Lib.hid hw4; have c0 : w4.cell? ⟨wr.heap.size, 0, none⟩ = some (.int .i64 ek) := (by rw [cell_of_row _ _ _ _ _ _ hw4]; rfl); clear hw4 hf4 hs4)
              | (have HF4' := HF4; go_at_call 75; (with_reducible refine useC (set_Add _ mb k S0 ek (HSET.out.fr HF4.out (by simp)) HX.out (by omega)) ?_); rw [hbb]; rintro e5 w5 ⟨rfl, hs5, hf5⟩; have HS5 := Lib.hid hs5; have HF5 := Lib.hid hf5; clear hs5 hf5))
            go_roundw
            case rel => exact ⟨k + 1, by omega, by go_num, HNX.out _ _ (by rw [HE.out]; exact (HOWN.out.kept HF4.out (by simp)).kept HF5.out (fun g hg e => by simp only [List.mem_singleton] at hg; subst hg; have := (HOWN.out.ge _ e).1; omega)) HS5.out ((HFRI.out.trans HF4.out.nil).trans HF5.out)⟩
            case measure => (simp [intOf]; try omega)
          | false =>
            by_cases hex : ex < 0
            · have HE := Lib.hid (HSTEP.out.trans (if_pos (.inr hex)))
              have hexn : ¬ (0 ≤ ex) := by omega
              clear HSTEP
              go_wp2_with (first
                | (refine wpList_load_part rfl 117 _ rfl gL (k * 2) 2 rfl _ cur _ _ HG.out Tryd.underlying117 rfl (by kernel_rfl) hsz' _ HPT.out ?_)
                | (refine wpList_store_fresh (w := wr) rfl 117 _ _ rfl rfl #[.int .i64 ek, .int .i64 ex] rfl rfl ent_info rfl (by simp [Value.oneCell']) ?_; intro w4 hw4 hf4 hs4; have HF4 := Lib.hid hf4; have HW4 := Lib.hid hw4; have c0 : w4.cell? ⟨wr.heap.size, 0, none⟩ = some (.int .i64 ek) := (by rw [cell_of_row _ _ _ _ _ _ hw4]; rfl); clear hw4 hf4 hs4)
                | (have HF4' := HF4; go_at_call 75; (with_reducible refine useC (set_Add _ mb k S0 ek (HSET.out.fr HF4.out (by simp)) HX.out (by omega)) ?_); rw [hbb]; rintro e5 w5 ⟨rfl, hs5, hf5⟩; have HS5 := Lib.hid hs5; have HF5 := Lib.hid hf5; have hw5 := hf5.get HW4.out (by simp; omega); have c1 : w5.cell? ⟨wr.heap.size, 1, none⟩ = some (.int .i64 ex) := (by rw [cell_of_row _ _ _ _ _ _ hw5]; rfl); clear hs5 hf5 hw5))
              go_roundw
              case rel => exact ⟨k + 1, by omega, by go_num, HNX.out _ _ (by rw [HE.out]; exact (HOWN.out.kept HF4.out (by simp)).kept HF5.out (fun g hg e => by simp only [List.mem_singleton] at hg; subst hg; have := (HOWN.out.ge _ e).1; omega)) HS5.out ((HFRI.out.trans HF4.out.nil).trans HF5.out)⟩
              case measure => (simp [intOf]; try omega)
            · have HE := Lib.hid (HSTEP.out.trans (if_neg (fun h => h.elim (fun h => by rw [hbb] at h; cases h) hex)))
              have hexn : 0 ≤ ex := by omega
              clear HSTEP
              go_wp2_with (first
                | (refine wpList_load_part rfl 117 _ rfl gL (k * 2) 2 rfl _ cur _ _ HG.out Tryd.underlying117 rfl (by kernel_rfl) hsz' _ HPT.out ?_)
                | (refine wpList_store_fresh (w := wr) rfl 117 _ _ rfl rfl #[.int .i64 ek, .int .i64 ex] rfl rfl ent_info rfl (by simp [Value.oneCell']) ?_; intro w4 hw4 hf4 hs4; have HF4 := Lib.hid hf4; have HW4 := Lib.hid hw4; have c0 : w4.cell? ⟨wr.heap.size, 0, none⟩ = some (.int .i64 ek) := (by rw [cell_of_row _ _ _ _ _ _ hw4]; rfl); clear hw4 hf4 hs4)
                | (have HF4' := HF4; go_at_call 75; (with_reducible refine useC (set_Add _ mb k S0 ek (HSET.out.fr HF4.out (by simp)) HX.out (by omega)) ?_); rw [hbb]; rintro e5 w5 ⟨rfl, hs5, hf5⟩; have HS5 := Lib.hid hs5; have HF5 := Lib.hid hf5; have hw5 := hf5.get HW4.out (by simp; omega); have c0 : w5.cell? ⟨wr.heap.size, 0, none⟩ = some (.int .i64 ek) := (by rw [cell_of_row _ _ _ _ _ _ hw5]; rfl); have c1 : w5.cell? ⟨wr.heap.size, 1, none⟩ = some (.int .i64 ex) := (by rw [cell_of_row _ _ _ _ _ _ hw5]; rfl); have HOW5 := Lib.hid ((HOWN.out.kept HF4.out (by simp)).kept hf5 (fun g hg e => by simp only [List.mem_singleton] at hg; subst hg; have := (HOWN.out.ge _ e).1; omega)); have hz5 : wC.heap.size ≤ w5.heap.size := Nat.le_trans hszr (Nat.le_trans HF4.out.size hf5.size); have hm5 : mb < w5.heap.size := Nat.lt_of_lt_of_le hmC hz5; clear hs5 hf5 hw5)
                | (have HH5 := HOW5; at_builtin; refine wpList_push_int (wr := w5) Tryd.intT rfl _ _ rfl wC.heap.size _ _ rfl HOW5.out rfl hOC hz5 ?_; intro v' w6 h1 h2 h3; have HO6 := Lib.hid h1; have HF6 := Lib.hid (((HFRI.out.trans HF4.out.nil).trans HF5.out).below_step h3 (Nat.le_refl _)); have HS6 := Lib.hid (HS5.out.fr (fr_own h2) (fun hm => by have := (HOW5.out.ge _ (mem_own hm)).1; omega)); clear h1 h2 h3))
              go_roundw
              case rel => exact ⟨k + 1, by omega, by go_num, HNX.out _ _ (by rw [HE.out]; exact HO6.out) HS6.out HF6.out⟩
              case measure => (simp [intOf]; try omega)
        · obtain rfl : k = L.length := by omega
          have kI2 : ¬ (L.length : Int) < L.length := by omega
          have HOW := hI.out.own
          rw [List.take_length] at HOW
          have HOW := Lib.hid HOW
          have HFW := Lib.hid hI.out.fr
          have hsl := (Ls.scan_ok L).len
          obtain ⟨A6, c6, hu⟩ := HOW.out.form0
          have HSO := Lib.hid (sort_own wr wC.heap.size _ _ HOW.out (by omega))
          have HKD2 := Lib.hid HKD.out
          subst hu
          clear hI hlt hk HKD
          go_wp2_with (go_at_call 76; (with_reducible refine useC HSO.out ?_); rintro e7 w7 ⟨rfl, hg7, hf7⟩; have HG7 := Lib.hid hg7; have HF7 := Lib.hid hf7; clear hg7 hf7)
          go_ret
          obtain ⟨g7, hg7, hs7⟩ := HG7.out
          have hz := HFWC.out.size
          refine ⟨_, g7, rfl, ?_, by rw [HKD2.out]; exact hs7, ?_⟩
          · rcases hg7 with h7 | h7
            · exact .inl (by omega)
            · exact .inr (by rw [HKD2.out, h7]; simp [Ls.srt])
          · exact (HFWC.out.step HFW.out (fun x hx => .inr (by simp only [List.mem_singleton] at hx; omega))).step HF7.out (fun x hx => .inr (by have := (HOW.out.ge x (mem_own hx)).1; omega))
end Go.Proofs.YtokbhiokcoldbaaDoor
/- The contract of slices.Clone at lists of ints. -/
namespace Go.Proofs.YtokbhiokcoldbaaDoor
open Go.RowKit

theorem clone_any (w : World) (v : Value) (g : Nat) (xs : List Int) (h : Sl w v g xs) (hb : xs.length ≤ 1000000) :
    Calls Tryd.prog 65 #[v] w (NewRow xs w) := by
  obtain ⟨i0, hi, hz0, hz1, hz2⟩ := info_parts Tryd.info_int
  obtain ⟨A, o, c, rfl, _, hA, hc⟩ := h.form
  clear h
  cases A with
  | none =>
    have hx : xs = [] := by
      cases xs with
      | nil => rfl
      | cons x xs => cases hA (by simp)
    subst hx
    have hnil := fun W => Lib.run_eql_slice_nil (P := Tryd.prog) W 25 3 none 0 c 0 0 Tryd.underlying25
    clear hA hc
    go_enter Tryd.func65, Tryd.ntmps65
    go_wp2
    all_goals (go_ret; exact ⟨_, 0, rfl, .inr rfl, .inl ⟨rfl, none, 0, rfl⟩, Fr.refl _ _⟩)
  | some a =>
    have hnil := fun W => Lib.run_eql_slice_nil (P := Tryd.prog) W 25 3 (some a) xs.length c 0 0 Tryd.underlying25
    have hown := World.ownsRow_made (base := w.heap.size) (e := 3) (size := 1) w #[] 0 (Nat.le_refl _) (Nat.zero_le _) rfl
    have HA := Lib.hid hA
    have H3 := Lib.hid hc
    clear hA hc
    go_enter Tryd.func65, Tryd.ntmps65
    go_wp2_with (at_builtin; refine wpList_append_own _ rfl _ _ 25 rfl w.heap.size 3 i0 (.int .i64 0) 1 8 Tryd.underlying25 hi hz0 hz1 hz2 rfl (by decide) _ _ _ rfl hown a xs.length c (xs.map (Value.int .i64)) rfl (by simp) ?c1 ?c2 ?c3 ?c4 ?c5 ?_)
    case c1 =>
      intro j u hu
      have hj : j < xs.length := by simpa using (List.getElem?_eq_some_iff.1 hu).1
      obtain rfl : a = ⟨g, o, none⟩ := Option.some.inj (HA.out (by omega))
      rw [Addr.add_lit]
      have := H3.out j hj
      simp [hj] at hu
      rw [cell?_alloc_old _ this, ← hu]
      simp [nth, List.getD, hj]
    case c2 => exact ints_one (l := xs)
    case c3 => unfold maxLen; omega
    case c4 => omega
    case c5 => simp
    intro v' w1 hown1 hgr _
    obtain ⟨g', hg1, _, hsl⟩ := Sl.of_owns (xs := xs) (by simpa using hown1)
    have H4 := Lib.hid hsl
    have H5 := Lib.hid (((Fr.refl [] w).alloc (.cells #[] 3)).grown hgr (by simp [Value.ownBlock]))
    clear hown1 hgr hsl hown hnil
    go_wp2
    go_ret
    exact ⟨_, g', rfl, hg1, H4.out, H5.out⟩
end Go.Proofs.YtokbhiokcoldbaaDoor
