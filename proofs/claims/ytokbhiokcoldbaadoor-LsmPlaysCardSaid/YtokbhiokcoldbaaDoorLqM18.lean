/- Merge of package lsm. -/

import Derived.Test.YtokbhiokcoldbaaDoorLqM17
namespace Go.Proofs.YtokbhiokcoldbaaDoor
open Go.RowKit

/-- The row of runs is another one. -/
theorem LsS.newRuns {P : Nat → Prop} {w w1 w2 : World} {b : Nat} {vm vr vr' : Value} {vs vs' : List SlV} {m : Ls.M} {rs : List (List (Int × Int))} (h : LsS P w b vm vr vs m) (h1 : Fr [] w w1) (hf : Fr vr.ownBlock.toList w1 w2)
    (hr : OwnR slE w2 0 111 vr' vs') (hv : Moves w vr vr') (hl : vs'.length = rs.length) (he : ∀ i (hi : i < vs'.length), RunIn (OrNew P w) w2 vm vs'[i] (rs.getD i [])) :
    LsS (OrNew P w) (w2.setCell ⟨b, 1, none⟩ vr') b vm vr' vs' ⟨m.mem, rs, m.many⟩ ∧ FrP P w (w2.setCell ⟨b, 1, none⟩ vr') := by
  obtain ⟨n1, n2, n3⟩ := h.ne
  have hb2 := hf.get (h1.get h.file (by simp)) (by simpa using n2)
  have hm2 := (h.mem.kept h1 (by simp)).kept hf (fun x hx e => n3 x e (mem_own hx))
  have hf2 : Fr [b] w2 (w2.setCell ⟨b, 1, none⟩ vr') := (Fr.refl _ w2).setCell (.inl (by simp)) _
  have n2' := own_type_ne hr hb2 (by decide)
  refine ⟨⟨.inl h.gb, fun g hg => .inl (h.gm g hg), fun g hg => ?_, set_block hb2 _, hm2.kept hf2 (by simpa using n1), hr.kept hf2 (by simpa using n2'), hl, fun i hi => ?_⟩, ?_⟩
  · rcases hv with e | ⟨g', e1, e2⟩
    · exact .inl (h.gr g (by rw [← e]; exact hg))
    · rw [hg] at e1; injection e1 with e1; exact .inr (by omega)
  · have hi1 := he i hi
    refine ⟨hi1.row.kept hf2 (fun x hx => ?_), hi1.apart, hi1.inP⟩
    simp only [List.mem_singleton] at hx
    subst hx
    exact own_type_ne hi1.row hb2 (by decide)
  · exact (((FrP.refl P w).step h1 (by simp)).step hf (fun x hx => .inl (h.gr x (mem_own hx)))).step hf2 (fun x hx => by simp only [List.mem_singleton] at hx; subst hx; exact .inl h.gb)
/-- The two oldest runs give way to one. -/
theorem LsS.merged {P : Nat → Prop} {w w5 w6 : World} {b : Nat} {vm vr vr' : Value} {vs : List SlV} {m : Ls.M} {N g g3 c2 c3 : Nat} {A3 : Option Addr} {l : List (Int × Int)} (h : LsS P w b vm vr vs m) (hN : vs.length = N + 2) (h5 : Fr [] w w5)
    (hg : vr.ownBlock = some g) (hr : OwnR slE w6 0 111 vr' (vs.take N ++ [⟨A3, l.length, c3⟩])) (hgr : w5.grownBy w6 (Value.slice (some ⟨g, 0, none⟩) N c2).ownBlock) (hv : Moved (w5.heap.size + 1) (.slice (some ⟨g, 0, none⟩) N c2) vr')
    (hl : RwL w5 A3 g3 c3 l) (hc : c3 ≤ maxLen) (hg3 : w.heap.size ≤ g3) :
    LsS (OrNew P w) (w6.setCell ⟨b, 1, none⟩ vr') b vm vr' (vs.take N ++ [⟨A3, l.length, c3⟩]) ⟨m.mem, m.runs.take N ++ [l], m.many⟩ ∧ FrP P w (w6.setCell ⟨b, 1, none⟩ vr') := by
  have hvo : (Value.slice (some ⟨g, 0, none⟩) N c2).ownBlock = vr.ownBlock := by rw [hg]; rfl
  rw [hvo] at hgr
  have hf := fr_own hgr
  have hml := h.len
  have htl : (vs.take N).length = N := by rw [List.length_take]; omega
  have hown := hl.own hc
  have hrunsw5 := h.runs.kept h5 (by simp)
  refine h.newRuns h5 hf hr ?_ ?_ ?_
  · rcases hv with e | e
    · exact .inl (by rw [e, hvo])
    · exact .inr ⟨_, e, by have := h5.size; omega⟩
  · simp only [List.length_append, List.length_take, List.length_cons, List.length_nil]
    omega
  · intro i hi
    simp only [List.length_append, htl, List.length_cons, List.length_nil] at hi
    by_cases hiN : i < N
    · have e1 : (vs.take N ++ [(⟨A3, l.length, c3⟩ : SlV)])[i]'(by simp [htl]; omega) = vs[i]'(by omega) := by
        rw [List.getElem_append_left (by omega), List.getElem_take]
      have e2 : (m.runs.take N ++ [l]).getD i [] = m.runs.getD i [] := by
        simp only [List.getD, List.getElem?_append_left (show i < (m.runs.take N).length by rw [List.length_take]; omega), List.getElem?_take, hiN, if_true]
      rw [e1, e2]
      have hi1 := h.each i (by omega)
      have hr5 := hi1.row.kept h5 (by simp)
      refine ⟨hr5.kept hf (fun x hx e => own_apart hr5 hrunsw5 (by decide) x e (mem_own hx)), hi1.apart, fun q hq => .inl (hi1.inP q hq)⟩
    · obtain rfl : i = N := by omega
      have e1 : (vs.take i ++ [(⟨A3, l.length, c3⟩ : SlV)])[i]'(by simp [htl]) = ⟨A3, l.length, c3⟩ := by
        rw [List.getElem_append_right (by omega)]
        simp [htl]
      have e2 : (m.runs.take i ++ [l]).getD i [] = l := by
        simp only [List.getD]
        rw [List.getElem?_append_right (by rw [List.length_take]; omega), List.length_take, Nat.min_eq_left (by omega), Nat.sub_self]
        rfl
      rw [e1, e2]
      have hq3 : ∀ q, (Value.slice A3 l.length c3).ownBlock = some q → w.heap.size ≤ q := fun q hq => by
        rcases hl with ⟨rfl, _, _⟩ | ⟨rfl, _⟩
        · cases hq
        · have : g3 = q := by simpa [Value.ownBlock] using hq
          omega
      refine ⟨hown.kept hf (fun x hx e => own_apart hown hrunsw5 (by decide) x e (mem_own hx)), fun q hq e => ?_, fun q hq => .inr (hq3 q hq)⟩
      have := (h.mem.ge q hq).2
      have := hq3 q e
      omega
def Ls.mergeErr (m : Ls.M) : Int := if m.runs.length < 2 then 5 else 0
/-- What the rounds know of the row that grows. -/
structure LsMg (w wr : World) (v : Value) (l : List (Int × Int)) : Prop where
  own : OwnR entE wr w.heap.size 117 v l
  fr : Fr [] w wr
theorem LsMg.next {w wr w3 w' : World} {v : Value} {l l' : List (Int × Int)} {e : Ending} (h : LsMg w wr v l) (hf : Fr [] wr w3) (ha : InsAE w3 w.heap.size v l' e w') : ∃ v', e = .returned v' ∧ LsMg w w' v' l' := by
  obtain ⟨⟨v', h1, h2, h3⟩, h4⟩ := ha
  exact ⟨v', h1, h2, (h.fr.trans hf).grown h4 (fun g hg => .inr (h.own.ge g hg).1)⟩
set_option maxRecDepth 100000 in
set_option maxHeartbeats 4000000 in
theorem ls_Merge (w : World) (P : Nat → Prop) (b : Nat) (m : Ls.M) (h : LsF P w b m) (hO : Ls.OK m) :
    Calls Tryd.prog 35 #[.pointer (some ⟨b, 0, none⟩)] w (LsAns P b (errV (Ls.mergeErr m)) (Ls.merge m) w) := by
  have HH := Lib.hid h
  obtain ⟨vm, vr, vs, hS⟩ := h
  obtain ⟨A2, c2, hvr⟩ := hS.runs.form
  have hvl := hS.len
  have hOl := hO.len
  have hOm := hO.many
  have hOt := hO.tot
  by_cases h2 : m.runs.length < 2
  · have hE : Ls.mergeErr m = 5 := if_pos h2
    have hM : Ls.merge m = m := if_pos h2
    rw [hE, hM, errV_no (by decide)]
    have hc := hS.cells
    rw [hvr] at hc
    obtain ⟨-, c1, -, -⟩ := hc
    have h2I : (vs.length : Int) < 2 := by omega
    clear hS hO hvr hvl hOl hOm hOt hE hM h2
    generalize vs.length = n at *
    go_enter Tryd.func35, Tryd.ntmps35
    go_wp2
    go_ret
    exact LsAns.none HH.out rfl (Fr.refl _ _)
  · have hE : Ls.mergeErr m = 0 := if_neg h2
    have hM : Ls.merge m = ⟨m.mem, m.runs.take (m.runs.length - 2) ++ [Ls.merge2 (m.runs.getD (m.runs.length - 2) []) (m.runs.getD (m.runs.length - 1) [])], m.many⟩ := if_neg h2
    rw [hE, hM, show errV 0 = .nilIface from rfl]
    obtain ⟨N, hN⟩ : ∃ N, m.runs.length = N + 2 := ⟨m.runs.length - 2, by omega⟩
    rw [hN, show N + 2 - 2 = N from rfl, show N + 2 - 1 = N + 1 from rfl]
    have hvN : vs.length = N + 2 := by omega
    have ra := hS.each N (by omega)
    have rb := hS.each (N + 1) (by omega)
    have hma := Ls.getD_mem m.runs N (by omega)
    have hmb := Ls.getD_mem m.runs (N + 1) (by omega)
    have hupa := hO.up _ (List.mem_cons_of_mem _ hma)
    have hupb := hO.up _ (List.mem_cons_of_mem _ hmb)
    have hla := (List.sublist_flatten_of_mem hma).length_le
    have hlb := (List.sublist_flatten_of_mem hmb).length_le
    have HSP : Hid (m.runs.flatten.length = (m.runs.take N).flatten.length + (m.runs.getD N []).length + (m.runs.getD (N + 1) []).length) := by
      have e := Ls.split2 m.runs (by omega)
      rw [hN, show N + 2 - 2 = N from rfl, show N + 2 - 1 = N + 1 from rfl] at e
      have := congrArg (fun x => x.flatten.length) e
      simp only [List.flatten_append, List.length_append, List.flatten_cons, List.flatten_nil, List.length_nil] at this
      show _ = _
      omega
    obtain ⟨aL, haL⟩ : ∃ x, m.runs.getD N [] = x := ⟨_, rfl⟩
    obtain ⟨bL, hbL⟩ : ∃ x, m.runs.getD (N + 1) [] = x := ⟨_, rfl⟩
    rw [haL] at ra hupa hla HSP ⊢
    rw [hbL] at rb hupb hlb HSP ⊢
    have hab : aL.length + bL.length ≤ 60 := by have := HSP.out; omega
    obtain ⟨sa, hsa⟩ : ∃ s, vs[N]'(by omega) = s := ⟨_, rfl⟩
    obtain ⟨sb, hsb⟩ : ∃ s, vs[N + 1]'(by omega) = s := ⟨_, rfl⟩
    rw [hsa] at ra
    rw [hsb] at rb
    obtain ⟨g, c, hvr2, hgo, hcel⟩ := own_cells1 hS.runs (by omega)
    rw [hvr] at hvr2
    injection hvr2 with e1 _ e3
    subst e1 e3
    have HCE : Hid (∀ W, Fr [] w W → W.cell? ⟨b, 1, none⟩ = some (.slice (some ⟨g, 0, none⟩) (N + 2) c2) ∧ (∀ i, W.frozen? ⟨b, i, none⟩ = false) ∧ W.cell? ⟨g, N, none⟩ = some sa.val ∧ W.cell? ⟨g, N + 1, none⟩ = some sb.val) := fun W hW => by
      have hc := (hS.keep hW).cells
      refine ⟨by rw [hc.2.1, hvr, hvN], hc.2.2.2, ?_, ?_⟩
      · rw [hW.cell (hcel N (by omega)) (by simp), hsa]
      · rw [hW.cell (hcel (N + 1) (by omega)) (by simp), hsb]
    obtain ⟨gb, -, hslb⟩ := rb.row.sl
    have HCL := Lib.hid (ls_clone w sb.val gb bL hslb (by omega))
    have hraf := ra.row.form
    obtain ⟨Aa, ca, hav⟩ := hraf
    obtain ⟨Aa', na, ca'⟩ := sa
    obtain ⟨Ab', nb, cb'⟩ := sb
    dsimp only [SlV.val] at hav HCL HCE ra
    injection hav with e1 e2 e3
    subst e1 e2 e3
    have HRA := Lib.hid ra
    have HS := Lib.hid hS
    have HVR := Lib.hid hvr
    have HVN := Lib.hid hvN
    have HUPB := Lib.hid hupb
    have HUPF : Hid (∀ i, Ls.Up ((aL.take i).foldl Ls.set bL)) := fun i => Ls.up_fold _ _ hupb
    have HLNF : Hid (∀ i, ((aL.take i).foldl Ls.set bL).length ≤ 60) := fun i => by
      have := Ls.len_fold (aL.take i) bL
      rw [List.length_take] at this
      omega
    have HHL := Lib.hid haL
    have HHB := Lib.hid hbL
    have HNN := Lib.hid hN
    have hNb : N ≤ 60 := by omega
    have i1 : ((N + 2 : Nat) : Int) - 1 = ((N + 1 : Nat) : Int) := by omega
    have i2 : ((N + 2 : Nat) : Int) - 2 = (N : Int) := by omega
    obtain ⟨q0, qf, q1, q2⟩ := HCE.out w (Fr.refl _ _)
    have hcap : N + 2 ≤ c2 := by
      have ho := hS.runs
      rw [hvr] at ho
      rcases ho.2 with ⟨e, _⟩ | ⟨_, _, _, e, _, _, hc, _⟩
      · cases e
      · injection e with _ _ e3; omega
    have hcapI : (N : Int) ≤ c2 := by omega
    have hcap0 : ¬ c2 = 0 := by omega
    have hala : aL.length ≤ 60 := by omega
    clear hS hO hvr hvl hOl hOm hOt hE hM h2 hN hvN ra rb hma hmb hupa hupb hla hlb haL hbL hsa hsb hcel hslb hab
    go_enter Tryd.func35, Tryd.ntmps35
    go_wp2_with fail
    refine useC HCL.out ?_
    rintro e w1 ⟨v1, rfl, ho1, hf1⟩
    have HI0 : Hid (LsMg w w1 v1 ((aL.take 0).foldl Ls.set bL)) := ⟨ho1, hf1⟩
    obtain ⟨q0, qf, q1, q2⟩ := HCE.out w1 hf1
    obtain ⟨g2, hrw, -, -, -, -⟩ := RwL.of HRA.out.row
    have HRW := Lib.hid hrw
    clear ho1 hf1 HCL hrw
    have i2' : (N : Int) + 2 - 2 = (N : Int) := by omega
    go_wp2_with fail
    go_loopw [4, 33] (fun v i wr => ∃ k : Nat, k ≤ aL.length ∧ i = .int .i64 k ∧ Hid (LsMg w wr v ((aL.take k).foldl Ls.set bL))) (fun _ i _ => aL.length - (intOf i).toNat)
    case atStart => exact ⟨0, Nat.zero_le _, rfl, HI0⟩
    case round =>
      clear HI0
      obtain ⟨k, hk, rfl, hI⟩ := hrel
      by_cases hlt : k < aL.length
      · have kI : (k : Int) < aL.length := by omega
        have k0 : (0 : Int) ≤ k := by omega
        obtain ⟨rfl, hD⟩ := (HRW.out.fr hI.out.fr (by simp)).use (by omega)
        obtain ⟨cur, hg, hsz, hpart⟩ := hD.room hlt
        have HG := Lib.hid hg
        have HPT : Hid (((cur.toList.drop (k * 2)).take 2).toArray = #[.int .i64 aL[k].1, .int .i64 aL[k].2]) := hpart
        have hsz' : k * 2 + 2 ≤ cur.size := hsz
        have HNX : Hid ((aL.take (k + 1)).foldl Ls.set bL = Ls.set ((aL.take k).foldl Ls.set bL) (aL[k].1, aL[k].2)) := by
          show _ = _
          rw [List.take_succ_eq_append_getElem hlt, List.foldl_append]
          rfl
        have hup := HUPF.out k
        have hln := HLNF.out k
        obtain ⟨nx, hnx⟩ : ∃ nx, (aL.take (k + 1)).foldl Ls.set bL = nx := ⟨_, rfl⟩
        rw [hnx] at HNX
        have HNX2 := Lib.hid hnx
        obtain ⟨l0, hl0⟩ : ∃ l0, (aL.take k).foldl Ls.set bL = l0 := ⟨_, rfl⟩
        rw [hl0] at hI hup hln HNX
        generalize aL[k].1 = ek at *
        generalize aL[k].2 = ex at *
        have hsz2 := hI.out.fr.size
        clear hg hpart hsz hD hl0 hnx
        go_wp2_with (first
          | (refine wpList_load_part rfl 117 _ rfl g2 (k * 2) 2 rfl _ cur _ _ HG.out Tryd.underlying117 rfl (by kernel_rfl) hsz' _ HPT.out ?_)
          | (refine wpList_store_fresh (w := wr) rfl 117 _ _ rfl rfl #[.int .i64 ek, .int .i64 ex] rfl rfl ent_info rfl (by simp [Value.oneCell']) ?_; intro w4 hw4 hf4 hs4; have HF4 := Lib.hid hf4; have c0 : w4.cell? ⟨wr.heap.size, 0, none⟩ = some (.int .i64 ek) := (by rw [cell_of_row _ _ _ _ _ _ hw4]; rfl); have c1 : w4.cell? ⟨wr.heap.size, 1, none⟩ = some (.int .i64 ex) := (by rw [cell_of_row _ _ _ _ _ _ hw4]; rfl); clear hw4 hf4 hs4)
          | (have HF4' := HF4; go_at_call 71; (with_reducible refine useC (ls_set _ w.heap.size _ l0 ek ex (hI.out.own.kept HF4.out (by simp)) hup (by omega) (by have := HF4.out.size; omega)) ?_); intro e5 w5 h5; have h6 := hI.out.next HF4.out h5; obtain ⟨v6, rfl, h6⟩ := h6; have HI6 := Lib.hid h6; clear h5 h6))
        go_roundw
        case rel => exact ⟨k + 1, by omega, by go_num, by show LsMg w _ _ _; rw [HNX2.out, HNX.out]; exact HI6.out⟩
        case measure => (simp [intOf]; try omega)
      · obtain rfl : k = aL.length := by omega
        have kI : ¬ (aL.length : Int) < aL.length := by omega
        have hln := HLNF.out aL.length
        have HMG : Hid ((aL.foldl Ls.set bL).filter Ls.stay = Ls.merge2 aL bL) := rfl
        rw [List.take_length] at hI hln
        obtain ⟨l0, hl0⟩ : ∃ l0, aL.foldl Ls.set bL = l0 := ⟨_, rfl⟩
        rw [hl0] at hI hln HMG
        obtain ⟨A3, c3, rfl⟩ := hI.out.own.form
        have hob := hI.out.own.ge
        obtain ⟨g3, hrw3, hgo3, hgn3, -, hc3⟩ := RwL.of (hI.out.own.base (C := 0) (fun _ _ => Nat.zero_le _))
        have HDL := Lib.hid (ls_del wr A3 g3 c3 l0 hrw3 hln hc3)
        have hg3 : w.heap.size ≤ g3 := by
          cases A3 with
          | none => exact Nat.le_trans hI.out.fr.size (hgn3 rfl)
          | some a => exact (hob g3 (by rw [hgo3]; rfl)).1
        clear hrw3 hgo3 hgn3 hob hl0 hlt hk
        have HCUT := Lib.hid hc3
        have HG3 := Lib.hid hg3
        have HM5 : Hid (∀ W W2 vr', Fr [] w W → OwnR slE W2 0 111 vr' (vs.take N ++ [⟨A3, (Ls.merge2 aL bL).length, c3⟩]) → W.grownBy W2 (Value.slice (some ⟨g, 0, none⟩) N c2).ownBlock → Moved (W.heap.size + 1) (.slice (some ⟨g, 0, none⟩) N c2) vr' → RwL W A3 g3 c3 (Ls.merge2 aL bL) →
            LsAns P b .nilIface ⟨m.mem, m.runs.take N ++ [Ls.merge2 aL bL], m.many⟩ w (.returned .nilIface) (W2.setCell ⟨b, 1, none⟩ vr')) := fun W W2 vr' k1 k2 k3 k4 k5 => by
          have := HS.out.merged (N := N) HVN.out k1 hgo k2 k3 k4 k5 HCUT.out HG3.out
          exact ⟨rfl, ⟨_, _, _, this.1⟩, this.2⟩
        have HFIL : Hid (∀ W W2, Fr [] w W → Fr (Value.slice (some ⟨g, 0, none⟩) N c2).ownBlock.toList W W2 → W2.heap[b]? = W.heap[b]?) := fun W W2 k1 k2 => k2.block b (Nat.lt_of_lt_of_le HS.out.lt k1.size) (fun hm => by
          have := mem_own hm
          exact HS.out.ne.2.1 (by rw [hgo]; exact this))
        have HOW : Hid (∀ W, Fr [] w W → OwnR slE W 0 111 (.slice (some ⟨g, 0, none⟩) N c2) (vs.take N)) := fun W hW => by
          have := HS.out.runs.kept hW (by simp)
          rw [HVR.out] at this
          exact this.take N (by have := HVN.out; omega)
        have HTL : Hid ((vs.take N).length = N) := by show _ = _; rw [List.length_take]; have := HVN.out; omega
        have HFR := Lib.hid hI.out.fr
        have HMG2 := Lib.hid HMG.out
        rw [HMG.out.symm] at HM5
        clear HMG hgo hc3 hg3 hI HH HRA HS HVR HVN HUPB HUPF HLNF HHL HHB HNN HRW HSP q0 qf q1 q2
        generalize hfl : l0.filter Ls.stay = fl at *
        have HFLL := Lib.hid hfl
        clear hfl
        go_wp2_with (first
          | (go_at_call 72; (with_reducible refine useC HDL.out ?_); intro e5 w5 h5; obtain ⟨rfl, hf5, hr5⟩ := h5; rw [HFLL.out] at hr5; rw [HFLL.out]; have HR5 := Lib.hid hr5; have hF5 := HFR.out.step hf5 (fun x hx => .inr (by simp only [List.mem_singleton] at hx; subst hx; exact HG3.out)); have HF5 := Lib.hid hF5; obtain ⟨q0, qf, -, -⟩ := HCE.out w5 hF5; have HO5 := Lib.hid (HOW.out w5 hF5); clear hf5 hr5 hF5)
          | (have hd' := HO5; at_builtin; refine wpList_push_enc2 (E := slE) (y := ⟨A3, fl.length, c3⟩) (wr := w5) Tryd.und_insT Tryd.info_insT rfl (by decide) rfl _ _ rfl 0 _ (vs.take N) rfl rfl HO5.out rfl (by rw [HTL.out]; omega) (Nat.zero_le _) ?_; intro v' w6 h1 h2 h3; have hfm := h1.form; obtain ⟨A4, k4, hv4⟩ := hfm; rw [List.length_append, HTL.out] at hv4; obtain ⟨L4, hL4⟩ : ∃ L4, N + [(⟨A3, fl.length, c3⟩ : SlV)].length = L4 := ⟨_, rfl⟩; rw [hL4] at hv4; clear hL4; subst hv4; have HFI := Lib.hid (HM5.out w5 w6 _ HF5.out h1 h2 h3 HR5.out); have hq6 := HFIL.out w5 w6 HF5.out (fr_own h2); have q6 := (World.cell?_of_block (a := ⟨b, 1, none⟩) hq6).trans q0; have qf6 := (World.frozen?_of_block (a := ⟨b, 1, none⟩) hq6).trans (qf 1); clear h1 h2 h3 hq6))
        go_ret
        rw [← HMG2.out]
        exact HFI.out
end Go.Proofs.YtokbhiokcoldbaaDoor
