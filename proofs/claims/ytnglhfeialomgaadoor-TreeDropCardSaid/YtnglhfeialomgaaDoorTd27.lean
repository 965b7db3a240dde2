/- The law TreeDrop. -/

import Derived.Test.YtnglhfeialomgaaDoorTd24
import Derived.Test.YtnglhfeialomgaaDoorTd25
import Derived.Test.YtnglhfeialomgaaDoorTd26
namespace Go.Proofs.YtnglhfeialomgaaDoor
open Go.RowKit

/-- A node made: with all that is known of it. -/
def MakF (w0 w : World) (tb : Nat) (g : Tr.G) (dom : Nat → Prop) (K : Nat) (s : List UInt8) (dir : Bool) (e : Ending) (w' : World) : Prop :=
  e = .returned (errV (Tr.addErr g s)) ∧ FrP (TrP tb g dom) w w' ∧ ∃ c o, ¬ dom c ∧ Option.isSome o = dir ∧ (∀ k, TrP tb (Tr.newN g c o) (fun b => dom b ∨ b = c) k → TrP tb g dom k ∨ w.heap.size ≤ k) ∧
    ((Tr.addErr g s = 0 ∧ ∃ d x, Tr.spot g s = .at_ d x ∧ TrL w0 w' tb (Tr.addG (Tr.newN g c o) d x c) (fun b => dom b ∨ b = c) (K + 1)) ∨ (Tr.addErr g s ≠ 0 ∧ TrL w0 w' tb (Tr.newN g c o) (fun b => dom b ∨ b = c) K))
theorem MakF.of {w0 w w' : World} {tb K : Nat} {g : Tr.G} {dom : Nat → Prop} {s : List UInt8} {dir : Bool} {e : Ending} (h : TrL w0 w tb g dom K) (ha : MakA tb g dom K s dir w e w') : MakF w0 w tb g dom K s dir e w' := by
  obtain ⟨he, hf, c, o, -, ho, hno, hP, hr⟩ := ha
  obtain ⟨hr1, hcl⟩ := h.domC
  have hcn : Tr.Cn (Tr.newN g c o) := h.cn.newN hr1 hcl hno
  refine ⟨he, hf, c, o, hno, ho, hP, ?_⟩
  rcases hr with ⟨h0, d, x, hs, hS⟩ | ⟨h0, hS⟩
  · refine .inl ⟨h0, d, x, hs, h.next hf hS ?_ (fun k hk => hP k (trP_same (g := Tr.newN g c o) (g' := Tr.addG (Tr.newN g c o) d x c) (fun b => rfl) (fun b => by rw [Tr.addG_ent, Tr.setE_some]) hk))⟩
    have hne : c ≠ d := fun e => hno (e ▸ Tr.spot_dom hr1 hcl hs)
    exact hcn.addS (h.s.ok.newN hr1 hcl hno) (by rw [Tr.spot_newN hr1 hcl hno]; exact hs) (by rw [Tr.addErr_newN hr1 hcl hno]; exact h0) hne Tr.newN_leaf
  · exact .inr ⟨h0, h.next hf hS hcn hP⟩
theorem trl_DirG {w0 w : World} {tb K : Nat} {g : Tr.G} {dom : Nat → Prop} (h : TrL w0 w tb g dom K) (hK : K ≤ 100000) (s : ByteArray) :
    Calls Tryd.prog 17 #[.pointer (some ⟨tb, 0, none⟩), .string s] w (MakF w0 w tb g dom K s.data.toList true) :=
  (tr_Dir w tb g dom K s h.s hK).mono fun _ _ ha => MakF.of h ha
theorem trl_FileG {w0 w : World} {tb K : Nat} {g : Tr.G} {dom : Nat → Prop} (h : TrL w0 w tb g dom K) (hK : K ≤ 100000) (s : ByteArray) :
    Calls Tryd.prog 16 #[.pointer (some ⟨tb, 0, none⟩), .string s] w (MakF w0 w tb g dom K s.data.toList false) :=
  (tr_File w tb g dom K s h.s hK).mono fun _ _ ha => MakF.of h ha
/-- A tree into which something was put that is none of tree g's: struck again, it tells what g tells. -/
structure PutIn (w0 w : World) (tb : Nat) (g : Tr.G) (s : List UInt8) (G : Tr.G) (dom : Nat → Prop) (K : Nat) (P0 : Nat → Prop) (d : Nat) (x : Tr.Nme) (c : Nat) : Prop where
  L : TrL w0 w tb G dom K
  many : G.many = g.many + 1
  sp : Tr.spot G s = .at_ d x
  kd : Tr.kid G d x = some c
  de : Tr.dropErr G s = 0
  same : ∀ t, Tr.InW (Tr.dropG G d x c) t ↔ Tr.InW g t
  sp2 : Tr.spot (Tr.dropG G d x c) s = .at_ d x
  ae : Tr.addErr (Tr.dropG G d x c) s = 0
  new : ∀ k, TrP tb G dom k → P0 k
theorem PutIn.made {w0 w w' : World} {tb K : Nat} {g : Tr.G} {dom P0 : Nat → Prop} {s : List UInt8} {dir : Bool} {e : Ending} (h : TrL w0 w tb g dom K) (hm : MakF w0 w tb g dom K s dir e w') (h0 : Tr.addErr g s = 0) (hP : ∀ k, TrP tb g dom k ∨ w.heap.size ≤ k → P0 k) :
    e = .returned .nilIface ∧ FrP (TrP tb g dom) w w' ∧ ∃ G dom' d x c, PutIn w0 w' tb g s G dom' (K + 1) P0 d x c := by
  obtain ⟨he, hf, c, o, hno, -, hN, hr⟩ := hm
  rw [h0, errV0] at he
  obtain ⟨hr1, hcl⟩ := h.domC
  rcases hr with ⟨-, d, x, hs, hL⟩ | ⟨h, -⟩
  · have hp := Tr.madeP h.s.ok hL.s.ok hr1 hcl hno h0 hs
    exact ⟨he, hf, _, _, d, x, c, hL, rfl, hp.sp, hp.kd, hp.de, hp.same, hp.sp2, hp.ae, fun k hk => hP k (hN k (trP_same (g := Tr.newN g c o) (g' := Tr.addG (Tr.newN g c o) d x c) (fun b => rfl) (fun b => by rw [Tr.addG_ent, Tr.setE_some]) hk))⟩
  · exact absurd h0 h
theorem PutIn.over {w0 w : World} {tb K : Nat} {g g2 : Tr.G} {dom P0 P1 : Nat → Prop} {s : List UInt8} {G : Tr.G} {d c : Nat} {x : Tr.Nme} (h : PutIn w0 w tb g2 s G dom K P0 d x c) (hm : g2.many = g.many) (hs : ∀ t, Tr.InW g2 t ↔ Tr.InW g t) (hP : ∀ k, P0 k → P1 k) : PutIn w0 w tb g s G dom K P1 d x c :=
  ⟨h.L, by rw [h.many, hm], h.sp, h.kd, h.de, fun t => (h.same t).trans (hs t), h.sp2, h.ae, fun k hk => hP k (h.new k hk)⟩
set_option maxRecDepth 100000 in
set_option maxHeartbeats 8000000 in
theorem tree_dropL (w : World) (v : Value) (ls : List (List (List UInt8))) (hR : RwT w v ls) (s : ByteArray) (dirb : Bool) (hE : ErrType w) :
    Calls Tryd.prog 5 #[v, .string s, .bool dirb] w (OkT w) := by
  have HERR := Lib.hid hE
  have HF := Lib.hid (tr_fact w)
  have HG := Lib.hid (fun w1 hf => tr_grown w w1 v ls hR hf)
  obtain ⟨A, g0, o, c, rfl, -⟩ := hR
  clear hE
  go_enter Tryd.func5, Tryd.ntmps5
  go_upto_region 5 with (first
    | (go_at_call 8; (with_reducible refine useC HF.out ?_); rintro e w1 ⟨rfl, hf⟩; have HF1 := Lib.hid hf; clear hf)
    | (go_at_call 9; (with_reducible refine useC (HG.out w1 HF1.out) ?_); rintro e w2 ⟨tb, g, dom, rfl, h⟩; have HL2 := Lib.hid h; clear h))
  have HW2 := Lib.hid (trl_Walk HL2.out)
  go_upto_region 6 with (go_at_call 11; (with_reducible refine useC HW2.out ?_); rintro e w3 ⟨v1, l1, gv1, rfl, hg, hs, hw, hlen, -, h⟩; obtain ⟨A1, o1, c1, rfl, -, -, hA1, hcell⟩ := strs_cell hs; have HOFF := Lib.hid (HL2.out.off hg); have HA1 := Lib.hid hA1; have HLT : Hid (gv1 < w3.heap.size ∨ l1 = []) := (by show _ ∨ _; by_cases hz : l1 = []; exact .inr hz; exact .inl (block_lt_of_cell (hcell 0 (List.length_pos_iff.2 hz)))); have HS1 := Lib.hid hs; have HWI := Lib.hid hw; have HM0 := Lib.hid hlen; have HL3 := Lib.hid h; clear hg hs hw h hlen hA1 hcell)
  have HMN := Lib.hid HL3.out.s.many
  have HFI := Lib.hid (trl_FileG HL3.out (by decide) s)
  have HDI := Lib.hid (fun W (g1 : Tr.G) dom1 K1 (h : TrL w W tb g1 dom1 K1) (hk : K1 ≤ 100000) => trl_DirG h hk s)
  obtain ⟨st, hst⟩ : ∃ x, Hid (s.data.toList = x) := ⟨_, rfl⟩
  rw [hst.out] at HFI HDI
  by_cases h0 : Tr.addErr g st = 0
  · have HFY : Hid (Calls Tryd.prog 16 #[.pointer (some ⟨tb, 0, none⟩), .string s] w3 fun e w' => e = .returned .nilIface ∧ FrP (TrP tb g dom) w3 w' ∧ ∃ G dom' d x c, PutIn w w' tb g st G dom' 81 (fun k => TrP tb g dom k ∨ w3.heap.size ≤ k) d x c) :=
      HFI.out.mono fun e w' h => PutIn.made HL3.out h h0 (fun k hk => hk)
    have HNP : Hid (¬ (TrP tb g dom gv1 ∨ w3.heap.size ≤ gv1) ∨ l1 = []) := by
      show _ ∨ _
      rcases HOFF.out with h | h
      · rcases HLT.out with h2 | h2
        · exact .inl (fun hp => hp.elim h (by omega))
        · exact .inr h2
      · exact .inr h
    clear h0 HFI
    cases dirb
    case' false =>
      go_upto_region 12 with (go_at_call 16; (with_reducible refine useC HFY.out ?_); rintro e w4 ⟨rfl, hf, TG, domG, dd, xx, cc, h⟩; have HPUT := Lib.hid h; have HSW := Lib.hid (slR_frP HS1.out hf HOFF.out); clear hf h)
      have HKG : Hid (81 ≤ 100000) := by show 81 ≤ 100000; decide
      have HWK := Lib.hid (trl_Walk HPUT.out.L)
      have HM1 : Hid (∀ l : List (List UInt8), (l.length : Int) = TG.many → l.length = l1.length + 1) := fun l hl => by
        have h1 := HPUT.out.many
        have h2 := HM0.out
        omega
      have HDRP : Hid (∀ W, TrL w W tb TG domG 81 → Calls Tryd.prog 13 #[.pointer (some ⟨tb, 0, none⟩), .string s] W fun e w' => e = .returned .nilIface ∧ TrL w w' tb (Tr.dropG TG dd xx cc) domG (81 + 1) ∧ FrP (TrP tb TG domG) W w') := fun W hW =>
        (trl_DropF hW HKG.out s).mono fun e w' ⟨h, hf⟩ => by
          rw [hst.out] at h
          obtain ⟨h1, h2⟩ := h.ok HPUT.out.de HPUT.out.sp HPUT.out.kd
          exact ⟨h1, h2, hf⟩
      have HSAME : Hid (∀ l, Tr.WalkIs (Tr.dropG TG dd xx cc) l → l = l1) := fun l hl => Tr.walk_eq hl HWI.out HPUT.out.same
      have HNG : Hid (¬ TrP tb TG domG gv1 ∨ l1 = []) := HNP.out.imp (fun h hp => h (HPUT.out.new _ hp)) id
      have mw : IntKind.i64.wrap ((l1.length : Int) + 1) = (l1.length : Int) + 1 := by rw [IntKind.wrap_i64]; have := HM0.out; have := HMN.out; omega
      go_upto_region 14 with (first
        | (have h' := HWK; go_at_call 11; (with_reducible refine useC HWK.out ?_); rintro e wa ⟨va, la, gva, rfl, -, hs, -, hlen, hf, h⟩; obtain ⟨Aa, oa, ca, rfl, -⟩ := strs_cell hs; have hla := HM1.out la hlen; rw [hla]; have HSa := Lib.hid (slR_fr HSW.out hf); have HDRa := Lib.hid (HDRP.out wa h); clear h' HWK hs hlen hf h hla)
        | (go_at_call 13; (with_reducible refine useC HDRa.out ?_); rintro e wb ⟨rfl, h, hf⟩; have HSb := Lib.hid (slR_frP HSa.out hf HNG.out); have HWKb := Lib.hid (trl_Walk h); clear h hf)
        | (have h' := HWKb; go_at_call 11; (with_reducible refine useC HWKb.out ?_); rintro e wc ⟨vc, lc, gvc, rfl, -, hs, hw, -, hf, h⟩; obtain rfl := (HSAME.out lc hw).symm; obtain ⟨Ac, oc, cc2, rfl, -⟩ := strs_cell hs; have HSc := Lib.hid (slR_fr HSb.out hf); have HTX := Lib.hid (texts_same wc _ _ _ _ _ hs HSc.out); have HLc := Lib.hid h; have HWIc := Lib.hid hw; clear h' hs hw hf h)
        | (go_at_call 15; (with_reducible refine useC HTX.out ?_); rintro e wd ⟨rfl, hf⟩; have HLd := Lib.hid (HLc.out.step hf); have HSd := Lib.hid (slR_fr HSc.out hf); clear hf))
    case' true =>
      go_upto_region 9 with (first
        | (go_at_call 16; (with_reducible refine useC HFY.out ?_); rintro e w4 ⟨rfl, hf, G1, dom1, d1, x1, cc1, h⟩; have HP1 := Lib.hid h; have HZ4 := Lib.hid hf.size; have HS4 := Lib.hid (slR_frP HS1.out hf HOFF.out); have HD4 := Lib.hid (trl_DropF h.L (by decide) s); rw [hst.out] at HD4; clear hf h)
        | (go_at_call 13; (with_reducible refine useC HD4.out ?_); rintro e w5 ⟨h, hf⟩; obtain ⟨rfl, h2⟩ := h.ok HP1.out.de HP1.out.sp HP1.out.kd; have HL5 := Lib.hid h2; have HSZ := Lib.hid (Nat.le_trans HZ4.out hf.size); have HS5 := Lib.hid (slR_frP HS4.out hf (HNP.out.imp (fun h hp => h (HP1.out.new _ hp)) id)); clear hf h h2))
      have HTP : Hid (∀ k, TrP tb (Tr.dropG G1 d1 x1 cc1) dom1 k → TrP tb G1 dom1 k) := fun k hk => trP_same (g := G1) (g' := Tr.dropG G1 d1 x1 cc1) (fun b => rfl) (fun b => (Tr.setE_some : ((Tr.setE G1 d1 x1 none).ent b).isSome = _)) hk
      have HLT5 : Hid (w3.heap.size ≤ w5.heap.size) := HSZ.out
      have HDY : Hid (Calls Tryd.prog 17 #[.pointer (some ⟨tb, 0, none⟩), .string s] w5 fun e w' => e = .returned .nilIface ∧ FrP (TrP tb (Tr.dropG G1 d1 x1 cc1) dom1) w5 w' ∧ ∃ G dom' d x c, PutIn w w' tb g st G dom' 83 (fun k => TrP tb g dom k ∨ w3.heap.size ≤ k) d x c) :=
        (HDI.out w5 _ dom1 82 HL5.out (by decide)).mono fun e w' h => by
          obtain ⟨q1, q2, G, dom', d, x, c, q3⟩ := PutIn.made HL5.out h HP1.out.ae (P0 := fun k => TrP tb (Tr.dropG G1 d1 x1 cc1) dom1 k ∨ w5.heap.size ≤ k) (fun k hk => hk)
          exact ⟨q1, q2, G, dom', d, x, c, q3.over (by show G1.many - 1 = g.many; rw [HP1.out.many]; omega) HP1.out.same (fun k hk => hk.elim (fun h => HP1.out.new _ (HTP.out k h)) (fun h => .inr (Nat.le_trans HLT5.out h)))⟩
      go_upto_region 12 with (go_at_call 17; (with_reducible refine useC HDY.out ?_); rintro e w6 ⟨rfl, hf, TG, domG, dd, xx, cc, h⟩; have HPUT := Lib.hid h; have HSW := Lib.hid (slR_frP HS5.out hf (HNP.out.imp (fun h hp => h (HP1.out.new _ (HTP.out _ hp))) id)); clear hf h)
      have HKG : Hid (83 ≤ 100000) := by show 83 ≤ 100000; decide
      have HWK := Lib.hid (trl_Walk HPUT.out.L)
      have HM1 : Hid (∀ l : List (List UInt8), (l.length : Int) = TG.many → l.length = l1.length + 1) := fun l hl => by
        have h1 := HPUT.out.many
        have h2 := HM0.out
        omega
      have HDRP : Hid (∀ W, TrL w W tb TG domG 83 → Calls Tryd.prog 13 #[.pointer (some ⟨tb, 0, none⟩), .string s] W fun e w' => e = .returned .nilIface ∧ TrL w w' tb (Tr.dropG TG dd xx cc) domG (83 + 1) ∧ FrP (TrP tb TG domG) W w') := fun W hW =>
        (trl_DropF hW HKG.out s).mono fun e w' ⟨h, hf⟩ => by
          rw [hst.out] at h
          obtain ⟨h1, h2⟩ := h.ok HPUT.out.de HPUT.out.sp HPUT.out.kd
          exact ⟨h1, h2, hf⟩
      have HSAME : Hid (∀ l, Tr.WalkIs (Tr.dropG TG dd xx cc) l → l = l1) := fun l hl => Tr.walk_eq hl HWI.out HPUT.out.same
      have HNG : Hid (¬ TrP tb TG domG gv1 ∨ l1 = []) := HNP.out.imp (fun h hp => h (HPUT.out.new _ hp)) id
      have mw : IntKind.i64.wrap ((l1.length : Int) + 1) = (l1.length : Int) + 1 := by rw [IntKind.wrap_i64]; have := HM0.out; have := HMN.out; omega
      go_upto_region 14 with (first
        | (have h' := HWK; go_at_call 11; (with_reducible refine useC HWK.out ?_); rintro e wa ⟨va, la, gva, rfl, -, hs, -, hlen, hf, h⟩; obtain ⟨Aa, oa, ca, rfl, -⟩ := strs_cell hs; have hla := HM1.out la hlen; rw [hla]; have HSa := Lib.hid (slR_fr HSW.out hf); have HDRa := Lib.hid (HDRP.out wa h); clear h' HWK hs hlen hf h hla)
        | (go_at_call 13; (with_reducible refine useC HDRa.out ?_); rintro e wb ⟨rfl, h, hf⟩; have HSb := Lib.hid (slR_frP HSa.out hf HNG.out); have HWKb := Lib.hid (trl_Walk h); clear h hf)
        | (have h' := HWKb; go_at_call 11; (with_reducible refine useC HWKb.out ?_); rintro e wc ⟨vc, lc, gvc, rfl, -, hs, hw, -, hf, h⟩; obtain rfl := (HSAME.out lc hw).symm; obtain ⟨Ac, oc, cc2, rfl, -⟩ := strs_cell hs; have HSc := Lib.hid (slR_fr HSb.out hf); have HTX := Lib.hid (texts_same wc _ _ _ _ _ hs HSc.out); have HLc := Lib.hid h; have HWIc := Lib.hid hw; clear h' hs hw hf h)
        | (go_at_call 15; (with_reducible refine useC HTX.out ?_); rintro e wd ⟨rfl, hf⟩; have HLd := Lib.hid (HLc.out.step hf); have HSd := Lib.hid (slR_fr HSc.out hf); clear hf))
    all_goals
      obtain ⟨A9, o9, c9, e9, -, -, hA9, hc9⟩ := strs_cell HSd.out
      injection e9 with e9 _ _
      subst e9
      have HA9 := Lib.hid hA9
      have HC9 := Lib.hid hc9
      have HOK9 := Lib.hid HLd.out.s.ok
      have hl24 : l1.length ≤ 24 := by have := HM0.out; have := HMN.out; omega
      have HERR9 := Lib.hid (HERR.out.fr HLd.out.fr (by simp))
      have HDR9 := Lib.hid (fun x => trl_Drop HLd.out (by decide) x)
      have HF9 := Lib.hid HLd.out.fr
      clear hA9 hc9 mw
      go_wp2_with fail
      go_loop [11] (fun i => ∃ k : Nat, k ≤ l1.length ∧ i = .int .i64 k) (fun i => 30 - (intOf i).toNat)
      case atStart => exact ⟨0, Nat.zero_le _, rfl⟩
      case round =>
        obtain ⟨k, hk, rfl⟩ := hrel
        have i0 : (0 : Int) ≤ k := by omega
        obtain ⟨j, hj⟩ : ∃ j : Nat, j = k + 1 := ⟨_, rfl⟩
        have j1 : (k : Int) + 1 = j := by omega
        have j2 : IntKind.i64.wrap (j : Int) = j := by rw [IntKind.wrap_i64]; omega
        have j0 : (0 : Int) ≤ j := by omega
        have HJ := Lib.hid hj
        by_cases hlt : j < l1.length
        · have i1 : (j : Int) < l1.length := by omega
          have i2 : (k : Int) < l1.length := by omega
          have n2 : k < l1.length := by omega
          obtain rfl := HA9.out (by omega)
          have ca := HC9.out k n2
          have cb := HC9.out j hlt
          have HINA := Lib.hid ((HWIc.out.2 _).1 (List.getElem_mem n2))
          have HINB := Lib.hid ((HWIc.out.2 _).1 (List.getElem_mem hlt))
          obtain ⟨_, _, _, _, _, _, TA⟩ := Tr.tw_of HOK9.out HINA.out
          obtain ⟨_, _, _, _, _, _, TB⟩ := Tr.tw_of HOK9.out HINB.out
          have la := TA.len
          have lb := TB.len
          have na : l1[k] ≠ [] := fun e => by have := TA.parts; rw [e] at this; exact absurd (show (2 : Int) = 0 from congrArg Prod.snd this) (by decide)
          generalize l1[k] = a at *
          generalize l1[j] = b at *
          obtain ⟨n, hn, x, s1, hx, hx47⟩ := last_byte na
          have s2 : IntKind.i64.wrap (n : Int) = n := by rw [IntKind.wrap_i64]; have := Pa.mk_size a; omega
          have s0 : (0 : Int) ≤ n := by omega
          have za := Pa.mk_size a
          have zb := Pa.mk_size b
          have HTK := Lib.hid (mk_head b (Pa.mk a).size)
          have HD7 : Hid (x = 47 → a.length < b.length → b.take a.length = a → Tr.dropErr (Tr.dropG TG dd xx cc) a = 7) := fun h1 h2 h3 => Tr.drop_full HOK9.out HINA.out HINB.out (hx47.1 h1) h2 h3
          have HDRA := Lib.hid (HDR9.out (Pa.mk a))
          rw [Pa.mk_list] at HDRA
          clear na TA TB hx47 HINA HINB hj
          by_cases hq : x = 47
          · have hq1 : (x == 47) = true := by simpa using hq
            by_cases hl : a.length < b.length
            · have hl1 : ((Pa.mk a).size : Int) < (Pa.mk b).size := by omega
              have hl2 : ((Pa.mk a).size : Int) ≤ (Pa.mk b).size := by omega
              have a0 : (0 : Int) ≤ (Pa.mk a).size := by omega
              by_cases hp : b.take a.length = a
              · have hx2 : (Pa.mk b).extract 0 (Pa.mk a).size = Pa.mk a := by rw [HTK.out, za, hp]
                have HDS : Hid (Calls Tryd.prog 13 #[.pointer (some ⟨tb, 0, none⟩), .string (Pa.mk a)] wd fun e w' => e = .returned (.iface 57 (.int .i64 7)) ∧ Fr [] w w') :=
                  HDRA.out.mono fun e w' ⟨he, hr⟩ => by
                    have h7 := HD7.out hq hl hp
                    rw [h7] at he
                    rcases hr with ⟨h, -⟩ | ⟨-, h⟩
                    · rw [h7] at h; exact absurd h (by decide)
                    · exact ⟨he, h.fr⟩
                have HER : Hid (∀ W, Fr [] w W → Calls Tryd.prog 18 #[.iface 57 (.int .i64 7), .int .i64 7] W (OkT W)) := fun W hW => (error_at 7 7 W (HERR.out.fr hW (by simp))).mono fun _ _ h => h
                generalize Pa.mk a = ma at *
                generalize Pa.mk b = mb at *
                clear hp za zb la lb hq hl
                go_wp2_with (first
                  | (go_at_call 13; (with_reducible refine useC HDS.out ?_); rintro e wy ⟨rfl, hf⟩; have HY := Lib.hid hf; have HEE := Lib.hid (HER.out wy hf); clear hf)
                  | (go_at_call 18; (with_reducible refine useC HEE.out ?_); rintro e wz ⟨rfl, hf⟩; have HZ := Lib.hid hf; clear hf))
                go_ret
                exact ⟨rfl, HY.out.trans HZ.out⟩
              · have hne : (Pa.mk b).extract 0 (Pa.mk a).size ≠ Pa.mk a := fun e => hp (by rw [HTK.out, za] at e; exact Pa.mk_inj e)
                have hne2 : ((Pa.mk b).extract 0 (Pa.mk a).size).toList ≠ (Pa.mk a).toList := fun e => by
                  have e2 := HTK.out
                  rw [e2, mk_toList, mk_toList, za] at e
                  exact hp e
                have f3 : (((Pa.mk b).extract 0 (Pa.mk a).size).toList == (Pa.mk a).toList) = false := beq_eq_false_iff_ne.2 hne2
                generalize Pa.mk a = ma at *
                generalize Pa.mk b = mb at *
                clear hp za zb la lb hne hne2
                go_wp2
                go_round
                case rel => exact ⟨k + 1, by omega, by go_num⟩
                case measure => (simp [intOf]; try omega)
            · have hl1 : ¬ ((Pa.mk a).size : Int) < (Pa.mk b).size := by omega
              generalize Pa.mk a = ma at *
              generalize Pa.mk b = mb at *
              clear hl za zb la lb hq
              go_wp2
              go_round
              case rel => exact ⟨k + 1, by omega, by go_num⟩
              case measure => (simp [intOf]; try omega)
          · have hq1 : (x == 47) = false := by simpa using hq
            generalize Pa.mk a = ma at *
            generalize Pa.mk b = mb at *
            clear za zb la lb hq
            go_wp2
            go_round
            case rel => exact ⟨k + 1, by omega, by go_num⟩
            case measure => (simp [intOf]; try omega)
        · have i1 : ¬ (j : Int) < l1.length := by omega
          clear hj
          go_wp2
          go_ret
          exact ⟨rfl, HF9.out⟩
  · have hev := errV_no h0
    have HFN : Hid (Calls Tryd.prog 16 #[.pointer (some ⟨tb, 0, none⟩), .string s] w3 fun e w' => e = .returned (.iface 57 (.int .i64 (Tr.addErr g st))) ∧ ∃ G dom', (∀ t, Tr.InW G t ↔ Tr.InW g t) ∧ TrL w w' tb G dom' 80 ∧ FrP (TrP tb g dom) w3 w') :=
      HFI.out.mono fun e w' ⟨he, hf, c, o, hno, _, _, hr⟩ => by
        rw [hev] at he
        obtain ⟨hr1, hcl⟩ := HL3.out.domC
        rcases hr with ⟨h, -⟩ | ⟨-, h⟩
        · exact absurd h h0
        · exact ⟨he, _, _, Tr.newN_inW hr1 hcl hno, h, hf⟩
    clear h0 hev HFI
    have HTXA : Hid (∀ (G : Tr.G) dom' W, TrL w W tb G dom' 80 → (∀ t, Tr.InW G t ↔ Tr.InW g t) → SlR strE W (.slice A1 l1.length c1) gv1 l1 → Calls Tryd.prog 11 #[.pointer (some ⟨tb, 0, none⟩)] W fun e w' => ∃ v2 gv2, e = .returned v2 ∧ SlR strE w' v2 gv2 l1 ∧ SlR strE w' (.slice A1 l1.length c1) gv1 l1 ∧ Fr [] w w') := fun G dom' W hL hI hs =>
      (trl_Walk hL).mono fun e w' ⟨v2, l2, gv2, he, _, h2, hw, _, hf, h⟩ => by
        obtain rfl := Tr.walk_eq hw HWI.out hI
        exact ⟨v2, gv2, he, h2, slR_fr hs hf, h.fr⟩
    cases dirb
    all_goals (go_wp2_with (first
      | (go_at_call 16; (with_reducible refine useC HFN.out ?_); rintro e w4 ⟨rfl, G, dom', hi, h, hf⟩; have HTXB := Lib.hid (HTXA.out G dom' w4 h hi (slR_frP HS1.out hf HOFF.out)); clear hi h hf)
      | (go_at_call 11; (with_reducible refine useC HTXB.out ?_); rintro e w5 ⟨v2, gv2, rfl, h2, h1, hf⟩; have HTX := Lib.hid (texts_same w5 _ _ _ _ _ h2 h1); have HF5 := Lib.hid hf; clear h2 h1 hf)
      | (go_at_call 15; (with_reducible refine useC HTX.out ?_); rintro e w6 ⟨rfl, hf⟩; have HF6 := Lib.hid hf; clear hf)))
    all_goals go_ret
    all_goals exact ⟨rfl, HF5.out.trans HF6.out⟩
end Go.Proofs.YtnglhfeialomgaaDoor
