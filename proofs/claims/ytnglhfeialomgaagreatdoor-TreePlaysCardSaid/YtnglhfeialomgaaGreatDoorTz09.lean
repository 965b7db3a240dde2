/- Trees of directories: at, add. -/

import Derived.Test.YtnglhfeialomgaaGreatDoorTz04
import Derived.Test.YtnglhfeialomgaaGreatDoorTz08
namespace Go.Proofs.YtnglhfeialomgaaGreatDoor
open Go.RowKit

namespace Tr
def addG (g : G) (d : Nat) (x : Nme) (c : Nat) : G := { setE g d x (some c) with many := g.many + 1, nms := fun b => if b = c then g.nms c + 1 else g.nms b }
def addErr (g : G) (s : List UInt8) : Int := match spot g s with
  | .err e => e
  | .at_ d x => if (kid g d x).isSome = true then 6 else if g.many = 24 then 4 else 0
theorem addG_ent (g : G) (d : Nat) (x : Nme) (c b : Nat) : (addG g d x c).ent b = (setE g d x (some c)).ent b := rfl
end Tr
section
variable {w w1 w2 : World} {tb K d c : Nat} {g : Tr.G} {dom : Nat → Prop} {x : Tr.Nme} {m : Tr.Nme → Option Nat}
theorem TrS.neMap (h : TrS w tb g dom K) (hd : dom d) (he : g.ent d = some m) : tb ≠ g.mb d ∧ ∀ b, dom b → b ≠ g.mb d := by
  obtain ⟨es, clock, ho⟩ := ((h.node d hd).dir he).2.obj
  refine ⟨fun e => ?_, fun b hb e => ?_⟩
  · have := h.top
    rw [e, ho] at this
    cases this
  · obtain ⟨v, hv⟩ := (h.node b hb).obj
    rw [e, ho] at hv
    cases hv
theorem TrS.neTop (h : TrS w tb g dom K) {b : Nat} (hb : dom b) : b ≠ tb := fun e => by
  obtain ⟨v, hv⟩ := (h.node b hb).obj
  rw [e, h.top] at hv
  injection hv with hv
  injection hv with _ hv _
  exact absurd hv (by decide)
theorem TrS.mono (h : TrS w tb g dom K) {K' : Nat} (hK : K ≤ K') : TrS w tb g dom K' := by
  refine ⟨h.top, fun b hb => ?_, h.rootD, h.closed, h.mbs, h.ok, h.many, fun b hb => by have := h.nb b hb; omega⟩
  have hn := h.node b hb
  unfold NodeIn at *
  cases he : g.ent b with
  | none => rw [he] at hn; exact hn
  | some m => rw [he] at hn; exact ⟨hn.1, hn.2.mono hK⟩
/-- An entry set in a directory's map, a count, the tree's count. -/
theorem TrS.added (h : TrS w1 tb g dom K) (hd : dom d) (he : g.ent d = some m) (hc : dom c) (hf : Fr [g.mb d] w1 w2) (hm : SMap Tryz.prog 9 w2 (g.mb d) (K + 1) (fun y => if y = x then some c else m y)) (hOK : Tr.OK (Tr.addG g d x c)) (hmany : g.many < 24) :
    TrS ((w2.setCell ⟨c, 1, none⟩ (.int .i64 (g.nms c + 1))).setCell ⟨tb, 1, none⟩ (.int .i64 (g.many + 1))) tb (Tr.addG g d x c) dom (K + 1) := by
  obtain ⟨t1, t2⟩ := h.neMap hd he
  have hct := h.neTop hc
  have hset : ∀ k, k ≠ c → k ≠ tb → ((w2.setCell ⟨c, 1, none⟩ (.int .i64 (g.nms c + 1))).setCell ⟨tb, 1, none⟩ (.int .i64 (g.many + 1))).heap[k]? = w2.heap[k]? := fun k h1 h2 => by
    rw [heap_setCell_other _ _ k _ (by simpa using h2), heap_setCell_other _ _ k _ (by simpa using h1)]
  have hold : ∀ k, k ≠ c → k ≠ tb → k < w1.heap.size → k ≠ g.mb d → ((w2.setCell ⟨c, 1, none⟩ (.int .i64 (g.nms c + 1))).setCell ⟨tb, 1, none⟩ (.int .i64 (g.many + 1))).heap[k]? = w1.heap[k]? := fun k h1 h2 h3 h4 => (hset k h1 h2).trans (hf.block k h3 (by simpa using h4))
  refine ⟨?_, fun b hb => ?_, h.rootD, fun d' x' c' hd' hk => ?_, fun b b' hb hb' hs hs' e => ?_, hOK, ?_, fun b hb => ?_⟩
  · have h1 := hf.get h.top (by simpa using t1)
    have h2 : (w2.setCell ⟨c, 1, none⟩ (.int .i64 (g.nms c + 1))).heap[tb]? = some (.cells #[.pointer (some ⟨g.root, 0, none⟩), .int .i64 g.many] 58 (0, 0)) := by
      rw [heap_setCell_other _ _ tb _ (by simpa using hct.symm)]; exact h1
    exact set_block h2 _
  · -- the node's block
    have hbt := h.neTop hb
    have hblk : ∀ v, w1.heap[b]? = some (.cells #[v, .int .i64 (g.nms b)] 56 (0, 0)) → ((w2.setCell ⟨c, 1, none⟩ (.int .i64 (g.nms c + 1))).setCell ⟨tb, 1, none⟩ (.int .i64 (g.many + 1))).heap[b]? = some (.cells #[v, .int .i64 ((Tr.addG g d x c).nms b)] 56 (0, 0)) := fun v hv => by
      have hv2 := hf.get hv (by simpa using t2 b hb)
      rw [heap_setCell_other _ _ b _ (by simpa using hbt)]
      show _ = some (Obj.cells #[v, .int .i64 (if b = c then g.nms c + 1 else g.nms b)] 56 (0, 0))
      by_cases e : b = c
      · subst e
        rw [if_pos rfl]
        exact set_block hv2 _
      · rw [if_neg e, heap_setCell_other _ _ b _ (by simpa using e)]
        exact hv2
    have hn := h.node b hb
    cases hb0 : g.ent b with
    | none =>
      have he' : (Tr.addG g d x c).ent b = none := by
        rw [Tr.addG_ent, Tr.setE_ne (fun e => by rw [e, he] at hb0; cases hb0)]; exact hb0
      unfold NodeIn
      rw [he']
      exact hblk _ (hn.file hb0)
    | some m0 =>
      obtain ⟨q1, q2⟩ := hn.dir hb0
      have hmbc : g.mb b ≠ c := fun e => by
        obtain ⟨es, clock, ho⟩ := q2.obj
        obtain ⟨v, hv⟩ := (h.node c hc).obj
        rw [e, hv] at ho
        cases ho
      have hmbt : g.mb b ≠ tb := fun e => by
        obtain ⟨es, clock, ho⟩ := q2.obj
        rw [e, h.top] at ho
        cases ho
      by_cases e : b = d
      · subst e
        have he' : (Tr.addG g b x c).ent b = some (fun y => if y = x then some c else m y) := by rw [Tr.addG_ent, Tr.setE_d he]
        unfold NodeIn
        rw [he']
        exact ⟨hblk _ q1, hm.keep (hset _ hmbc hmbt)⟩
      · have he' : (Tr.addG g d x c).ent b = some m0 := by rw [Tr.addG_ent, Tr.setE_ne e]; exact hb0
        unfold NodeIn
        rw [he']
        have hne : g.mb b ≠ g.mb d := fun e2 => e (h.mbs b d hb hd (by rw [hb0]; rfl) (by rw [he]; rfl) e2)
        exact ⟨hblk _ q1, (q2.keep (hold _ hmbc hmbt q2.lt hne)).mono (Nat.le_succ _)⟩
  · have hk : Tr.kid (Tr.setE g d x (some c)) d' x' = some c' := hk
    by_cases e : d' = d
    · subst e
      rw [Tr.kid_set (by rw [he]; rfl)] at hk
      by_cases e2 : x' = x
      · rw [if_pos e2] at hk
        have hk := Option.some.inj hk
        rw [← hk]; exact hc
      · rw [if_neg e2] at hk
        exact h.closed _ x' c' hd' hk
    · rw [Tr.kid_set_ne e] at hk
      exact h.closed d' x' c' hd' hk
  · have hs : ((Tr.setE g d x (some c)).ent b).isSome = true := hs
    have hs' : ((Tr.setE g d x (some c)).ent b').isSome = true := hs'
    rw [Tr.setE_some] at hs hs'
    exact h.mbs b b' hb hb' hs hs' e
  · show 0 ≤ g.many + 1 ∧ g.many + 1 ≤ 24
    have := h.many
    omega
  · show -((K + 1 : Nat) : Int) ≤ (if b = c then g.nms c + 1 else g.nms b) ∧ (if b = c then g.nms c + 1 else g.nms b) ≤ ((K + 1 : Nat) : Int)
    have h1 := h.nb b hb
    have h2 := h.nb c hc
    by_cases e : b = c
    · rw [if_pos e]; omega
    · rw [if_neg e]; omega
end
theorem fndV_err (c : Int) : fndV (.err c) = .tuple #[.pointer none, errV c] := rfl
/-- What is at a path. -/
def atV (g : Tr.G) (s : List UInt8) : Tr.Rs := if (Pa.parts s).2 = 0 then Tr.fnd g g.root (Pa.parts s).1 else .err (Pa.parts s).2
set_option maxRecDepth 100000 in
set_option maxHeartbeats 2000000 in
theorem tr_at (w : World) (tb : Nat) (g : Tr.G) (dom : Nat → Prop) (K : Nat) (s : ByteArray) (hS : TrS w tb g dom K) :
    Calls Tryz.prog 36 #[.pointer (some ⟨tb, 0, none⟩), .string s] w fun e w' => e = .returned (fndV (atV g s.data.toList)) ∧ Fr [] w w' := by
  have HS := Lib.hid hS
  have HPA := Lib.hid (pa_Parts s w)
  obtain ⟨st, hst⟩ : ∃ x, s.data.toList = x := ⟨_, rfl⟩
  rw [hst] at HPA ⊢
  clear hS hst
  have HV : Hid (atV g st = if (Pa.parts st).2 = 0 then Tr.fnd g g.root (Pa.parts st).1 else .err (Pa.parts st).2) := rfl
  have HNM : Hid ((Pa.parts st).2 = 0 → ∀ p ∈ (Pa.parts st).1, Pa.IsName p) := fun h0 => Pa.parts_names (s := st) (by rw [← h0])
  unfold PaP at HPA
  generalize (Pa.parts st).1 = l at *
  generalize (Pa.parts st).2 = c at *
  by_cases hc : c = 0
  · subst hc
    have hv := HV.out
    rw [if_pos rfl] at hv
    have HR := Lib.hid hv
    clear hv
    have HFE := Lib.hid (fun c (h : Tr.fnd g g.root l = .err c) => Tr.fnd_err_ne l g.root c h)
    go_enter Tryz.func36, Tryz.ntmps36
    go_upto_region 4 with (go_at_call 49; (with_reducible refine useC HPA.out ?_); rintro e w1 ⟨v, gv, rfl, hv, hf⟩; have HF := Lib.hid hf; have HI := Lib.hid (tr_find w1 tb g dom K v gv l (HS.out.step hf) hv (HNM.out rfl)); clear hv hf; rw [show errV 0 = .nilIface from rfl])
    cases hfn : Tr.fnd g g.root l with
    | ok d =>
      rw [hfn] at HI HR
      unfold fndV at HI
      clear hfn HFE
      go_wp2_with (go_at_call 50; (with_reducible refine useC HI.out ?_); rintro e w1 ⟨rfl, rfl⟩)
      go_ret2
      exact ⟨by rw [HR.out]; rfl, HF.out⟩
    | err c =>
      rw [hfn] at HI HR
      have hev := errV_no (HFE.out c hfn)
      have HNE := Lib.hid (HFE.out c hfn)
      unfold fndV at HI
      clear hfn HFE
      go_wp2_with (go_at_call 50; (with_reducible refine useC HI.out ?_); rintro e w1 ⟨rfl, rfl⟩)
      go_ret2
      exact ⟨by rw [HR.out, fndV_err, errV_no HNE.out]; rfl, HF.out⟩
  · have hv := HV.out
    rw [if_neg hc] at hv
    have HR := Lib.hid hv
    have hev := errV_no hc
    have HC := Lib.hid hc
    clear hv HV HNM hc
    go_enter Tryz.func36, Tryz.ntmps36
    go_wp2_with (go_at_call 49; (with_reducible refine useC HPA.out ?_); rintro e w1 ⟨v, gv, rfl, hv, hf⟩; have HF := Lib.hid hf; clear hv hf; rw [hev]; clear hev)
    go_ret2
    exact ⟨by rw [HR.out, fndV_err, errV_no HC.out]; rfl, HF.out⟩
/-- What add does. -/
def AddA (tb : Nat) (g : Tr.G) (dom : Nat → Prop) (K : Nat) (s : List UInt8) (c : Nat) (w : World) (e : Ending) (w' : World) : Prop :=
  e = .returned (errV (Tr.addErr g s)) ∧ FrP (TrP tb g dom) w w' ∧ ((Tr.addErr g s = 0 ∧ ∃ d x, Tr.spot g s = .at_ d x ∧ TrS w' tb (Tr.addG g d x c) dom (K + 1)) ∨ (Tr.addErr g s ≠ 0 ∧ Fr [] w w'))
set_option maxRecDepth 100000 in
set_option maxHeartbeats 4000000 in
theorem tr_add (w : World) (tb : Nat) (g : Tr.G) (dom : Nat → Prop) (K c : Nat) (s : ByteArray) (hS : TrS w tb g dom K) (hc : dom c) (hK : K ≤ 100000) (hOK : ∀ d x, Tr.spot g s.data.toList = .at_ d x → Tr.kid g d x = none → Tr.OK (Tr.addG g d x c)) :
    Calls Tryz.prog 41 #[.pointer (some ⟨tb, 0, none⟩), .string s, .pointer (some ⟨c, 0, none⟩)] w (AddA tb g dom K s.data.toList c w) := by
  have HS := Lib.hid hS
  have HSP := Lib.hid (tr_spot w tb g dom K s hS)
  have HOK := Lib.hid hOK
  have HC := Lib.hid hc
  obtain ⟨st, hst⟩ : ∃ x, s.data.toList = x := ⟨_, rfl⟩
  rw [hst] at HSP HOK ⊢
  clear hS hOK hc hst
  unfold SpA at HSP
  go_enter Tryz.func41, Tryz.ntmps41
  cases hsp : Tr.spot g st with
  | err c0 =>
    rw [hsp] at HSP
    have HA : Hid (Tr.addErr g st = c0) := by show _ = _; unfold Tr.addErr; rw [hsp]
    clear hsp
    go_wp2_with (go_at_call 42; (with_reducible refine useC HSP.out ?_); rintro e w1 ⟨hf, o, t, h0, rfl⟩; have HF := Lib.hid hf; have HN := Lib.hid h0; have hev := errV_no h0; clear hf h0; rw [hev]; clear hev)
    go_ret
    exact ⟨by rw [HA.out, errV_no HN.out]; rfl, (FrP.refl _ _).step HF.out (by simp), .inr ⟨by rw [HA.out]; exact HN.out, HF.out⟩⟩
  | at_ d x =>
    rw [hsp] at HSP
    have HSPE := Lib.hid hsp
    have HA : Hid (Tr.addErr g st = if (Tr.kid g d x).isSome = true then 6 else if g.many = 24 then 4 else 0) := by show _ = _; unfold Tr.addErr; rw [hsp]
    obtain ⟨P, hpt, hfd, hds⟩ := Tr.spot_at hsp
    have hdd := HS.out.found P g.root d HS.out.rootD hfd
    obtain ⟨m, hm⟩ := Option.isSome_iff_exists.1 hds
    have hx4 := (Pa.parts_names hpt x (by simp)).2.1
    have HX : Hid (x.length ≤ maxLen) := by show _ ≤ _; unfold maxLen; omega
    have HM := Lib.hid hm
    have HDD := Lib.hid hdd
    clear hsp hpt hfd hds hx4
    go_upto_region 4 with (go_at_call 42; (with_reducible refine useC HSP.out ?_); rintro e w1 ⟨hf, rfl⟩; have HF := Lib.hid hf; clear hf)
    have HS1 := Lib.hid (HS.out.step HF.out)
    obtain ⟨h0, hmap⟩ := (HS1.out.node d hdd).dir hm
    have n0 : w1.cell? ⟨d, 0, none⟩ = some (.map (some (g.mb d))) := by rw [cell_of_row _ _ _ _ _ _ h0]; rfl
    have HMAP := Lib.hid hmap
    have HKD : Hid (Tr.kid g d x = m x) := Tr.kid_of hm x
    clear h0 hmap hdd hm
    cases hmx : m x with
    | some c1 =>
      have HA2 : Hid (Tr.addErr g st = 6) := by show _ = _; rw [HA.out, HKD.out, hmx]; rfl
      go_wp2_with (at_lookup; refine wpList_slook rfl _ _ rfl HMAP.out Tryz.underlying9 Tryz.underlying54 (zero_nodeP _) rfl x rfl HX.out (.pointer (some ⟨c1, 0, none⟩)) (by rw [hmx]; rfl) ?_)
      go_ret
      exact ⟨by rw [HA2.out]; rfl, (FrP.refl _ _).step HF.out (by simp), .inr ⟨by rw [HA2.out]; decide, HF.out⟩⟩
    | none =>
      have t1 : w1.cell? ⟨tb, 1, none⟩ = some (.int .i64 g.many) := by rw [cell_of_row _ _ _ _ _ _ HS1.out.top]; rfl
      by_cases h24 : g.many = 24
      · have hb24 : (g.many == 24) = true := beq_iff_eq.2 h24
        have HA2 : Hid (Tr.addErr g st = 4) := by show _ = _; rw [HA.out, HKD.out, hmx, if_neg (by simp), if_pos h24]
        clear h24
        go_wp2_with (at_lookup; refine wpList_slook rfl _ _ rfl HMAP.out Tryz.underlying9 Tryz.underlying54 (zero_nodeP _) rfl x rfl HX.out (.pointer none) (by rw [hmx]; rfl) ?_)
        go_ret
        exact ⟨by rw [HA2.out]; rfl, (FrP.refl _ _).step HF.out (by simp), .inr ⟨by rw [HA2.out]; decide, HF.out⟩⟩
      · have hb24 : (g.many == 24) = false := beq_eq_false_iff_ne.2 h24
        have HA2 : Hid (Tr.addErr g st = 0) := by show _ = _; rw [HA.out, HKD.out, hmx, if_neg (by simp), if_neg h24]
        have HOK2 := Lib.hid (HOK.out d x HSPE.out (by rw [HKD.out, hmx]))
        have hmany := HS1.out.many
        have hnb := HS1.out.nb c HC.out
        have HLT : Hid (g.many < 24) := by show _ < _; omega
        have mw : IntKind.i64.wrap (g.many + 1) = g.many + 1 := by rw [IntKind.wrap_i64]; omega
        have cw : IntKind.i64.wrap (g.nms c + 1) = g.nms c + 1 := by rw [IntKind.wrap_i64]; omega
        have HMX := Lib.hid hmx
        clear h24 hmany hnb
        obtain ⟨vc, hvc⟩ := (HS1.out.node c HC.out).obj
        have HVC := Lib.hid hvc
        have HNE := Lib.hid (HS1.out.neMap HDD.out HM.out)
        have HNT := Lib.hid (HS1.out.neTop HC.out)
        clear hvc
        go_upto_region 9 with (first
          | (at_lookup; refine wpList_slook rfl _ _ rfl HMAP.out Tryz.underlying9 Tryz.underlying54 (zero_nodeP _) rfl x rfl HX.out (.pointer none) (by rw [HMX.out]; rfl) ?_)
          | (refine wpList_supdate rfl _ _ _ rfl HMAP.out Tryz.underlying9 Tryz.underlying54 (by unfold maxLen; omega) rfl x rfl c rfl HX.out ?_; intro w2 hm2 hf2; have HM2 := Lib.hid hm2; have HF2 := Lib.hid hf2; clear hm2 hf2))
        have hc2 := HF2.out.get HVC.out (by simpa using HNE.out.2 c HC.out)
        have ht2 := HF2.out.get HS1.out.top (by simpa using HNE.out.1)
        have k1 : w2.cell? ⟨c, 1, none⟩ = some (.int .i64 (g.nms c)) := by rw [cell_of_row _ _ _ _ _ _ hc2]; rfl
        have kf : w2.frozen? ⟨c, 1, none⟩ = false := free_block hc2 1 none
        have ht3 : (w2.setCell ⟨c, 1, none⟩ (.int .i64 (g.nms c + 1))).heap[tb]? = some (.cells #[.pointer (some ⟨g.root, 0, none⟩), .int .i64 g.many] 58 (0, 0)) := by rw [heap_setCell_other _ _ tb _ (by simpa using HNT.out.symm)]; exact ht2
        have k3 : (w2.setCell ⟨c, 1, none⟩ (.int .i64 (g.nms c + 1))).cell? ⟨tb, 1, none⟩ = some (.int .i64 g.many) := by rw [cell_of_row _ _ _ _ _ _ ht3]; rfl
        have kf3 : (w2.setCell ⟨c, 1, none⟩ (.int .i64 (g.nms c + 1))).frozen? ⟨tb, 1, none⟩ = false := free_block ht3 1 none
        have HADD := Lib.hid (HS1.out.added HDD.out HM.out HC.out HF2.out HM2.out HOK2.out HLT.out)
        have HFR : Hid (FrP (TrP tb g dom) w ((w2.setCell ⟨c, 1, none⟩ (.int .i64 (g.nms c + 1))).setCell ⟨tb, 1, none⟩ (.int .i64 (g.many + 1)))) := by
          have f1 : FrP (TrP tb g dom) w w1 := (FrP.refl _ _).step HF.out (by simp)
          have f2 := f1.step HF2.out (fun y hy => .inl (by simp only [List.mem_singleton] at hy; subst hy; exact .inr (.inr ⟨d, HDD.out, by rw [HM.out]; rfl, rfl⟩)))
          have f3 := f2.step ((Fr.refl [c] w2).setCell (p := ⟨c, 1, none⟩) (.inl (by simp)) (.int .i64 (g.nms c + 1))) (fun y hy => .inl (by simp only [List.mem_singleton] at hy; subst hy; exact .inr (.inl HC.out)))
          exact f3.step ((Fr.refl [tb] _).setCell (p := ⟨tb, 1, none⟩) (.inl (by simp)) (.int .i64 (g.many + 1))) (fun y hy => .inl (by simp only [List.mem_singleton] at hy; subst hy; exact .inl rfl))
        clear hc2 ht2 ht3
        go_wp2
        go_ret
        exact ⟨by rw [HA2.out]; rfl, HFR.out, .inl ⟨HA2.out, d, x, HSPE.out, HADD.out⟩⟩
end Go.Proofs.YtnglhfeialomgaaGreatDoor
/- Trees of directories: a node that is made, in plain Lean. -/
namespace Go.Proofs.YtnglhfeialomgaaGreatDoor
namespace Tr

/-- A node that nothing leads to: a directory (with its map's block), or a file. -/
def newN (g : G) (c : Nat) (o : Option Nat) : G := { g with ent := fun b => if b = c then o.map (fun _ _ => none) else g.ent b, mb := fun b => if b = c then o.getD 0 else g.mb b, nms := fun b => if b = c then 0 else g.nms b }
section
variable {g : G} {c b : Nat} {o : Option Nat} {dom : Nat → Prop}
theorem newN_ne (h : b ≠ c) : (newN g c o).ent b = g.ent b := if_neg h
theorem newN_at : (newN g c o).ent c = o.map (fun _ _ => none) := if_pos rfl
theorem newN_leaf : Leaf (newN g c o) c := fun x => by
  unfold kid
  rw [newN_at]
  cases o <;> rfl
theorem kid_newN (h : b ≠ c) (x : Nme) : kid (newN g c o) b x = kid g b x := by unfold kid; rw [newN_ne h]
/-- What can be found from a node of dom is of dom. -/
theorem fnd_dom (hcl : ∀ d x e, dom d → kid g d x = some e → dom e) : ∀ (p : List Nme) (n b : Nat), dom n → fnd g n p = .ok b → dom b
  | [], n, b, hn, hf => by injection hf with hf; rw [← hf]; exact hn
  | x :: r, n, b, hn, hf => by
    obtain ⟨d, m, e, hd, hm, hx, hr⟩ := fnd_front (p := []) hf
    injection hd with hd
    subst hd
    exact fnd_dom hcl r e b (hcl _ x e hn (by rw [kid_of hm]; exact hx)) hr
theorem fnd_newN (hcl : ∀ d x e, dom d → kid g d x = some e → dom e) (hc : ¬ dom c) : ∀ (p : List Nme) (n : Nat), dom n → fnd (newN g c o) n p = fnd g n p
  | [], n, _ => rfl
  | x :: r, n, hn => by
    have hne : n ≠ c := fun e => hc (e ▸ hn)
    rw [fnd_cons, fnd_cons, newN_ne hne]
    cases hm : g.ent n with
    | none => rfl
    | some m =>
      show (match m x with | none => Rs.err 5 | some e => fnd (newN g c o) e r) = match m x with | none => Rs.err 5 | some e => fnd g e r
      cases hx : m x with
      | none => rfl
      | some e => exact fnd_newN hcl hc r e (hcl n x e hn (by rw [kid_of hm]; exact hx))
theorem OK.newN (h : OK g) (hr : dom g.root) (hcl : ∀ d x e, dom d → kid g d x = some e → dom e) (hc : ¬ dom c) : OK (newN g c o) := by
  have hf := fun p => fnd_newN (o := o) hcl hc p g.root hr
  have hroot : (Tr.newN g c o).root = g.root := rfl
  have hne : ∀ b, dom b → b ≠ c := fun b hb e => hc (e ▸ hb)
  refine ⟨by rw [hroot, newN_ne (hne _ hr)]; exact h.root, fun p b hb => ?_, fun p q b hb hq hs => ?_, fun d m x e hd hx => ?_⟩
  · rw [hroot, hf] at hb; exact h.short p b hb
  · rw [hroot, hf] at hb hq
    rw [newN_ne (hne b (fnd_dom hcl p g.root b hr hb))] at hs
    exact h.one p q b hb hq hs
  · by_cases e1 : d = c
    · subst e1
      rw [newN_at] at hd
      cases o with
      | none => cases hd
      | some k =>
        have hd := Option.some.inj hd
        subst hd
        cases hx
    · rw [newN_ne e1] at hd
      exact h.name d m x e hd hx
theorem spot_newN (hr : dom g.root) (hcl : ∀ d x e, dom d → kid g d x = some e → dom e) (hc : ¬ dom c) (s : List UInt8) : spot (newN g c o) s = spot g s := by
  have hf := fun p => fnd_newN (o := o) hcl hc p g.root hr
  have hroot : (Tr.newN g c o).root = g.root := rfl
  unfold spot spotL
  rw [hroot, hf]
  cases hq : fnd g g.root (Pa.parts s).1.dropLast with
  | err e => rfl
  | ok d =>
    have hne : d ≠ c := fun e => hc (e ▸ fnd_dom hcl _ g.root d hr hq)
    show (if _ then (if _ then _ else if ((Tr.newN g c o).ent d).isSome = true then Sp.at_ d _ else Sp.err 3) else _) = _
    rw [newN_ne hne]
theorem fresh_newN (hr : dom g.root) (hcl : ∀ d x e, dom d → kid g d x = some e → dom e) (hc : ¬ dom c) (p : List Nme) : fnd (newN g c o) (newN g c o).root p ≠ .ok c := fun h => by
  have hroot : (Tr.newN g c o).root = g.root := rfl
  rw [hroot, fnd_newN hcl hc p g.root hr] at h
  exact hc (fnd_dom hcl p g.root c hr h)
/-- Nothing that is told turns. -/
theorem newN_same (hr : dom g.root) (hcl : ∀ d x e, dom d → kid g d x = some e → dom e) (hc : ¬ dom c) (p : List Nme) : fnd (newN g c o) (newN g c o).root p = fnd g g.root p := fnd_newN hcl hc p g.root hr
end
end Tr
end Go.Proofs.YtnglhfeialomgaaGreatDoor
