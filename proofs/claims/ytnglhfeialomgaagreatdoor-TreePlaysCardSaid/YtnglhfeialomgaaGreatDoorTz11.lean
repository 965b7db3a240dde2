/- Maps from texts to pointers: len. -/

import Derived.Test.YtnglhfeialomgaaGreatDoorTz02
import Derived.Test.YtnglhfeialomgaaGreatDoorTz03
import Derived.Test.YtnglhfeialomgaaGreatDoorTz10
namespace Go.Proofs.YtnglhfeialomgaaGreatDoor
open Go.RowKit Go.Maps
open Go.WideElems (rg)

section
variable {P : Program} {k e t : TypeId} {w : World} {b n : Nat} {m : Nm → Option Nat}
/-- 'len(m)'. -/
theorem SMap.len (h : SMap P k w b n m) (hk : P.underlying k = some .string) (ht : P.underlying t = some (.map k e)) : ∃ c : Nat, c ≤ n ∧ (c = 0 ↔ ∀ x, m x = none) ∧
    ∀ {ops : Array Oper} {rest : List Oper} {o : Oper} {a : Act} {Q : Exit → Act → World → Prop} (_ : o.guard = none) (mm : Operand) (_ : o.op = Op.call { callee := Callee.builtin Builtin.len, args := #[mm], argTypes := #[t] }) (_ : a.eval mm = .map (some b)) (_ : wpList P ops Q rest (a.put o.dst (.int .i64 c)) w), wpList P ops Q (o :: rest) a w := by
  obtain ⟨D, hD, hm⟩ := h
  refine ⟨Maps.size D, World.ownsMap.size_le hD, ⟨fun h0 x => ?_, fun h0 => ?_⟩, fun {ops rest o a Q} hg mm hop hmm hK => wpList_len_own w hg mm t hop k e ht ptrR b n D hmm hD hK⟩
  · obtain ⟨es, rfl⟩ := World.ownsMap.isMap hD
    have : es = [] := List.length_eq_zero_iff.1 h0
    subst this
    have h1 := hm.has x
    cases e : m x with
    | none => rfl
    | some y => rw [e] at h1; cases h1
  · obtain ⟨es, clock, hb, F, hs, rfl⟩ := hD
    rw [Maps.size_eq]
    refine List.length_eq_zero_iff.2 ?_
    cases hl : (es.toList.map (rg P k ptrR)).foldr DataW.insert [] with
    | nil => rfl
    | cons p r =>
      exfalso
      have hmem : p ∈ (es.toList.map (rg P k ptrR)).foldr DataW.insert [] := by rw [hl]; simp
      have hkey := Maps.fit_keys F p ((Go.WideShapes.sorted_perm _).mem_iff.1 hmem)
      obtain ⟨key, hkey⟩ := hkey
      obtain ⟨x, -, hx, -⟩ := Maps.keyOf_str hk hkey
      have h1 := hm.has x
      rw [h0 x, hl, Maps.has_eq, List.any_cons, hx] at h1
      simp [Lit.sameKey] at h1
end
end Go.Proofs.YtnglhfeialomgaaGreatDoor
/- Trees of directories: Drop. -/
namespace Go.Proofs.YtnglhfeialomgaaGreatDoor
open Go.RowKit

namespace Tr
def dropG (g : G) (d : Nat) (x : Nme) (c : Nat) : G := { setE g d x none with many := g.many - 1, nms := fun b => if b = c then g.nms c - 1 else g.nms b }
open Classical in
noncomputable def dropErr (g : G) (s : List UInt8) : Int := match spot g s with
  | .err e => e
  | .at_ d x => match kid g d x with
    | none => 5
    | some n => if Leaf g n then 0 else 7
theorem dropErr_at {g : G} {s : List UInt8} {d : Nat} {x : Nme} (h : spot g s = .at_ d x) : (kid g d x = none → dropErr g s = 5) ∧ ∀ n, kid g d x = some n → (Leaf g n → dropErr g s = 0) ∧ (¬ Leaf g n → dropErr g s = 7) := by
  refine ⟨fun h1 => ?_, fun n h1 => ⟨fun h2 => ?_, fun h2 => ?_⟩⟩
  · unfold dropErr; rw [h]; show (match kid g d x with | none => (5 : Int) | some n => _) = 5; rw [h1]
  · unfold dropErr; rw [h]; show (match kid g d x with | none => (5 : Int) | some n => _) = 0; rw [h1]; exact if_pos h2
  · unfold dropErr; rw [h]; show (match kid g d x with | none => (5 : Int) | some n => _) = 7; rw [h1]; exact if_neg h2
theorem Cn.pos {g : G} (hn : Cn g) {p : List Nme} {c : Nat} (h : p ≠ []) (hf : fnd g g.root p = .ok c) : 1 ≤ g.many := by
  have := hn.bound (ps := [p]) (by simp) (fun q hq => by
    simp only [List.mem_singleton] at hq
    subst hq
    exact ⟨h, c, hf⟩)
  simpa using this
theorem Cn.drop {g : G} {d c : Nat} {P : List Nme} {x : Nme} (hn : Cn g) (h : OK g) (hp : fnd g g.root P = .ok d) (hd : (g.ent d).isSome = true) (hk : kid g d x = some c) (hleaf : Leaf g c) : Cn (dropG g d x c) := by
  obtain ⟨l, hw, h3⟩ := hn
  obtain ⟨h1, h2⟩ := hw.drop h hp hd hk hleaf
  have hf := fnd_congr (g := setE g d x none) (g' := dropG g d x c) (fun b => rfl)
  have hmem : P ++ [x] ∈ l := (hw.2 _).2 ⟨by simp, c, by rw [fnd_app_ok hp, fnd_step hk]; rfl⟩
  refine ⟨_, ⟨h1, fun p => ?_⟩, ?_⟩
  · rw [h2, hf]; exact Iff.rfl
  · rw [List.length_erase_of_mem hmem]
    have := List.length_pos_of_mem hmem
    show ((l.length - 1 : Nat) : Int) = g.many - 1
    omega
end Tr
section
variable {w w1 w2 : World} {tb K d c : Nat} {g : Tr.G} {dom : Nat → Prop} {x : Tr.Nme} {m : Tr.Nme → Option Nat} {o : Option Nat} {v : Int}
/-- An entry of a directory's map is set, or struck. -/
theorem TrS.setMap (h : TrS w1 tb g dom K) (hd : dom d) (he : g.ent d = some m) (hc : ∀ c, o = some c → dom c) (hf : Fr [g.mb d] w1 w2) (hm : SMap Tryz.prog 9 w2 (g.mb d) (K + 1) (fun y => if y = x then o else m y)) (hOK : Tr.OK (Tr.setE g d x o)) :
    TrS w2 tb (Tr.setE g d x o) dom (K + 1) := by
  obtain ⟨t1, t2⟩ := h.neMap hd he
  have hold : ∀ k, k < w1.heap.size → k ≠ g.mb d → w2.heap[k]? = w1.heap[k]? := fun k h3 h4 => hf.block k h3 (by simpa using h4)
  refine ⟨hf.get h.top (by simpa using t1), fun b hb => ?_, h.rootD, fun d' x' c' hd' hk => ?_, fun b b' hb hb' hs hs' e => ?_, hOK, h.many, fun b hb => ?_⟩
  · have hblk : ∀ v, w1.heap[b]? = some (.cells #[v, .int .i64 (g.nms b)] 56 (0, 0)) → w2.heap[b]? = some (.cells #[v, .int .i64 (g.nms b)] 56 (0, 0)) := fun v hv => hf.get hv (by simpa using t2 b hb)
    have hn := h.node b hb
    cases hb0 : g.ent b with
    | none =>
      have he' : (Tr.setE g d x o).ent b = none := by
        rw [Tr.setE_ne (fun e => by rw [e, he] at hb0; cases hb0)]; exact hb0
      unfold NodeIn
      rw [he']
      exact hblk _ (hn.file hb0)
    | some m0 =>
      obtain ⟨q1, q2⟩ := hn.dir hb0
      by_cases e : b = d
      · subst e
        have he' : (Tr.setE g b x o).ent b = some (fun y => if y = x then o else m y) := Tr.setE_d he x o
        unfold NodeIn
        rw [he']
        exact ⟨hblk _ q1, hm⟩
      · have he' : (Tr.setE g d x o).ent b = some m0 := by rw [Tr.setE_ne e]; exact hb0
        unfold NodeIn
        rw [he']
        have hne : g.mb b ≠ g.mb d := fun e2 => e (h.mbs b d hb hd (by rw [hb0]; rfl) (by rw [he]; rfl) e2)
        exact ⟨hblk _ q1, (q2.keep (hold _ q2.lt hne)).mono (Nat.le_succ _)⟩
  · by_cases e : d' = d
    · subst e
      rw [Tr.kid_set (by rw [he]; rfl)] at hk
      by_cases e2 : x' = x
      · rw [if_pos e2] at hk
        exact hc _ hk
      · rw [if_neg e2] at hk
        exact h.closed _ x' c' hd' hk
    · rw [Tr.kid_set_ne e] at hk
      exact h.closed d' x' c' hd' hk
  · rw [Tr.setE_some] at hs hs'
    exact h.mbs b b' hb hb' hs hs' e
  · have := h.nb b hb
    show -((K + 1 : Nat) : Int) ≤ g.nms b ∧ g.nms b ≤ ((K + 1 : Nat) : Int)
    omega
/-- A node's count is set. -/
theorem TrS.setNms (h : TrS w tb g dom K) (hc : dom c) (hv : -(K : Int) ≤ v ∧ v ≤ K) : TrS (w.setCell ⟨c, 1, none⟩ (.int .i64 v)) tb { g with nms := fun b => if b = c then v else g.nms b } dom K := by
  have hct := h.neTop hc
  have hset : ∀ k, k ≠ c → (w.setCell ⟨c, 1, none⟩ (.int .i64 v)).heap[k]? = w.heap[k]? := fun k h1 => heap_setCell_other _ _ k _ (by simpa using h1)
  refine ⟨(hset tb hct.symm).trans h.top, fun b hb => ?_, h.rootD, h.closed, h.mbs, h.ok.congr rfl (fun b => rfl), h.many, fun b hb => ?_⟩
  · have hblk : ∀ u, w.heap[b]? = some (.cells #[u, .int .i64 (g.nms b)] 56 (0, 0)) → (w.setCell ⟨c, 1, none⟩ (.int .i64 v)).heap[b]? = some (.cells #[u, .int .i64 (if b = c then v else g.nms b)] 56 (0, 0)) := fun u hu => by
      by_cases e : b = c
      · subst e
        rw [if_pos rfl]
        exact set_block hu _
      · rw [if_neg e, hset b e]
        exact hu
    have hn := h.node b hb
    cases hb0 : g.ent b with
    | none =>
      unfold NodeIn
      show (match g.ent b with | none => _ | some m => _)
      rw [hb0]
      exact hblk _ (hn.file hb0)
    | some m0 =>
      obtain ⟨q1, q2⟩ := hn.dir hb0
      have hmbc : g.mb b ≠ c := fun e => by
        obtain ⟨es, clock, ho⟩ := q2.obj
        obtain ⟨u, hu⟩ := (h.node c hc).obj
        rw [e, hu] at ho
        cases ho
      unfold NodeIn
      show (match g.ent b with | none => _ | some m => _)
      rw [hb0]
      exact ⟨hblk _ q1, q2.keep (hset _ hmbc)⟩
  · show -(K : Int) ≤ (if b = c then v else g.nms b) ∧ (if b = c then v else g.nms b) ≤ K
    by_cases e : b = c
    · rw [if_pos e]; exact hv
    · rw [if_neg e]; exact h.nb b hb
/-- The tree's count is set. -/
theorem TrS.setMany (h : TrS w tb g dom K) (hv : 0 ≤ v ∧ v ≤ 24) : TrS (w.setCell ⟨tb, 1, none⟩ (.int .i64 v)) tb { g with many := v } dom K := by
  have hset : ∀ k, k ≠ tb → (w.setCell ⟨tb, 1, none⟩ (.int .i64 v)).heap[k]? = w.heap[k]? := fun k h1 => heap_setCell_other _ _ k _ (by simpa using h1)
  refine ⟨set_block h.top _, fun b hb => ?_, h.rootD, h.closed, h.mbs, h.ok.congr rfl (fun b => rfl), hv, h.nb⟩
  have hn := h.node b hb
  refine NodeIn.keep (g := { g with many := v }) (w := w) hn (hset b (h.neTop hb)) (fun hs => hset _ fun e => ?_)
  obtain ⟨m0, hm0⟩ := Option.isSome_iff_exists.1 hs
  obtain ⟨es, clock, ho⟩ := (hn.dir hm0).2.obj
  have e : g.mb b = tb := e
  rw [e, h.top] at ho
  cases ho
end
/-- What Drop does. -/
def DropA (tb : Nat) (g : Tr.G) (dom : Nat → Prop) (K : Nat) (s : List UInt8) (w : World) (e : Ending) (w' : World) : Prop :=
  e = .returned (errV (Tr.dropErr g s)) ∧ FrP (TrP tb g dom) w w' ∧ ((Tr.dropErr g s = 0 ∧ ∃ d x n, Tr.spot g s = .at_ d x ∧ Tr.kid g d x = some n ∧ Tr.Leaf g n ∧ TrS w' tb (Tr.dropG g d x n) dom (K + 1)) ∨ (Tr.dropErr g s ≠ 0 ∧ Fr [] w w'))
theorem ptrNil (w : World) (p : Option Addr) : (binOp .eql 53 (.pointer p) (.pointer none)).run Tryz.prog w = .ok (.bool p.isNone) w := by cases p <;> kernel_rfl
set_option maxRecDepth 100000 in
set_option maxHeartbeats 4000000 in
theorem tr_drop (w : World) (tb : Nat) (g : Tr.G) (dom : Nat → Prop) (K : Nat) (s : ByteArray) (hS : TrS w tb g dom K) (hK : K ≤ 100000) (hcn : Tr.Cn g) :
    Calls Tryz.prog 29 #[.pointer (some ⟨tb, 0, none⟩), .string s] w (DropA tb g dom K s.data.toList w) := by
  have HS := Lib.hid hS
  have HCN := Lib.hid hcn
  have HSP := Lib.hid (tr_spot w tb g dom K s hS)
  obtain ⟨st, hst⟩ : ∃ x, s.data.toList = x := ⟨_, rfl⟩
  rw [hst] at HSP ⊢
  clear hS hcn hst
  unfold SpA at HSP
  go_enter Tryz.func29, Tryz.ntmps29
  cases hsp : Tr.spot g st with
  | err c0 =>
    rw [hsp] at HSP
    have HA : Hid (Tr.dropErr g st = c0) := by show _ = _; unfold Tr.dropErr; rw [hsp]
    clear hsp
    go_wp2_with (go_at_call 42; (with_reducible refine useC HSP.out ?_); rintro e w1 ⟨hf, o, t, h0, rfl⟩; have HF := Lib.hid hf; have HN := Lib.hid h0; have hev := errV_no h0; clear hf h0; rw [hev]; clear hev)
    go_ret
    exact ⟨by rw [HA.out, errV_no HN.out]; rfl, (FrP.refl _ _).step HF.out (by simp), .inr ⟨by rw [HA.out]; exact HN.out, HF.out⟩⟩
  | at_ d x =>
    rw [hsp] at HSP
    have HSPE := Lib.hid hsp
    have HA := Lib.hid (Tr.dropErr_at hsp)
    obtain ⟨P, hpt, hfd, hds⟩ := Tr.spot_at hsp
    have hdd := HS.out.found P g.root d HS.out.rootD hfd
    obtain ⟨m, hm⟩ := Option.isSome_iff_exists.1 hds
    have hx4 := (Pa.parts_names hpt x (by simp)).2.1
    have HX : Hid (x.length ≤ maxLen) := by show _ ≤ _; unfold maxLen; omega
    have HM := Lib.hid hm
    have HDD := Lib.hid hdd
    have HFD := Lib.hid hfd
    clear hsp hpt hfd hds hx4
    go_upto_region 4 with (go_at_call 42; (with_reducible refine useC HSP.out ?_); rintro e w1 ⟨hf, rfl⟩; have HF := Lib.hid hf; clear hf)
    have HS1 := Lib.hid (HS.out.step HF.out)
    obtain ⟨h0, hmap⟩ := (HS1.out.node d hdd).dir hm
    have n0 : w1.cell? ⟨d, 0, none⟩ = some (.map (some (g.mb d))) := by rw [cell_of_row _ _ _ _ _ _ h0]; rfl
    have HMAP := Lib.hid hmap
    have HKD : Hid (Tr.kid g d x = m x) := Tr.kid_of hm x
    clear h0 hmap hdd hm
    cases hmx : m x with
    | none =>
      have HA2 : Hid (Tr.dropErr g st = 5) := HA.out.1 (by rw [HKD.out, hmx])
      go_wp2_with (at_lookup; refine wpList_slook rfl _ _ rfl HMAP.out Tryz.underlying9 Tryz.underlying54 (zero_nodeP _) rfl x rfl HX.out (.pointer none) (by rw [hmx]; rfl) ?_)
      go_ret
      exact ⟨by rw [HA2.out]; rfl, (FrP.refl _ _).step HF.out (by simp), .inr ⟨by rw [HA2.out]; decide, HF.out⟩⟩
    | some c =>
      have hkid : Tr.kid g d x = some c := by rw [HKD.out, hmx]
      have hcd := HS1.out.closed d x c HDD.out hkid
      have HC := Lib.hid hcd
      have HMX := Lib.hid hmx
      have HKID := Lib.hid hkid
      have HA1 := Lib.hid (HA.out.2 c hkid)
      have hnode := HS1.out.node c hcd
      -- len(n.entries)
      have hlen : ∃ k : Nat, ∃ mv, (k = 0 ↔ Tr.Leaf g c) ∧ k ≤ K ∧ w1.heap[c]? = some (.cells #[.map mv, .int .i64 (g.nms c)] 56 (0, 0)) ∧ ∀ (ops : Array Oper) (rest : List Oper) (o : Oper) (a : Act) (Q : Exit → Act → World → Prop) (_ : o.guard = none) (mm : Operand) (_ : o.op = Op.call { callee := Callee.builtin Builtin.len, args := #[mm], argTypes := #[54] }) (_ : a.eval mm = .map mv) (_ : wpList Tryz.prog ops Q rest (a.put o.dst (.int .i64 k)) w1), wpList Tryz.prog ops Q (o :: rest) a w1 := by
        cases he : g.ent c with
        | none =>
          have h0 := hnode.file he
          refine ⟨0, none, ⟨fun _ y => by unfold Tr.kid; rw [he]; rfl, fun _ => rfl⟩, Nat.zero_le _, h0, fun ops rest o a Q hg mm hop hmm hK => ?_⟩
          refine wpList_plain hg fun K' hK' => ?_
          unfold Oper.wp
          simp [execOp, hop, resolve, invoke, builtin, hmm, Maps.len_nil (P := Tryz.prog) (w := w1) Tryz.underlying54 o.type, Result.andThen]
          exact hK' _ _ hK
        | some mm =>
          obtain ⟨h0, hmap⟩ := hnode.dir he
          obtain ⟨k, hk1, hk2, hk3⟩ := hmap.len Tryz.underlying9 Tryz.underlying54
          exact ⟨k, some (g.mb c), ⟨fun h y => by rw [Tr.kid_of he]; exact hk2.1 h y, fun h => hk2.2 (fun y => by have := h y; rw [Tr.kid_of he] at this; exact this)⟩, hk1, h0, fun ops rest o a Q hg mm hop hmm hK => hk3 hg mm hop hmm hK⟩
      obtain ⟨k, mv, hk0, hkK, hcb, hlen⟩ := hlen
      have HLEN := Lib.hid hlen
      have c0 : w1.cell? ⟨c, 0, none⟩ = some (.map mv) := by rw [cell_of_row _ _ _ _ _ _ hcb]; rfl
      have HK0 := Lib.hid hk0
      have HCB := Lib.hid hcb
      clear hlen hk0 hcb hnode hkid hcd hmx
      by_cases hz : k = 0
      · have HLF : Hid (Tr.Leaf g c) := HK0.out.1 hz
        have HA2 : Hid (Tr.dropErr g st = 0) := HA1.out.1 HLF.out
        subst hz
        have HOK2 : Hid (Tr.OK (Tr.setE g d x none)) := HS1.out.ok.drop HFD.out (by rw [HM.out]; rfl)
        have hm1 := HCN.out.pos (p := P ++ [x]) (c := c) (by simp) (by rw [Tr.fnd_app_ok HFD.out, Tr.fnd_step HKID.out]; rfl)
        have hmany := HS1.out.many
        have hnb := HS1.out.nb c HC.out
        have HMANY : Hid (0 ≤ g.many - 1 ∧ g.many - 1 ≤ 24) := by show _ ∧ _; omega
        have HNB : Hid (-((K + 1 : Nat) : Int) ≤ g.nms c - 1 ∧ g.nms c - 1 ≤ ((K + 1 : Nat) : Int)) := by show _ ∧ _; omega
        have mw : IntKind.i64.wrap (g.many - 1) = g.many - 1 := by rw [IntKind.wrap_i64]; omega
        have cw : IntKind.i64.wrap (g.nms c - 1) = g.nms c - 1 := by rw [IntKind.wrap_i64]; omega
        have HNE := Lib.hid (HS1.out.neMap HDD.out HM.out)
        have HNT := Lib.hid (HS1.out.neTop HC.out)
        clear hm1 hmany hnb
        go_upto_region 10 with (first
          | (at_lookup; refine wpList_slook rfl _ _ rfl HMAP.out Tryz.underlying9 Tryz.underlying54 (zero_nodeP _) rfl x rfl HX.out (.pointer (some ⟨c, 0, none⟩)) (by rw [HMX.out]; rfl) ?_)
          | (refine wpList_sdelete rfl _ _ rfl HMAP.out Tryz.underlying9 Tryz.underlying54 rfl x rfl HX.out ?_; intro w2 hm2 hf2; have HM2 := Lib.hid hm2; have HF2 := Lib.hid hf2; clear hm2 hf2)
          | (refine HLEN.out _ _ _ _ _ rfl _ rfl rfl ?_))
        have hc2 := HF2.out.get HCB.out (by simpa using HNE.out.2 c HC.out)
        have ht2 := HF2.out.get HS1.out.top (by simpa using HNE.out.1)
        have k1 : w2.cell? ⟨c, 1, none⟩ = some (.int .i64 (g.nms c)) := by rw [cell_of_row _ _ _ _ _ _ hc2]; rfl
        have kf : w2.frozen? ⟨c, 1, none⟩ = false := free_block hc2 1 none
        have ht3 : (w2.setCell ⟨c, 1, none⟩ (.int .i64 (g.nms c - 1))).heap[tb]? = some (.cells #[.pointer (some ⟨g.root, 0, none⟩), .int .i64 g.many] 58 (0, 0)) := by rw [heap_setCell_other _ _ tb _ (by simpa using HNT.out.symm)]; exact ht2
        have k3 : (w2.setCell ⟨c, 1, none⟩ (.int .i64 (g.nms c - 1))).cell? ⟨tb, 1, none⟩ = some (.int .i64 g.many) := by rw [cell_of_row _ _ _ _ _ _ ht3]; rfl
        have kf3 : (w2.setCell ⟨c, 1, none⟩ (.int .i64 (g.nms c - 1))).frozen? ⟨tb, 1, none⟩ = false := free_block ht3 1 none
        have HDR : Hid (TrS ((w2.setCell ⟨c, 1, none⟩ (.int .i64 (g.nms c - 1))).setCell ⟨tb, 1, none⟩ (.int .i64 (g.many - 1))) tb (Tr.dropG g d x c) dom (K + 1)) :=
          ((HS1.out.setMap (o := none) HDD.out HM.out (fun c h => by cases h) HF2.out (HM2.out.mono (Nat.le_succ _)) HOK2.out).setNms (v := g.nms c - 1) HC.out HNB.out).setMany (v := g.many - 1) HMANY.out
        have HFR : Hid (FrP (TrP tb g dom) w ((w2.setCell ⟨c, 1, none⟩ (.int .i64 (g.nms c - 1))).setCell ⟨tb, 1, none⟩ (.int .i64 (g.many - 1)))) := by
          have f1 : FrP (TrP tb g dom) w w1 := (FrP.refl _ _).step HF.out (by simp)
          have f2 := f1.step HF2.out (fun y hy => .inl (by simp only [List.mem_singleton] at hy; subst hy; exact .inr (.inr ⟨d, HDD.out, by rw [HM.out]; rfl, rfl⟩)))
          have f3 := f2.step ((Fr.refl [c] w2).setCell (p := ⟨c, 1, none⟩) (.inl (by simp)) (.int .i64 (g.nms c - 1))) (fun y hy => .inl (by simp only [List.mem_singleton] at hy; subst hy; exact .inr (.inl HC.out)))
          exact f3.step ((Fr.refl [tb] _).setCell (p := ⟨tb, 1, none⟩) (.inl (by simp)) (.int .i64 (g.many - 1))) (fun y hy => .inl (by simp only [List.mem_singleton] at hy; subst hy; exact .inl rfl))
        clear hc2 ht2 ht3
        go_wp2
        go_ret
        exact ⟨by rw [HA2.out]; rfl, HFR.out, .inl ⟨HA2.out, d, x, c, HSPE.out, HKID.out, HLF.out, HDR.out⟩⟩
      · have HA2 : Hid (Tr.dropErr g st = 7) := HA1.out.2 (fun h => hz (HK0.out.2 h))
        have hk0 : (0 : Int) < k := by omega
        have HCBX := hk0
        clear hz hkK HA1 HK0 HCBX
        go_wp2_with (first
          | (at_lookup; refine wpList_slook rfl _ _ rfl HMAP.out Tryz.underlying9 Tryz.underlying54 (zero_nodeP _) rfl x rfl HX.out (.pointer (some ⟨c, 0, none⟩)) (by rw [HMX.out]; rfl) ?_)
          | (refine HLEN.out _ _ _ _ _ rfl _ rfl rfl ?_))
        go_ret
        exact ⟨by rw [HA2.out]; rfl, (FrP.refl _ _).step HF.out (by simp), .inr ⟨by rw [HA2.out]; decide, HF.out⟩⟩
end Go.Proofs.YtnglhfeialomgaaGreatDoor

/- Trees of directories: deep, within, depth. -/
namespace Go.Proofs.YtnglhfeialomgaaGreatDoor
open Go.RowKit Go.Shelf
attribute [local go_sem] Oper.semAt_some

/-- How many levels are below a node. -/
def Tr.IsDeep (g : Tr.G) (n dp : Nat) : Prop := (∀ r c, Tr.fnd g n r = .ok c → r.length ≤ dp) ∧ ∃ r c, Tr.fnd g n r = .ok c ∧ r.length = dp
def Tr.DeepOf (g : Tr.G) (n : Nat) (pre : List Nat) (dp : Nat) : Prop := (∀ y ∈ pre, ∀ r c, Tr.fnd g y r = .ok c → r.length + 1 ≤ dp) ∧ ∃ r c, Tr.fnd g n r = .ok c ∧ r.length = dp
theorem Tr.deep_is {g : Tr.G} {n : Nat} : ∀ k, (∀ r c, Tr.fnd g n r = .ok c → r.length ≤ k) → ∃ dp, dp ≤ k ∧ Tr.IsDeep g n dp
  | 0, h => ⟨0, Nat.le_refl _, h, [], n, rfl, rfl⟩
  | k + 1, h => by
    by_cases hh : ∃ r c, Tr.fnd g n r = .ok c ∧ r.length = k + 1
    · exact ⟨k + 1, Nat.le_refl _, h, hh⟩
    · obtain ⟨dp, h1, h2⟩ := Tr.deep_is k (fun r c hr => by
        have := h r c hr
        have : r.length ≠ k + 1 := fun e => hh ⟨r, c, hr, e⟩
        omega)
      exact ⟨dp, by omega, h2⟩
theorem Tr.IsDeep.eq {g : Tr.G} {n a b : Nat} (h : Tr.IsDeep g n a) (k : Tr.IsDeep g n b) : a = b := by
  obtain ⟨r, c, h1, h2⟩ := h.2
  obtain ⟨r', c', k1, k2⟩ := k.2
  have := h.1 r' c' k1
  have := k.1 r c h1
  omega
set_option maxRecDepth 100000 in
set_option maxHeartbeats 4000000 in
theorem tr_deep (tb : Nat) (g : Tr.G) (dom : Nat → Prop) (K : Nat) : ∀ (k : Nat) (w : World) (n : Nat), TrS w tb g dom K → dom n → Tr.IsDeep g n k → k ≤ 8 →
    Calls Tryz.prog 44 #[.pointer (some ⟨n, 0, none⟩)] w fun e w' => e = .returned (.int .i64 k) ∧ Fr [] w w' := by
  intro k
  induction k using Nat.strongRecOn with
  | ind k ih =>
  intro w n hS hd hkd hk8
  have hk := hkd.1
  have hnode := hS.node n hd
  obtain ⟨mb, m, hm0, hmb⟩ : ∃ (mb : Option Nat) (m : Nm → Option Nat), (w.heap[n]? = some (.cells #[.map mb, .int .i64 (g.nms n)] 56 (0, 0)) ∧ (∀ x, Tr.kid g n x = m x)) ∧ ((mb = none ∧ ∀ x, m x = none) ∨ ∃ b, mb = some b ∧ SMap Tryz.prog 9 w b K m) := by
    cases he : g.ent n with
    | none => exact ⟨none, fun _ => none, ⟨hnode.file he, fun x => by unfold Tr.kid; rw [he]; rfl⟩, .inl ⟨rfl, fun _ => rfl⟩⟩
    | some m => obtain ⟨h1, h2⟩ := hnode.dir he; exact ⟨_, m, ⟨h1, fun x => Tr.kid_of he x⟩, .inr ⟨_, rfl, h2⟩⟩
  have n0 : (w.alloc (.cells #[.int .i64 0] 3)).cell? ⟨n, 0, none⟩ = some (.map mb) := by rw [cell_of_row _ _ _ _ _ _ (((Fr.refl [] w).alloc _).get hm0.1 (by simp))]; rfl
  refine (callsIn_wide (n := 8)).1 ?_
  refine callsIn_of_wp_marks Tryz.func44 rfl trivial ?_ rfl
  simp only [Tryz.ntmps44, List.size_toArray, List.length_cons, List.length_nil, Nat.reduceAdd, Nat.reduceSub, Array.replicate_succ, Array.replicate_zero, List.push_toArray, List.append_toArray, List.nil_append, List.cons_append]
  have HS := Lib.hid hS
  have HMB := Lib.hid hmb
  have HM0 := Lib.hid hm0
  clear hS hmb hm0 hnode
  gi_wp2_with (refine ⟨trivial, ?_⟩; gi_at_call 58; refine (callsIn_wide.2 (tr_vals0 _ _)).mono ?_; rintro e w2 ⟨rfl, rfl⟩)
  -- the world where the loop begins
  have x0 := heap_alloc_new w (.cells #[.int .i64 0] 3)
  have f0 : Fr [] w (w.alloc (.cells #[.int .i64 0] 3)) := (Fr.refl _ _).alloc _
  have f1 : Fr [] (w.alloc (.cells #[.int .i64 0] 3)) ((w.alloc (.cells #[.int .i64 0] 3)).alloc (.cells #[.map mb] 54)) := (Fr.refl _ _).alloc _
  have x1 := heap_alloc_new (w.alloc (.cells #[.int .i64 0] 3)) (.cells #[.map mb] 54)
  have y0 := f1.get x0 (by simp)
  have fA := f0.trans f1
  have hsz : ((w.alloc (.cells #[.int .i64 0] 3)).alloc (.cells #[.map mb] 54)).heap.size = w.heap.size + 2 := by simp
  simp only [World.size_alloc] at x1
  obtain ⟨W0, hW0⟩ : ∃ W0, (w.alloc (.cells #[.int .i64 0] 3)).alloc (.cells #[.map mb] 54) = W0 := ⟨_, rfl⟩
  rw [hW0] at fA hsz y0 x1 ⊢
  clear x0 f0 f1 hW0 n0
  have hsl : W0.cell? ⟨w.heap.size + 1, 0, none⟩ = some (.map mb) := by rw [cell_of_row _ _ _ _ _ _ x1]; rfl
  have hseq : ∃ N, SeqStopsK Fence.wide 7 Tryz.prog 78 #[.pointer (some ⟨w.heap.size + 1, 0, none⟩)] (fun x : Kid m => #[.pointer (some ⟨x.1, 0, none⟩)]) KeepsWalks (AllKids m) (fun _ => True) N W0 := by
    rcases HMB.out with ⟨rfl, h0⟩ | ⟨b, rfl, hb⟩
    · exact tr_valsNil Fence.wide 7 trivial rfl _ m h0 W0 (by omega) hsl
    · exact tr_vals Fence.wide 7 trivial rfl (by decide) _ b K m W0 (by omega) hsl (hb.keep (fA.block b hb.lt (by simp)))
  obtain ⟨N, hseq⟩ := hseq
  -- a child's ways
  have hkid : ∀ x : Kid m, dom x.1 ∧ ∃ j, j < k ∧ Tr.IsDeep g x.1 j := fun ⟨c, x, hx⟩ => by
    have hkx : Tr.kid g n x = some c := (HM0.out.2 x).trans hx
    have hk1 := hk [x] c (by rw [Tr.fnd_step hkx]; rfl)
    simp only [List.length_singleton] at hk1
    obtain ⟨j, hj1, hj2⟩ := Tr.deep_is (g := g) (n := c) (k - 1) (fun r c' hr => by
      have := hk (x :: r) c' (by rw [Tr.fnd_step hkx]; exact hr)
      rw [List.length_cons] at this
      omega)
    exact ⟨HS.out.closed n x c hd hkx, j, by omega, hj2⟩
  have hup : ∀ (x : Kid m) (r : List Tr.Nme) (c' : Nat), Tr.fnd g x.1 r = .ok c' → ∃ r' c'', Tr.fnd g n r' = .ok c'' ∧ r'.length = r.length + 1 := fun ⟨c, x, hx⟩ r c' hr => ⟨x :: r, c', by rw [Tr.fnd_step ((HM0.out.2 x).trans hx)]; exact hr, by simp⟩
  have HUP := Lib.hid hup
  clear hup
  refine wpIn_rangeFunc_ownH rfl (by decide) (gf := 78) (lb := #[.pointer (some ⟨w.heap.size + 1, 0, none⟩)]) rfl trivial (enters_of Tryz.func78 (by kernel_rfl) rfl)
    hseq (fun h k => h.trans k) (fun W l o o' hl h1 h2 h3 => walksK_b (w := W0) W l o o' hl h1 h2 h3) (Below.refl _ _) (fun _ => rfl)
    (fun pre W => ∃ dp : Nat, W.heap[w.heap.size]? = some (.cells #[.int .i64 dp] 3 (0, 0)) ∧ Tr.DeepOf g n (pre.map (·.1)) dp ∧ Kq (w.heap.size + 2) [w.heap.size] W0 W)
    (fun _ _ _ => False)
    (fun s X Y row hs hg hr => by obtain ⟨dp, h1, h2, h3⟩ := hs; exact ⟨dp, CellsKept.of_grown hg hr _ _ h1 rfl, h2, h3.grown hg (fun r e => by have := (hr r e).1; omega) (by have := h3.size; omega)⟩)
    (fun _ _ _ _ _ hs _ _ => hs)
    ⟨0, y0, ⟨by simp, [], n, rfl, rfl⟩, Kq.refl _ _ _⟩
    (fun x a' W => a' = { tmps := #[Value.pointer (some { block := n, off := 0 }), undef, Value.int IntKind.i64 0, Value.pointer (some { block := w.heap.size, off := 0 }), Value.pointer (some ⟨x.1, 0, none⟩), Value.pointer (some { block := n, off := 0 }), Value.pointer (some { block := n, off := 0 }), Value.pointer (some { block := n, off := 0 }), Value.map mb, Value.func (Fn.func 78) #[] #[Value.pointer (some { block := w.heap.size + 1, off := 0 })], Value.pointer (some ⟨x.1, 0, none⟩), undef, undef, undef, undef, undef, undef], defers := [] })
    (fun x a' _ X Y row hs hg hr => hs)
    ?assign ?body ?done ?stop
  case assign =>
    rintro l pre x W K ⟨dp, hb, hD, hKI⟩ hK
    gi_wp2
    exact hK _ _ (KeepsFrom.refl _ _) (KeepsWalks.refl _) ⟨dp, hb, hD, hKI⟩ rfl
  case body =>
    rintro l pre x a' W hl ⟨r, hr⟩ ⟨dp, hb, hD, hKI⟩ rfl hlt
    obtain ⟨hdx, j, hj, hjk⟩ := hkid x
    have hfr : Fr [] w W := hKI.frOf fA (by omega) (by simp)
    have HI := Lib.hid (fun W' (h : Fr [] W W') => ih j hj W' x.1 (HS.out.step (hfr.trans h)) hdx hjk (by omega))
    have HJ := Lib.hid hjk
    have c0 : ∀ W', Fr [] W W' → W'.cell? ⟨w.heap.size, 0, none⟩ = some (.int .i64 dp) ∧ W'.frozen? ⟨w.heap.size, 0, none⟩ = false := fun W' h => ⟨by rw [cell_of_row _ _ _ _ _ _ (h.get hb (by simp))]; rfl, free_block (h.get hb (by simp)) 0 none⟩
    have C0 := Lib.hid c0
    have HB := Lib.hid hb
    have HKI := Lib.hid hKI
    have hdp : dp ≤ k := by obtain ⟨-, r, c, h1, h2⟩ := hD; rw [← h2]; exact hk r c h1
    have HD := Lib.hid hD
    have hmx : Tryz.prog.follows .mixedOrders = true := by kernel_rfl
    have hlx : l < W.heap.size := lt_of_heap hr
    have cw : IntKind.i64.wrap (1 + (j : Int)) = 1 + (j : Int) := by rw [IntKind.wrap_i64]; omega
    obtain ⟨c1, fz⟩ := c0 W (Fr.refl _ _)
    -- the round's end
    have hend : ∀ v : Nat, (v = max dp (j + 1)) → ∀ W', Fr [] W W' → Fr [w.heap.size] W (W'.setCell ⟨w.heap.size, 0, none⟩ (.int .i64 v)) ∧ (∃ dp' : Nat, (W'.setCell ⟨w.heap.size, 0, none⟩ (.int .i64 v)).heap[w.heap.size]? = some (.cells #[.int .i64 dp'] 3 (0, 0)) ∧ Tr.DeepOf g n ((pre ++ [x]).map (·.1)) dp' ∧ Kq (w.heap.size + 2) [w.heap.size] W0 (W'.setCell ⟨w.heap.size, 0, none⟩ (.int .i64 v))) := fun v hv W' hf => by
      have hF : Fr [w.heap.size] W (W'.setCell ⟨w.heap.size, 0, none⟩ (.int .i64 v)) := (hf.mono (by simp)).setCell (.inl (by simp)) _
      refine ⟨hF, v, set_block (hf.get HB.out (by simp)) _, ⟨fun y hy r c hr => ?_, ?_⟩, HKI.out.trans (Kq.of_fr hF (by have := HKI.out.size; omega))⟩
      · rw [List.map_append, List.mem_append] at hy
        rcases hy with hy | hy
        · have := HD.out.1 y hy r c hr; omega
        · simp only [List.map_cons, List.map_nil, List.mem_singleton] at hy
          subst hy
          have := HJ.out.1 r c hr
          omega
      · by_cases e : j + 1 ≤ dp
        · obtain ⟨r, c, h1, h2⟩ := HD.out.2
          exact ⟨r, c, h1, by omega⟩
        · obtain ⟨r, c, h1, h2⟩ := HJ.out.2
          obtain ⟨r', c', h3, h4⟩ := HUP.out x r c h1
          exact ⟨r', c', h3, by omega⟩
    have HE := Lib.hid hend
    clear ih hk hkid hseq hsl hKI hD c0 hjk y0 x1 hfr hend hb hkd
    have hmv : max (dp : Int) (1 + (j : Int)) = ((max dp (j + 1) : Nat) : Int) := by omega
    have HMV := Lib.hid hmv
    clear hmv
    gi_wp2
    gi_region_with_o (refine ⟨trivial, ?_⟩; gi_at_call 44; refine (CallsIn.inRound l (callsIn_wide.2 (HI.out W.drew (Fr.refl [] W).drew))).mono ?_; rintro e w' ⟨rfl, hfq⟩; obtain ⟨c2, fz2⟩ := C0.out _ ((Fr.refl [] W).drew.trans hfq))
    all_goals gi_wp2
    all_goals (rw [HMV.out])
    all_goals (obtain ⟨q1, q2⟩ := HE.out _ rfl w' ((Fr.refl [] W).drew.trans hfq))
    all_goals exact ⟨KeepsFrom.of_fr q1 (fun k hk o ho => by simp only [List.mem_singleton] at hk; subst hk; rw [HB.out] at ho; cases ho; rfl), KeepsWalks.of_fr q1 (fun k hk o ho => by simp only [List.mem_singleton] at hk; subst hk; rw [HB.out] at ho; cases ho; rfl), q2⟩
  case done =>
    rintro D ys W hD hall ⟨dp, hb, hDp, hKI⟩ hKD
    have c0 : W.cell? ⟨w.heap.size, 0, none⟩ = some (.int .i64 dp) := by rw [cell_of_row _ _ _ _ _ _ hb]; rfl
    clear ih hkid hseq hsl hk
    gi_wp2
    refine ⟨by simp, .inl ⟨_, _, rfl, run_takeDeferred hKD, ?_⟩⟩
    have hdk : dp = k := Tr.IsDeep.eq ⟨fun r c hr => ?_, hDp.2⟩ hkd
    refine ⟨_, results_tmp rfl _ _ _, by rw [hdk]; rfl, ?_⟩
    rotate_left
    · cases r with
      | nil => exact Nat.zero_le _
      | cons x r =>
        obtain ⟨d, m', e, h1, h2, h3, h4⟩ := Tr.fnd_front (p := []) hr
        injection h1 with h1
        subst h1
        have hkx : Tr.kid g n x = some e := by rw [Tr.kid_of h2]; exact h3
        have hx4 := (HS.out.ok.name n m' x e h2 h3).2.1
        obtain ⟨y, hy, rfl⟩ := hall x e (by unfold maxLen; omega) ((HM0.out.2 x).symm.trans hkx)
        exact hDp.1 y.1 (List.mem_map_of_mem hy) r c h4
    · have f := hKI.frOf fA (by omega) (by simp)
      exact ⟨f.os, f.tape, f.output, Nat.le_trans f.size (by simp), fun k hk hn => (World.putObj_heap_other (by omega)).trans (f.block k hk hn)⟩
  case stop =>
    rintro D k pre W _ _ h _
    exact h.elim
end Go.Proofs.YtnglhfeialomgaaGreatDoor
