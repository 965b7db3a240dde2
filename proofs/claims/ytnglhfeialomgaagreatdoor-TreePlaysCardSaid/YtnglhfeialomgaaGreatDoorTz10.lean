/- Trees of directories: New, Dir, File, Link, Names. -/

import Derived.Test.YtnglhfeialomgaaGreatDoorTz04
import Derived.Test.YtnglhfeialomgaaGreatDoorTz09
namespace Go.Proofs.YtnglhfeialomgaaGreatDoor
open Go.RowKit

namespace Tr
theorem spot_add_ok {g : G} (h : OK g) {s : List UInt8} {d c : Nat} {x : Nme} (hs : spot g s = .at_ d x) (hc : c ≠ d) (hl : Leaf g c) (hn : (g.ent c).isSome = true → ∀ p, fnd g g.root p ≠ .ok c) : OK (addG g d x c) := by
  obtain ⟨P, hpt, hf, hd⟩ := spot_at hs
  have h8 := (Pa.parts_ok hpt).2.2.2
  rw [List.length_append, List.length_singleton] at h8
  exact (h.add hf hd (Pa.parts_names hpt x (by simp)) h8 hc hl hn).congr rfl (fun b => rfl)
theorem spot_dom {g : G} {dom : Nat → Prop} (hr : dom g.root) (hcl : ∀ d x e, dom d → kid g d x = some e → dom e) {s : List UInt8} {d : Nat} {x : Nme} (hs : spot g s = .at_ d x) : dom d := by
  obtain ⟨P, -, hf, -⟩ := spot_at hs
  exact fnd_dom hcl P g.root d hr hf
theorem addErr_newN {g : G} {dom : Nat → Prop} {c : Nat} {o : Option Nat} (hr : dom g.root) (hcl : ∀ d x e, dom d → kid g d x = some e → dom e) (hc : ¬ dom c) (s : List UInt8) : addErr (newN g c o) s = addErr g s := by
  unfold addErr
  rw [spot_newN hr hcl hc]
  cases hs : spot g s with
  | err e => rfl
  | at_ d x =>
    have hne : d ≠ c := fun e => hc (e ▸ spot_dom hr hcl hs)
    show (if (kid (newN g c o) d x).isSome = true then _ else if g.many = 24 then _ else _) = _
    rw [kid_newN hne]
end Tr
section
variable {w w' : World} {tb K c : Nat} {g : Tr.G} {dom : Nat → Prop} {o : Option Nat}
/-- A node is made. -/
theorem TrS.fresh (h : TrS w tb g dom K) (hf : Fr [] w w') (hc : w.heap.size ≤ c) (hb : w'.heap[c]? = some (.cells #[.map o, .int .i64 0] 56 (0, 0))) (hm : ∀ k, o = some k → w.heap.size ≤ k ∧ SMap Tryz.prog 9 w' k K (fun _ => none)) : TrS w' tb (Tr.newN g c o) (fun b => dom b ∨ b = c) K ∧ ¬ dom c ∧ ∀ k, TrP tb (Tr.newN g c o) (fun b => dom b ∨ b = c) k → TrP tb g dom k ∨ w.heap.size ≤ k := by
  have hno : ¬ dom c := fun hd => by have := h.lt (.inr (.inl hd)); omega
  have hne : ∀ b, dom b → b ≠ c := fun b hb e => hno (e ▸ hb)
  have hs := h.step hf
  refine ⟨⟨hs.top, fun b hb' => ?_, .inl h.rootD, fun d x e hd hk => ?_, fun b b' hb1 hb2 h1 h2 e => ?_, h.ok.newN h.rootD h.closed hno, h.many, fun b hb' => ?_⟩, hno, fun k hk => ?_⟩
  · by_cases e : b = c
    · subst e
      unfold NodeIn
      rw [Tr.newN_at]
      have hn0 : (Tr.newN g b o).nms b = 0 := if_pos rfl
      cases o with
      | none => show w'.heap[b]? = _; rw [hn0]; exact hb
      | some k =>
        have hmb : (Tr.newN g b (some k)).mb b = k := if_pos rfl
        show w'.heap[b]? = _ ∧ SMap _ _ _ _ _ _
        rw [hn0, hmb]
        exact ⟨hb, (hm k rfl).2⟩
    · have hd := hb'.resolve_right e
      have hn := hs.node b hd
      have h1 : (Tr.newN g c o).mb b = g.mb b := if_neg e
      have h2 : (Tr.newN g c o).nms b = g.nms b := if_neg e
      unfold NodeIn at *
      rw [Tr.newN_ne e, h1, h2]
      exact hn
  · rcases hd with hd | rfl
    · rw [Tr.kid_newN (hne d hd)] at hk
      exact .inl (h.closed d x e hd hk)
    · rw [Tr.newN_leaf x] at hk
      cases hk
  · have hmbl : ∀ b, dom b → (g.ent b).isSome = true → g.mb b < w.heap.size := fun b hb hs => h.lt (.inr (.inr ⟨b, hb, hs, rfl⟩))
    have hnew : ∀ b, b = c → ((Tr.newN g c o).ent b).isSome = true → w.heap.size ≤ (Tr.newN g c o).mb b := fun b hb hs => by
      subst hb
      rw [Tr.newN_at] at hs
      cases o with
      | none => cases hs
      | some k => rw [show (Tr.newN g b (some k)).mb b = k from if_pos rfl]; exact (hm k rfl).1
    by_cases e1 : b = c
    · by_cases e2 : b' = c
      · rw [e1, e2]
      · have h3 := hnew b e1 h1
        have hd' := hb2.resolve_right e2
        rw [Tr.newN_ne e2] at h2
        have h4 := hmbl b' hd' h2
        rw [e, show (Tr.newN g c o).mb b' = g.mb b' from if_neg e2] at h3
        omega
    · have hd := hb1.resolve_right e1
      rw [Tr.newN_ne e1] at h1
      have h4 := hmbl b hd h1
      by_cases e2 : b' = c
      · have h3 := hnew b' e2 h2
        rw [← e, show (Tr.newN g c o).mb b = g.mb b from if_neg e1] at h3
        omega
      · have hd' := hb2.resolve_right e2
        rw [Tr.newN_ne e2] at h2
        rw [show (Tr.newN g c o).mb b = g.mb b from if_neg e1, show (Tr.newN g c o).mb b' = g.mb b' from if_neg e2] at e
        exact h.mbs b b' hd hd' h1 h2 e
  · by_cases e : b = c
    · rw [show (Tr.newN g c o).nms b = 0 from if_pos e]; omega
    · rw [show (Tr.newN g c o).nms b = g.nms b from if_neg e]
      exact h.nb b (hb'.resolve_right e)
  · rcases hk with rfl | (hk | rfl) | ⟨b, hb1, hs1, rfl⟩
    · exact .inl (.inl rfl)
    · exact .inl (.inr (.inl hk))
    · exact .inr hc
    · by_cases e : b = c
      · subst e
        rw [Tr.newN_at] at hs1
        cases o with
        | none => cases hs1
        | some k => rw [show (Tr.newN g b (some k)).mb b = k from if_pos rfl]; exact .inr (hm k rfl).1
      · rw [Tr.newN_ne e] at hs1
        rw [show (Tr.newN g c o).mb b = g.mb b from if_neg e]
        exact .inl (.inr (.inr ⟨b, hb1.resolve_right e, hs1, rfl⟩))
end
theorem mapNilN (w : World) (p : Option Nat) : (binOp .neq 54 (.map p) (.map none)).run Tryz.prog w = .ok (.bool (!p.isNone)) w := run_neq_map_nil w _ _ _ p Tryz.underlying54
/-- What Dir and File do. -/
def MakA (tb : Nat) (g : Tr.G) (dom : Nat → Prop) (K : Nat) (s : List UInt8) (dir : Bool) (w : World) (e : Ending) (w' : World) : Prop :=
  e = .returned (errV (Tr.addErr g s)) ∧ FrP (TrP tb g dom) w w' ∧ ∃ c o, w.heap.size ≤ c ∧ Option.isSome o = dir ∧ ¬ dom c ∧ (∀ k, TrP tb (Tr.newN g c o) (fun b => dom b ∨ b = c) k → TrP tb g dom k ∨ w.heap.size ≤ k) ∧
    ((Tr.addErr g s = 0 ∧ ∃ d x, Tr.spot g s = .at_ d x ∧ TrS w' tb (Tr.addG (Tr.newN g c o) d x c) (fun b => dom b ∨ b = c) (K + 1)) ∨ (Tr.addErr g s ≠ 0 ∧ TrS w' tb (Tr.newN g c o) (fun b => dom b ∨ b = c) K))
/-- add, of a node that was just made. -/
theorem tr_addNew (w w1 : World) (tb : Nat) (g : Tr.G) (dom : Nat → Prop) (K c : Nat) (o : Option Nat) (s : ByteArray) (hS : TrS w tb g dom K) (hK : K ≤ 100000) (hf : Fr [] w w1) (hc : w.heap.size ≤ c) (hb : w1.heap[c]? = some (.cells #[.map o, .int .i64 0] 56 (0, 0))) (hm : ∀ k, o = some k → w.heap.size ≤ k ∧ SMap Tryz.prog 9 w1 k K (fun _ => none)) :
    Calls Tryz.prog 41 #[.pointer (some ⟨tb, 0, none⟩), .string s, .pointer (some ⟨c, 0, none⟩)] w1 (MakA tb g dom K s.data.toList (Option.isSome o) w) := by
  obtain ⟨h1, h2, h3⟩ := hS.fresh hf hc hb hm
  have hsp := Tr.spot_newN (o := o) hS.rootD hS.closed h2 s.data.toList
  have hae := Tr.addErr_newN (o := o) hS.rootD hS.closed h2 s.data.toList
  refine (tr_add w1 tb (Tr.newN g c o) _ K c s h1 (.inr rfl) hK (fun d x hs _ => ?_)).mono fun e w' ⟨he, hfr, hcase⟩ => ?_
  · rw [hsp] at hs
    have hne : c ≠ d := fun e => h2 (e ▸ Tr.spot_dom hS.rootD hS.closed hs)
    exact Tr.spot_add_ok h1.ok (s := s.data.toList) (by rw [hsp]; exact hs) hne Tr.newN_leaf (fun _ => Tr.fresh_newN hS.rootD hS.closed h2)
  · rw [hae] at he hcase
    rw [hsp] at hcase
    refine ⟨he, ((FrP.refl _ w).step hf (by simp)).trans hfr h3, c, o, hc, rfl, h2, h3, ?_⟩
    rcases hcase with ⟨a, b⟩ | ⟨a, b⟩
    · exact .inl ⟨a, b⟩
    · exact .inr ⟨a, h1.step b⟩
set_option maxRecDepth 100000 in
set_option maxHeartbeats 2000000 in
theorem tr_Dir (w : World) (tb : Nat) (g : Tr.G) (dom : Nat → Prop) (K : Nat) (s : ByteArray) (hS : TrS w tb g dom K) (hK : K ≤ 100000) :
    Calls Tryz.prog 27 #[.pointer (some ⟨tb, 0, none⟩), .string s] w (MakA tb g dom K s.data.toList true w) := by
  have HA : Hid (Calls Tryz.prog 41 #[.pointer (some ⟨tb, 0, none⟩), .string s, .pointer (some ⟨w.heap.size + 1, 0, none⟩)] ((w.alloc (.map #[] 0)).alloc (.cells #[.map (some w.heap.size), .int .i64 0] 56)) (MakA tb g dom K s.data.toList true w)) := by
    have hm0 := SMap.made w Tryz.prog 9
    have hf : Fr [] w ((w.alloc (.map #[] 0)).alloc (.cells #[.map (some w.heap.size), .int .i64 0] 56)) := ((Fr.refl [] w).alloc _).alloc _
    refine tr_addNew w _ tb g dom K (w.heap.size + 1) (some w.heap.size) s hS hK hf (by omega) ?_ (fun k hk => ?_)
    · have := heap_alloc_new (w.alloc (.map #[] 0)) (.cells #[.map (some w.heap.size), .int .i64 0] 56)
      simpa using this
    · have hk := Option.some.inj hk
      subst hk
      exact ⟨Nat.le_refl _, (hm0.keep (Below.heap_alloc _ _ _ hm0.lt)).mono (Nat.zero_le _)⟩
  clear hS
  have hmm := @run_makeMap Tryz.prog
  go_enter Tryz.func27, Tryz.ntmps27
  go_wp2_with (go_at_call 41; (refine useC HA.out ?_); intro e w1 ha; obtain ⟨v, hv⟩ : ∃ v, errV (Tr.addErr g s.data.toList) = v := ⟨_, rfl⟩; obtain rfl : e = .returned v := (by rw [← hv]; exact ha.1); have HR := Lib.hid ha; clear ha)
  go_ret
  exact HR.out
set_option maxRecDepth 100000 in
set_option maxHeartbeats 2000000 in
theorem tr_File (w : World) (tb : Nat) (g : Tr.G) (dom : Nat → Prop) (K : Nat) (s : ByteArray) (hS : TrS w tb g dom K) (hK : K ≤ 100000) :
    Calls Tryz.prog 28 #[.pointer (some ⟨tb, 0, none⟩), .string s] w (MakA tb g dom K s.data.toList false w) := by
  have HA : Hid (Calls Tryz.prog 41 #[.pointer (some ⟨tb, 0, none⟩), .string s, .pointer (some ⟨w.heap.size, 0, none⟩)] (w.alloc (.cells #[.map none, .int .i64 0] 56)) (MakA tb g dom K s.data.toList false w)) :=
    tr_addNew w _ tb g dom K w.heap.size none s hS hK ((Fr.refl [] w).alloc _) (Nat.le_refl _) (heap_alloc_new w _) (fun k hk => by cases hk)
  clear hS
  go_enter Tryz.func28, Tryz.ntmps28
  go_wp2_with (go_at_call 41; (refine useC HA.out ?_); intro e w1 ha; obtain ⟨v, hv⟩ : ∃ v, errV (Tr.addErr g s.data.toList) = v := ⟨_, rfl⟩; obtain rfl : e = .returned v := (by rw [← hv]; exact ha.1); have HR := Lib.hid ha; clear ha)
  go_ret
  exact HR.out
/-- A new tree. -/
def Tr.G.new (n m : Nat) : Tr.G := { root := n, many := 0, ent := fun b => if b = n then some (fun _ => none) else none, mb := fun _ => m, nms := fun _ => 0 }
theorem Tr.new_ok (n m : Nat) : Tr.OK (Tr.G.new n m) := by
  have hr : (Tr.G.new n m).ent n = some (fun _ => none) := if_pos rfl
  have hleaf : Tr.Leaf (Tr.G.new n m) n := fun x => by rw [Tr.kid_of hr]
  refine ⟨by show ((Tr.G.new n m).ent n).isSome = true; rw [hr]; rfl, fun p c hp => ?_, fun p q c hp hq _ => ?_, fun d m' x c hd hx => ?_⟩
  · obtain ⟨rfl, -⟩ := Tr.fnd_leaf hleaf hp
    exact Nat.zero_le _
  · obtain ⟨rfl, -⟩ := Tr.fnd_leaf hleaf hp
    obtain ⟨rfl, -⟩ := Tr.fnd_leaf hleaf hq
    rfl
  · by_cases e : d = n
    · subst e
      rw [hr] at hd
      have hd := Option.some.inj hd
      subst hd
      cases hx
    · rw [show (Tr.G.new n m).ent d = none from if_neg e] at hd
      cases hd
/-- What New hands back. -/
def NewA (w : World) (e : Ending) (w' : World) : Prop := ∃ tb n m, e = .returned (.pointer (some ⟨tb, 0, none⟩)) ∧ TrS w' tb (Tr.G.new n m) (· = n) 0 ∧ Fr [] w w' ∧ ∀ k, TrP tb (Tr.G.new n m) (· = n) k → w.heap.size ≤ k
theorem tr_three (w : World) (o0 o1 o2 : Obj) : Fr [] w (((w.alloc o0).alloc o1).alloc o2) ∧
    (((w.alloc o0).alloc o1).alloc o2).heap[w.heap.size]? = some o0 ∧ (((w.alloc o0).alloc o1).alloc o2).heap[w.heap.size + 1]? = some o1 ∧ (((w.alloc o0).alloc o1).alloc o2).heap[w.heap.size + 1 + 1]? = some o2 := by
  have h (a : World) (o p : Obj) {k : Nat} (hk : a.heap[k]? = some p) : (a.alloc o).heap[k]? = some p := ((Fr.refl [] a).alloc o).get hk (by simp)
  have n1 := heap_alloc_new (w.alloc o0) o1
  have n2 := heap_alloc_new ((w.alloc o0).alloc o1) o2
  simp only [World.size_alloc] at n1 n2
  exact ⟨(((Fr.refl [] w).alloc _).alloc _).alloc _, h _ _ _ (h _ _ _ (heap_alloc_new w o0)), h _ _ _ n1, n2⟩
set_option maxRecDepth 100000 in
theorem tr_New (w : World) : Calls Tryz.prog 4 #[] w (NewA w) := by
  have hmm := @run_makeMap Tryz.prog
  obtain ⟨hf, y0, y1, y2⟩ := tr_three w (.map #[] 0) (.cells #[.map (some w.heap.size), .int .i64 0] 56) (.cells #[.pointer (some ⟨w.heap.size + 1, 0, none⟩), .int .i64 0] 58)
  have hm0 := (SMap.made w Tryz.prog 9).keep (w' := ((w.alloc (.map #[] 0)).alloc (.cells #[.map (some w.heap.size), .int .i64 0] 56)).alloc (.cells #[.pointer (some ⟨w.heap.size + 1, 0, none⟩), .int .i64 0] 58)) (y0.trans (heap_alloc_new w _).symm)
  have hr : (Tr.G.new (w.heap.size + 1) w.heap.size).ent (w.heap.size + 1) = some (fun _ => none) := if_pos rfl
  have HS : Hid (TrS (((w.alloc (.map #[] 0)).alloc (.cells #[.map (some w.heap.size), .int .i64 0] 56)).alloc (.cells #[.pointer (some ⟨w.heap.size + 1, 0, none⟩), .int .i64 0] 58)) (w.heap.size + 1 + 1) (Tr.G.new (w.heap.size + 1) w.heap.size) (· = w.heap.size + 1) 0) := by
    refine ⟨y2, fun b hb => ?_, rfl, fun d x c hd hk => ?_, fun b b' hb hb' _ _ _ => hb.trans hb'.symm, Tr.new_ok _ _, ⟨Int.le_refl _, by show (0 : Int) ≤ 24; decide⟩, fun b _ => ⟨by show -((0 : Nat) : Int) ≤ 0; decide, by show (0 : Int) ≤ ((0 : Nat) : Int); decide⟩⟩
    · subst hb
      unfold NodeIn
      rw [hr]
      exact ⟨y1, hm0⟩
    · subst hd
      rw [Tr.kid_of hr] at hk
      cases hk
  have HF := Lib.hid hf
  have HP : Hid (∀ k, TrP (w.heap.size + 1 + 1) (Tr.G.new (w.heap.size + 1) w.heap.size) (· = w.heap.size + 1) k → w.heap.size ≤ k) := fun k hk => by
    rcases hk with rfl | rfl | ⟨b, _, _, rfl⟩
    · omega
    · omega
    · exact Nat.le_refl _
  clear hf y0 y1 y2 hm0 hr
  go_enter Tryz.func4, Tryz.ntmps4
  go_wp2
  go_ret
  exact ⟨_, _, _, rfl, HS.out, HF.out, HP.out⟩
namespace Tr
def linkErr (g : G) (old s : List UInt8) : Int := match atV g old with
  | .err e => e
  | .ok n => if (g.ent n).isSome = true then 3 else addErr g s
theorem atV_err_ne {g : G} {s : List UInt8} {c : Int} (h : atV g s = .err c) : c ≠ 0 := by
  unfold atV at h
  split at h
  · exact fnd_err_ne _ _ _ h
  · injection h with h; rw [← h]; assumption
theorem atV_dom {g : G} {dom : Nat → Prop} (hr : dom g.root) (hcl : ∀ d x e, dom d → kid g d x = some e → dom e) {s : List UInt8} {n : Nat} (h : atV g s = .ok n) : dom n := by
  unfold atV at h
  split at h
  · exact fnd_dom hcl _ g.root n hr h
  · cases h
end Tr
/-- What Names hands back. -/
def namesV (g : Tr.G) (s : List UInt8) : Value := match atV g s with
  | .err e => .tuple #[.int .i64 0, errV e]
  | .ok n => .tuple #[.int .i64 (if (g.ent n).isSome = true then 0 else g.nms n), .nilIface]
set_option maxRecDepth 100000 in
set_option maxHeartbeats 2000000 in
theorem tr_Names (w : World) (tb : Nat) (g : Tr.G) (dom : Nat → Prop) (K : Nat) (s : ByteArray) (hS : TrS w tb g dom K) :
    Calls Tryz.prog 16 #[.pointer (some ⟨tb, 0, none⟩), .string s] w fun e w' => e = .returned (namesV g s.data.toList) ∧ Fr [] w w' := by
  have HS := Lib.hid hS
  have HAT := Lib.hid (tr_at w tb g dom K s hS)
  have HV : Hid (namesV g s.data.toList = match atV g s.data.toList with
    | .err e => .tuple #[.int .i64 0, errV e]
    | .ok n => .tuple #[.int .i64 (if (g.ent n).isSome = true then 0 else g.nms n), .nilIface]) := rfl
  go_enter Tryz.func16, Tryz.ntmps16
  cases hat : atV g s.data.toList with
  | err c =>
    rw [hat, fndV_err] at HAT
    rw [hat] at HV
    have hne := Tr.atV_err_ne hat
    have hev := errV_no hne
    have HEV := Lib.hid hev
    clear hat hne hS
    go_wp2_with (go_at_call 36; (with_reducible refine useC HAT.out ?_); rintro e w1 ⟨rfl, hf⟩; have HF := Lib.hid hf; clear hf; rw [hev]; clear hev)
    go_ret2
    exact ⟨by rw [HV.out, HEV.out]; rfl, HF.out⟩
  | ok n =>
    rw [hat] at HAT HV
    have hd := Tr.atV_dom hS.rootD hS.closed hat
    have hnode := hS.node n hd
    unfold fndV at HAT
    clear hat hd hS
    cases he : g.ent n with
    | none =>
      have h0 := hnode.file he
      have hv : namesV g s.data.toList = .tuple #[.int .i64 (g.nms n), .nilIface] := by
        have h1 : namesV g s.data.toList = .tuple #[.int .i64 (if (g.ent n).isSome = true then 0 else g.nms n), .nilIface] := HV.out
        rw [he] at h1
        exact h1
      have HV2 := Lib.hid hv
      have HB := Lib.hid (fun W (hW : Fr [] w W) => And.intro (show W.cell? ⟨n, 0, none⟩ = some (.map none) by rw [cell_of_row _ _ _ _ _ _ (hW.get h0 (by simp))]; rfl) (show W.cell? ⟨n, 1, none⟩ = some (.int .i64 (g.nms n)) by rw [cell_of_row _ _ _ _ _ _ (hW.get h0 (by simp))]; rfl))
      clear hv h0 hnode he HV
      go_wp2_with (go_at_call 36; (with_reducible refine useC HAT.out ?_); rintro e w1 ⟨rfl, hf⟩; have HF := Lib.hid hf; obtain ⟨n0, n1⟩ := HB.out w1 hf; have q0 := mapNilN w1 none; clear hf)
      go_ret2
      exact ⟨by rw [HV2.out]; rfl, HF.out⟩
    | some m =>
      obtain ⟨h0, -⟩ := hnode.dir he
      have hv : namesV g s.data.toList = .tuple #[.int .i64 0, .nilIface] := by
        have h1 : namesV g s.data.toList = .tuple #[.int .i64 (if (g.ent n).isSome = true then 0 else g.nms n), .nilIface] := HV.out
        rw [he] at h1
        exact h1
      have HV2 := Lib.hid hv
      have HB := Lib.hid (fun W (hW : Fr [] w W) => (show W.cell? ⟨n, 0, none⟩ = some (.map (some (g.mb n))) by rw [cell_of_row _ _ _ _ _ _ (hW.get h0 (by simp))]; rfl))
      clear hv h0 hnode he HV
      go_wp2_with (go_at_call 36; (with_reducible refine useC HAT.out ?_); rintro e w1 ⟨rfl, hf⟩; have HF := Lib.hid hf; have n0 := HB.out w1 hf; have q0 := mapNilN w1 (some (g.mb n)); clear hf)
      go_ret2
      exact ⟨by rw [HV2.out]; rfl, HF.out⟩
/-- What Link does. -/
def LinkA (tb : Nat) (g : Tr.G) (dom : Nat → Prop) (K : Nat) (old s : List UInt8) (w : World) (e : Ending) (w' : World) : Prop :=
  e = .returned (errV (Tr.linkErr g old s)) ∧ FrP (TrP tb g dom) w w' ∧ ((Tr.linkErr g old s = 0 ∧ ∃ n d x, atV g old = .ok n ∧ g.ent n = none ∧ Tr.addErr g s = 0 ∧ Tr.spot g s = .at_ d x ∧ TrS w' tb (Tr.addG g d x n) dom (K + 1)) ∨ (Tr.linkErr g old s ≠ 0 ∧ Fr [] w w'))
set_option maxRecDepth 100000 in
set_option maxHeartbeats 2000000 in
theorem tr_Link (w : World) (tb : Nat) (g : Tr.G) (dom : Nat → Prop) (K : Nat) (old s : ByteArray) (hS : TrS w tb g dom K) (hK : K ≤ 100000) :
    Calls Tryz.prog 30 #[.pointer (some ⟨tb, 0, none⟩), .string old, .string s] w (LinkA tb g dom K old.data.toList s.data.toList w) := by
  have HAT := Lib.hid (tr_at w tb g dom K old hS)
  have HV : Hid (Tr.linkErr g old.data.toList s.data.toList = match atV g old.data.toList with
    | .err e => e
    | .ok n => if (g.ent n).isSome = true then 3 else Tr.addErr g s.data.toList) := rfl
  go_enter Tryz.func30, Tryz.ntmps30
  cases hat : atV g old.data.toList with
  | err c =>
    rw [hat, fndV_err] at HAT
    rw [hat] at HV
    have hne := Tr.atV_err_ne hat
    have hev := errV_no hne
    have HEV := Lib.hid hev
    have HNE := Lib.hid hne
    have HV2 : Hid (Tr.linkErr g old.data.toList s.data.toList = c) := HV.out
    clear hat hne hS HV
    go_wp2_with (go_at_call 36; (with_reducible refine useC HAT.out ?_); rintro e w1 ⟨rfl, hf⟩; have HF := Lib.hid hf; clear hf; rw [hev]; clear hev)
    go_ret
    exact ⟨by rw [HV2.out, HEV.out]; rfl, (FrP.refl _ _).step HF.out (by simp), .inr ⟨by rw [HV2.out]; exact HNE.out, HF.out⟩⟩
  | ok n =>
    have HATE := Lib.hid hat
    rw [hat] at HAT HV
    have hd := Tr.atV_dom hS.rootD hS.closed hat
    have hnode := hS.node n hd
    unfold fndV at HAT
    clear hat
    cases he : g.ent n with
    | some m =>
      obtain ⟨h0, -⟩ := hnode.dir he
      have HV2 : Hid (Tr.linkErr g old.data.toList s.data.toList = 3) := by
        have h1 : Tr.linkErr g old.data.toList s.data.toList = if (g.ent n).isSome = true then 3 else Tr.addErr g s.data.toList := HV.out
        rw [he] at h1
        exact h1
      have HB := Lib.hid (fun W (hW : Fr [] w W) => (show W.cell? ⟨n, 0, none⟩ = some (.map (some (g.mb n))) by rw [cell_of_row _ _ _ _ _ _ (hW.get h0 (by simp))]; rfl))
      clear h0 hnode he HV hd hS
      go_wp2_with (go_at_call 36; (with_reducible refine useC HAT.out ?_); rintro e w1 ⟨rfl, hf⟩; have HF := Lib.hid hf; have n0 := HB.out w1 hf; have q0 := mapNilN w1 (some (g.mb n)); clear hf)
      go_ret
      exact ⟨by rw [HV2.out]; rfl, (FrP.refl _ _).step HF.out (by simp), .inr ⟨by rw [HV2.out]; decide, HF.out⟩⟩
    | none =>
      have h0 := hnode.file he
      have HV2 : Hid (Tr.linkErr g old.data.toList s.data.toList = Tr.addErr g s.data.toList) := by
        have h1 : Tr.linkErr g old.data.toList s.data.toList = if (g.ent n).isSome = true then 3 else Tr.addErr g s.data.toList := HV.out
        rw [he] at h1
        exact h1
      have HB := Lib.hid (fun W (hW : Fr [] w W) => (show W.cell? ⟨n, 0, none⟩ = some (.map none) by rw [cell_of_row _ _ _ _ _ _ (hW.get h0 (by simp))]; rfl))
      have HADD := Lib.hid (fun W (hW : Fr [] w W) => tr_add W tb g dom K n s (hS.step hW) hd hK (fun d x hs _ => Tr.spot_add_ok hS.ok hs (fun e => by
        obtain ⟨P, -, -, h3⟩ := Tr.spot_at hs
        rw [← e, he] at h3
        cases h3) (fun y => by unfold Tr.kid; rw [he]; rfl) (fun h => by rw [he] at h; cases h)))
      have HENT := Lib.hid he
      clear h0 hnode he HV hd hS
      go_wp2_with (first
        | (go_at_call 36; (with_reducible refine useC HAT.out ?_); rintro e w1 ⟨rfl, hf⟩; have HF := Lib.hid hf; have n0 := HB.out w1 hf; have q0 := mapNilN w1 none; clear hf)
        | (have h' := HF; go_at_call 41; (refine useC (HADD.out w1 HF.out) ?_); intro e w2 ha; obtain ⟨v, hv⟩ : ∃ v, errV (Tr.addErr g s.data.toList) = v := ⟨_, rfl⟩; obtain rfl : e = .returned v := (by rw [← hv]; exact ha.1); have HR := Lib.hid ha; clear ha h'))
      go_ret
      obtain ⟨r1, r2, r3⟩ := HR.out
      refine ⟨by rw [HV2.out]; exact r1, ((FrP.refl _ w).step HF.out (by simp)).trans r2 (fun k hk => .inl hk), ?_⟩
      rw [HV2.out]
      rcases r3 with ⟨a, d, x, b, c⟩ | ⟨a, b⟩
      · exact .inl ⟨a, n, d, x, HATE.out, HENT.out, a, b, c⟩
      · exact .inr ⟨a, HF.out.trans b⟩
end Go.Proofs.YtnglhfeialomgaaGreatDoor
/- Trees of directories: how many ways there are, in plain Lean. -/
namespace Go.Proofs.YtnglhfeialomgaaGreatDoor
namespace Tr

/-- All ways, each once. -/
def Ways (g : G) (l : List (List Nme)) : Prop := l.Nodup ∧ ∀ p, p ∈ l ↔ p ≠ [] ∧ ∃ c, fnd g g.root p = .ok c
/-- The tree's count is right. -/
def Cn (g : G) : Prop := ∃ l, Ways g l ∧ (l.length : Int) = g.many
theorem Cn.congr {g g' : G} (h : Cn g) (hm : g'.many = g.many) (hf : ∀ p, (∃ c, fnd g' g'.root p = .ok c) ↔ ∃ c, fnd g g.root p = .ok c) : Cn g' := by
  obtain ⟨l, ⟨h1, h2⟩, h3⟩ := h
  exact ⟨l, ⟨h1, fun p => by rw [h2, hf]⟩, by rw [h3, hm]⟩
theorem Cn.new (n m : Nat) : Cn (G.new n m) := by
  have hr : (Tr.G.new n m).ent n = some (fun _ => none) := if_pos rfl
  have hleaf : Tr.Leaf (Tr.G.new n m) n := fun x => by rw [Tr.kid_of hr]
  refine ⟨[], ⟨List.nodup_nil, fun p => ⟨fun h => ?_, fun h => ?_⟩⟩, rfl⟩
  · cases h
  · obtain ⟨h, c, hc⟩ := h
    exact absurd (fnd_leaf hleaf hc).1 h
theorem Cn.newN {g : G} {dom : Nat → Prop} {c : Nat} {o : Option Nat} (h : Cn g) (hr : dom g.root) (hcl : ∀ d x e, dom d → kid g d x = some e → dom e) (hc : ¬ dom c) : Cn (newN g c o) :=
  h.congr rfl (fun p => by rw [newN_same hr hcl hc])
section
variable {g : G} {d c : Nat} {P : List Nme} {x : Nme}
theorem Ways.add {l : List (List Nme)} (hw : Ways g l) (h : OK g) (hp : fnd g g.root P = .ok d) (hd : (g.ent d).isSome = true) (hk : kid g d x = none) (hc : c ≠ d) (hleaf : Leaf g c) : Ways (setE g d x (some c)) ((P ++ [x]) :: l) := by
  have h1 := h.way hp hd
  obtain ⟨m, hm⟩ := Option.isSome_iff_exists.1 hd
  have hlf : Leaf (setE g d x (some c)) c := fun y => by rw [kid_set_ne hc]; exact hleaf y
  have hr : (setE g d x (some c)).root = g.root := rfl
  refine ⟨List.nodup_cons.2 ⟨fun hmem => ?_, hw.1⟩, fun p => ?_⟩
  · obtain ⟨-, b, hb⟩ := (hw.2 _).1 hmem
    exact free_none hp hk [] b hb
  · rw [List.mem_cons, hw.2, hr]
    constructor
    · rintro (rfl | ⟨hpn, b, hb⟩)
      · exact ⟨by simp, c, by rw [fnd_set_at h1 hm x (some c) []]; rfl⟩
      · have hh : ¬ ∃ r, p = P ++ x :: r := fun ⟨r, e⟩ => by rw [e] at hb; exact free_none hp hk r b hb
        exact ⟨hpn, b, by rw [fnd_set_far h1 x (some c) hh]; exact hb⟩
    · rintro ⟨hpn, b, hb⟩
      by_cases hh : ∃ r, p = P ++ x :: r
      · obtain ⟨r, rfl⟩ := hh
        rw [fnd_set_at h1 hm x (some c) r] at hb
        obtain ⟨rfl, rfl⟩ := fnd_leaf hlf hb
        exact .inl rfl
      · rw [fnd_set_far h1 x (some c) hh] at hb
        exact .inr ⟨hpn, b, hb⟩
theorem Ways.drop {l : List (List Nme)} (hw : Ways g l) (h : OK g) (hp : fnd g g.root P = .ok d) (hd : (g.ent d).isSome = true) (hk : kid g d x = some c) (hleaf : Leaf g c) : Ways (setE g d x none) (l.erase (P ++ [x])) := by
  have h1 := h.way hp hd
  obtain ⟨m, hm⟩ := Option.isSome_iff_exists.1 hd
  have hr : (setE g d x none).root = g.root := rfl
  refine ⟨hw.1.erase _, fun p => ?_⟩
  rw [hw.1.mem_erase_iff, hw.2, hr]
  constructor
  · rintro ⟨hne, hpn, b, hb⟩
    have hh : ¬ ∃ r, p = P ++ x :: r := fun ⟨r, e⟩ => by
      subst e
      rw [fnd_app_ok hp, fnd_step hk] at hb
      obtain ⟨rfl, rfl⟩ := fnd_leaf hleaf hb
      exact hne rfl
    exact ⟨hpn, b, by rw [fnd_set_far h1 x none hh]; exact hb⟩
  · rintro ⟨hpn, b, hb⟩
    have hh : ¬ ∃ r, p = P ++ x :: r := fun ⟨r, e⟩ => by
      subst e
      rw [fnd_set_at h1 hm x none r] at hb
      cases hb
    rw [fnd_set_far h1 x none hh] at hb
    exact ⟨fun e => hh ⟨[], e⟩, hpn, b, hb⟩
theorem Cn.add (hn : Cn g) (h : OK g) (hp : fnd g g.root P = .ok d) (hd : (g.ent d).isSome = true) (hk : kid g d x = none) (hc : c ≠ d) (hleaf : Leaf g c) : Cn (addG g d x c) := by
  obtain ⟨l, hw, h3⟩ := hn
  obtain ⟨h1, h2⟩ := hw.add h hp hd hk hc hleaf
  have hf := fnd_congr (g := setE g d x (some c)) (g' := addG g d x c) (fun b => rfl)
  refine ⟨_, ⟨h1, fun p => ?_⟩, ?_⟩
  · rw [h2, hf]; exact Iff.rfl
  · rw [List.length_cons]
    show ((l.length + 1 : Nat) : Int) = g.many + 1
    omega
end
theorem Ways.move {g : G} {P P' : List Nme} {d d' n : Nat} {x x' : Nme} (h : Mv g P d x n P' d' x') (hO : OK g) {l : List (List Nme)} (hw : Ways g l) : ∃ l', Ways (movE g d x d' x' n) l' ∧ l'.length = l.length := by
  classical
  have hnone : ∀ r c, fnd g g.root (P' ++ x' :: r) ≠ .ok c := fun r c hc => free_none h.p' h.k' r c hc
  have hr : (movE g d x d' x' n).root = g.root := rfl
  refine ⟨l.map (fun p => if ∃ r, p = P ++ x :: r then P' ++ x' :: p.drop (P.length + 1) else p), ⟨?_, fun p => ?_⟩, by rw [List.length_map]⟩
  · refine List.pairwise_map.2 (hw.1.imp_of_mem fun {p q} hp hq hne e => hne ?_)
    obtain ⟨-, c1, h1⟩ := (hw.2 p).1 hp
    obtain ⟨-, c2, h2⟩ := (hw.2 q).1 hq
    by_cases a : ∃ r, p = P ++ x :: r
    · rw [if_pos a] at e
      obtain ⟨r, rfl⟩ := a
      by_cases b : ∃ r, q = P ++ x :: r
      · rw [if_pos b] at e
        obtain ⟨r2, rfl⟩ := b
        have := List.append_cancel_left e
        injection this with _ this
        simp [List.drop_append] at this
        rw [this]
      · rw [if_neg b] at e
        rw [← e] at h2
        exact absurd h2 (hnone _ _)
    · rw [if_neg a] at e
      by_cases b : ∃ r, q = P ++ x :: r
      · rw [if_pos b] at e
        rw [e] at h1
        exact absurd h1 (hnone _ _)
      · rw [if_neg b] at e
        exact e
  · rw [List.mem_map, hr]
    constructor
    · rintro ⟨q, hq, rfl⟩
      obtain ⟨hq, c, hc⟩ := (hw.2 q).1 hq
      by_cases b : ∃ r, q = P ++ x :: r
      · rw [if_pos b]
        obtain ⟨r, rfl⟩ := b
        refine ⟨by simp, c, ?_⟩
        have hd : (P ++ x :: r).drop (P.length + 1) = r := by rw [show P ++ x :: r = (P ++ [x]) ++ r by simp, List.drop_left' (by simp)]
        have hc2 := hc
        rw [h.old] at hc2
        exact (congrArg (fun r => fnd (movE g d x d' x' n) g.root (P' ++ x' :: r)) hd).trans ((h.new hO r).trans hc2)
      · rw [if_neg b]
        have a : ¬ ∃ r, q = P' ++ x' :: r := fun ⟨r, e⟩ => by rw [e] at hc; exact hnone r c hc
        exact ⟨hq, c, by rw [h.far hO a b]; exact hc⟩
    · rintro ⟨hp, c, hc⟩
      by_cases a : ∃ r, p = P' ++ x' :: r
      · obtain ⟨r, rfl⟩ := a
        rw [h.new hO] at hc
        refine ⟨P ++ x :: r, (hw.2 _).2 ⟨by simp, c, by rw [h.old]; exact hc⟩, ?_⟩
        rw [if_pos ⟨r, rfl⟩]
        simp [List.drop_append]
      · by_cases b : ∃ r, p = P ++ x :: r
        · rw [h.gone hO a b] at hc; cases hc
        · rw [h.far hO a b] at hc
          refine ⟨p, (hw.2 _).2 ⟨hp, c, hc⟩, ?_⟩
          rw [if_neg b]
theorem Cn.move {g : G} {P P' : List Nme} {d d' n : Nat} {x x' : Nme} (hn : Cn g) (h : Mv g P d x n P' d' x') (hO : OK g) : Cn (movE g d x d' x' n) := by
  obtain ⟨l, hw, h3⟩ := hn
  obtain ⟨l', hw', h4⟩ := Ways.move h hO hw
  exact ⟨l', hw', by rw [h4]; exact h3⟩
/-- As many texts as ways. -/
theorem Cn.walk {g : G} (hn : Cn g) (h : OK g) {l : List (List UInt8)} (hw : WalkIs g l) : (l.length : Int) = g.many := by
  obtain ⟨k, ⟨h1, h2⟩, h3⟩ := hn
  obtain ⟨n1, m1⟩ := walk_ways h hw
  have hp := (List.perm_ext_iff_of_nodup n1 h1).2 (fun p => by rw [m1, h2])
  have := hp.length_eq
  rw [List.length_map] at this
  omega
theorem sub_length {α : Type} [DecidableEq α] : ∀ {a b : List α}, a.Nodup → (∀ x ∈ a, x ∈ b) → a.length ≤ b.length
  | [], _, _, _ => Nat.zero_le _
  | x :: a, b, h, hs => by
    have hx := hs x (by simp)
    have h2 := List.nodup_cons.1 h
    have ih := sub_length (a := a) (b := b.erase x) h2.2 (fun y hy => (List.mem_erase_of_ne (fun e => h2.1 (by rw [← e]; exact hy))).2 (hs y (by simp [hy])))
    rw [List.length_erase_of_mem hx] at ih
    have := List.length_pos_of_mem hx
    rw [List.length_cons]
    omega
theorem Cn.bound {g : G} (hn : Cn g) {ps : List (List Nme)} (h1 : ps.Nodup) (h2 : ∀ p ∈ ps, p ≠ [] ∧ ∃ c, fnd g g.root p = .ok c) : (ps.length : Int) ≤ g.many := by
  obtain ⟨k, ⟨h3, h4⟩, h5⟩ := hn
  have := sub_length h1 (fun p hp => (h4 p).2 (h2 p hp))
  omega
end Tr
end Go.Proofs.YtnglhfeialomgaaGreatDoor
