/- Trees of directories: New, Dir, File, Link, Names. -/

import Derived.Test.YtnglhfeialomgaaDoorTq14
namespace Go.Proofs.YtnglhfeialomgaaDoor
open Go.RowKit

namespace Tr
theorem spot_add_ok {g : G} (h : OK g) {s : List UInt8} {d c : Nat} {x : Nme} (hs : spot g s = .at_ d x) (hc : c ≠ d) (hl : Leaf g c) (hn : (g.ent c).isSome = true → ∀ p, fnd g g.root p ≠ .ok c) : OK (addG g d x c) := by
  obtain ⟨P, hpt, hf, hd⟩ := spot_at hs
  have h8 := (Pa.parts_ok hpt).2.2.2
  rw [List.length_append, List.length_singleton] at h8
  exact (h.add hf hd (Pa.parts_names hpt x (by simp)) h8 hc hl hn).congr rfl (fun b => rfl)
theorem spot_dom {g : G} {dom : Nat → Prop} (hr : dom g.root) (hcl : ∀ d x e, dom d → kid g d x = some e → dom e) {s : List UInt8} {d : Nat} {x : Nme} (hs : spot g s = .at_ d x) : dom d := by
  obtain ⟨P, -, hf, -⟩ := spot_at hs
  exact fnd_dom hcl P g.root d hr hf
theorem addErr_newN {g : G} {dom : Nat → Prop} {c : Nat} {o : Option Nat} (hr : dom g.root) (hcl : ∀ d x e, dom d → kid g d x = some e → dom e) (hc : ¬ dom c) (s : List UInt8) : addErr (newN g c o) s = addErr g s := by
  unfold addErr
  rw [spot_newN hr hcl hc]
  cases hs : spot g s with
  | err e => rfl
  | at_ d x =>
    have hne : d ≠ c := fun e => hc (e ▸ spot_dom hr hcl hs)
    show (if (kid (newN g c o) d x).isSome = true then _ else if g.many = 24 then _ else _) = _
    rw [kid_newN hne]
end Tr
section
variable {w w' : World} {tb K c : Nat} {g : Tr.G} {dom : Nat → Prop} {o : Option Nat}
/-- A node is made. -/
theorem TrS.fresh (h : TrS w tb g dom K) (hf : Fr [] w w') (hc : w.heap.size ≤ c) (hb : w'.heap[c]? = some (.cells #[.map o, .int .i64 0] 51 (0, 0))) (hm : ∀ k, o = some k → w.heap.size ≤ k ∧ SMap Tryd.prog 9 w' k K (fun _ => none)) : TrS w' tb (Tr.newN g c o) (fun b => dom b ∨ b = c) K ∧ ¬ dom c ∧ ∀ k, TrP tb (Tr.newN g c o) (fun b => dom b ∨ b = c) k → TrP tb g dom k ∨ w.heap.size ≤ k := by
  have hno : ¬ dom c := fun hd => by have := h.lt (.inr (.inl hd)); omega
  have hne : ∀ b, dom b → b ≠ c := fun b hb e => hno (e ▸ hb)
  have hs := h.step hf
  refine ⟨⟨hs.top, fun b hb' => ?_, .inl h.rootD, fun d x e hd hk => ?_, fun b b' hb1 hb2 h1 h2 e => ?_, h.ok.newN h.rootD h.closed hno, h.many, fun b hb' => ?_⟩, hno, fun k hk => ?_⟩
  · by_cases e : b = c
    · subst e
      unfold NodeIn
      rw [Tr.newN_at]
      have hn0 : (Tr.newN g b o).nms b = 0 := if_pos rfl
      cases o with
      | none => show w'.heap[b]? = _; rw [hn0]; exact hb
      | some k =>
        have hmb : (Tr.newN g b (some k)).mb b = k := if_pos rfl
        show w'.heap[b]? = _ ∧ SMap _ _ _ _ _ _
        rw [hn0, hmb]
        exact ⟨hb, (hm k rfl).2⟩
    · have hd := hb'.resolve_right e
      have hn := hs.node b hd
      have h1 : (Tr.newN g c o).mb b = g.mb b := if_neg e
      have h2 : (Tr.newN g c o).nms b = g.nms b := if_neg e
      unfold NodeIn at *
      rw [Tr.newN_ne e, h1, h2]
      exact hn
  · rcases hd with hd | rfl
    · rw [Tr.kid_newN (hne d hd)] at hk
      exact .inl (h.closed d x e hd hk)
    · rw [Tr.newN_leaf x] at hk
      cases hk
  · have hmbl : ∀ b, dom b → (g.ent b).isSome = true → g.mb b < w.heap.size := fun b hb hs => h.lt (.inr (.inr ⟨b, hb, hs, rfl⟩))
    have hnew : ∀ b, b = c → ((Tr.newN g c o).ent b).isSome = true → w.heap.size ≤ (Tr.newN g c o).mb b := fun b hb hs => by
      subst hb
      rw [Tr.newN_at] at hs
      cases o with
      | none => cases hs
      | some k => rw [show (Tr.newN g b (some k)).mb b = k from if_pos rfl]; exact (hm k rfl).1
    by_cases e1 : b = c
    · by_cases e2 : b' = c
      · rw [e1, e2]
      · have h3 := hnew b e1 h1
        have hd' := hb2.resolve_right e2
        rw [Tr.newN_ne e2] at h2
        have h4 := hmbl b' hd' h2
        rw [e, show (Tr.newN g c o).mb b' = g.mb b' from if_neg e2] at h3
        omega
    · have hd := hb1.resolve_right e1
      rw [Tr.newN_ne e1] at h1
      have h4 := hmbl b hd h1
      by_cases e2 : b' = c
      · have h3 := hnew b' e2 h2
        rw [← e, show (Tr.newN g c o).mb b = g.mb b from if_neg e1] at h3
        omega
      · have hd' := hb2.resolve_right e2
        rw [Tr.newN_ne e2] at h2
        rw [show (Tr.newN g c o).mb b = g.mb b from if_neg e1, show (Tr.newN g c o).mb b' = g.mb b' from if_neg e2] at e
        exact h.mbs b b' hd hd' h1 h2 e
  · by_cases e : b = c
    · rw [show (Tr.newN g c o).nms b = 0 from if_pos e]; omega
    · rw [show (Tr.newN g c o).nms b = g.nms b from if_neg e]
      exact h.nb b (hb'.resolve_right e)
  · rcases hk with rfl | (hk | rfl) | ⟨b, hb1, hs1, rfl⟩
    · exact .inl (.inl rfl)
    · exact .inl (.inr (.inl hk))
    · exact .inr hc
    · by_cases e : b = c
      · subst e
        rw [Tr.newN_at] at hs1
        cases o with
        | none => cases hs1
        | some k => rw [show (Tr.newN g b (some k)).mb b = k from if_pos rfl]; exact .inr (hm k rfl).1
      · rw [Tr.newN_ne e] at hs1
        rw [show (Tr.newN g c o).mb b = g.mb b from if_neg e]
        exact .inl (.inr (.inr ⟨b, hb1.resolve_right e, hs1, rfl⟩))
end
theorem mapNilN (w : World) (p : Option Nat) : (binOp .neq 49 (.map p) (.map none)).run Tryd.prog w = .ok (.bool (!p.isNone)) w := run_neq_map_nil w _ _ _ p Tryd.underlying49
/-- What Dir and File do. -/
def MakA (tb : Nat) (g : Tr.G) (dom : Nat → Prop) (K : Nat) (s : List UInt8) (dir : Bool) (w : World) (e : Ending) (w' : World) : Prop :=
  e = .returned (errV (Tr.addErr g s)) ∧ FrP (TrP tb g dom) w w' ∧ ∃ c o, w.heap.size ≤ c ∧ Option.isSome o = dir ∧ ¬ dom c ∧ (∀ k, TrP tb (Tr.newN g c o) (fun b => dom b ∨ b = c) k → TrP tb g dom k ∨ w.heap.size ≤ k) ∧
    ((Tr.addErr g s = 0 ∧ ∃ d x, Tr.spot g s = .at_ d x ∧ TrS w' tb (Tr.addG (Tr.newN g c o) d x c) (fun b => dom b ∨ b = c) (K + 1)) ∨ (Tr.addErr g s ≠ 0 ∧ TrS w' tb (Tr.newN g c o) (fun b => dom b ∨ b = c) K))
/-- add, of a node that was just made. -/
theorem tr_addNew (w w1 : World) (tb : Nat) (g : Tr.G) (dom : Nat → Prop) (K c : Nat) (o : Option Nat) (s : ByteArray) (hS : TrS w tb g dom K) (hK : K ≤ 100000) (hf : Fr [] w w1) (hc : w.heap.size ≤ c) (hb : w1.heap[c]? = some (.cells #[.map o, .int .i64 0] 51 (0, 0))) (hm : ∀ k, o = some k → w.heap.size ≤ k ∧ SMap Tryd.prog 9 w1 k K (fun _ => none)) :
    Calls Tryd.prog 29 #[.pointer (some ⟨tb, 0, none⟩), .string s, .pointer (some ⟨c, 0, none⟩)] w1 (MakA tb g dom K s.data.toList (Option.isSome o) w) := by
  obtain ⟨h1, h2, h3⟩ := hS.fresh hf hc hb hm
  have hsp := Tr.spot_newN (o := o) hS.rootD hS.closed h2 s.data.toList
  have hae := Tr.addErr_newN (o := o) hS.rootD hS.closed h2 s.data.toList
  refine (tr_add w1 tb (Tr.newN g c o) _ K c s h1 (.inr rfl) hK (fun d x hs _ => ?_)).mono fun e w' ⟨he, hfr, hcase⟩ => ?_
  · rw [hsp] at hs
    have hne : c ≠ d := fun e => h2 (e ▸ Tr.spot_dom hS.rootD hS.closed hs)
    exact Tr.spot_add_ok h1.ok (s := s.data.toList) (by rw [hsp]; exact hs) hne Tr.newN_leaf (fun _ => Tr.fresh_newN hS.rootD hS.closed h2)
  · rw [hae] at he hcase
    rw [hsp] at hcase
    refine ⟨he, ((FrP.refl _ w).step hf (by simp)).trans hfr h3, c, o, hc, rfl, h2, h3, ?_⟩
    rcases hcase with ⟨a, b⟩ | ⟨a, b⟩
    · exact .inl ⟨a, b⟩
    · exact .inr ⟨a, h1.step b⟩
set_option maxRecDepth 100000 in
set_option maxHeartbeats 2000000 in
theorem tr_Dir (w : World) (tb : Nat) (g : Tr.G) (dom : Nat → Prop) (K : Nat) (s : ByteArray) (hS : TrS w tb g dom K) (hK : K ≤ 100000) :
    Calls Tryd.prog 17 #[.pointer (some ⟨tb, 0, none⟩), .string s] w (MakA tb g dom K s.data.toList true w) := by
  have HA : Hid (Calls Tryd.prog 29 #[.pointer (some ⟨tb, 0, none⟩), .string s, .pointer (some ⟨w.heap.size + 1, 0, none⟩)] ((w.alloc (.map #[] 0)).alloc (.cells #[.map (some w.heap.size), .int .i64 0] 51)) (MakA tb g dom K s.data.toList true w)) := by
    have hm0 := SMap.made w Tryd.prog 9
    have hf : Fr [] w ((w.alloc (.map #[] 0)).alloc (.cells #[.map (some w.heap.size), .int .i64 0] 51)) := ((Fr.refl [] w).alloc _).alloc _
    refine tr_addNew w _ tb g dom K (w.heap.size + 1) (some w.heap.size) s hS hK hf (by omega) ?_ (fun k hk => ?_)
    · have := heap_alloc_new (w.alloc (.map #[] 0)) (.cells #[.map (some w.heap.size), .int .i64 0] 51)
      simpa using this
    · have hk := Option.some.inj hk
      subst hk
      exact ⟨Nat.le_refl _, (hm0.keep (Below.heap_alloc _ _ _ hm0.lt)).mono (Nat.zero_le _)⟩
  clear hS
  have hmm := @run_makeMap Tryd.prog
  go_enter Tryd.func17, Tryd.ntmps17
  go_wp2_with (go_at_call 29; (refine useC HA.out ?_); intro e w1 ha; obtain ⟨v, hv⟩ : ∃ v, errV (Tr.addErr g s.data.toList) = v := ⟨_, rfl⟩; obtain rfl : e = .returned v := (by rw [← hv]; exact ha.1); have HR := Lib.hid ha; clear ha)
  go_ret
  exact HR.out
set_option maxRecDepth 100000 in
set_option maxHeartbeats 2000000 in
theorem tr_File (w : World) (tb : Nat) (g : Tr.G) (dom : Nat → Prop) (K : Nat) (s : ByteArray) (hS : TrS w tb g dom K) (hK : K ≤ 100000) :
    Calls Tryd.prog 16 #[.pointer (some ⟨tb, 0, none⟩), .string s] w (MakA tb g dom K s.data.toList false w) := by
  have HA : Hid (Calls Tryd.prog 29 #[.pointer (some ⟨tb, 0, none⟩), .string s, .pointer (some ⟨w.heap.size, 0, none⟩)] (w.alloc (.cells #[.map none, .int .i64 0] 51)) (MakA tb g dom K s.data.toList false w)) :=
    tr_addNew w _ tb g dom K w.heap.size none s hS hK ((Fr.refl [] w).alloc _) (Nat.le_refl _) (heap_alloc_new w _) (fun k hk => by cases hk)
  clear hS
  go_enter Tryd.func16, Tryd.ntmps16
  go_wp2_with (go_at_call 29; (refine useC HA.out ?_); intro e w1 ha; obtain ⟨v, hv⟩ : ∃ v, errV (Tr.addErr g s.data.toList) = v := ⟨_, rfl⟩; obtain rfl : e = .returned v := (by rw [← hv]; exact ha.1); have HR := Lib.hid ha; clear ha)
  go_ret
  exact HR.out
/-- A new tree. -/
def Tr.G.new (n m : Nat) : Tr.G := { root := n, many := 0, ent := fun b => if b = n then some (fun _ => none) else none, mb := fun _ => m, nms := fun _ => 0 }
theorem Tr.new_ok (n m : Nat) : Tr.OK (Tr.G.new n m) := by
  have hr : (Tr.G.new n m).ent n = some (fun _ => none) := if_pos rfl
  have hleaf : Tr.Leaf (Tr.G.new n m) n := fun x => by rw [Tr.kid_of hr]
  refine ⟨by show ((Tr.G.new n m).ent n).isSome = true; rw [hr]; rfl, fun p c hp => ?_, fun p q c hp hq _ => ?_, fun d m' x c hd hx => ?_⟩
  · obtain ⟨rfl, -⟩ := Tr.fnd_leaf hleaf hp
    exact Nat.zero_le _
  · obtain ⟨rfl, -⟩ := Tr.fnd_leaf hleaf hp
    obtain ⟨rfl, -⟩ := Tr.fnd_leaf hleaf hq
    rfl
  · by_cases e : d = n
    · subst e
      rw [hr] at hd
      have hd := Option.some.inj hd
      subst hd
      cases hx
    · rw [show (Tr.G.new n m).ent d = none from if_neg e] at hd
      cases hd
/-- What New hands back. -/
def NewA (w : World) (e : Ending) (w' : World) : Prop := ∃ tb n m, e = .returned (.pointer (some ⟨tb, 0, none⟩)) ∧ TrS w' tb (Tr.G.new n m) (· = n) 0 ∧ Fr [] w w' ∧ ∀ k, TrP tb (Tr.G.new n m) (· = n) k → w.heap.size ≤ k
theorem tr_three (w : World) (o0 o1 o2 : Obj) : Fr [] w (((w.alloc o0).alloc o1).alloc o2) ∧
    (((w.alloc o0).alloc o1).alloc o2).heap[w.heap.size]? = some o0 ∧ (((w.alloc o0).alloc o1).alloc o2).heap[w.heap.size + 1]? = some o1 ∧ (((w.alloc o0).alloc o1).alloc o2).heap[w.heap.size + 1 + 1]? = some o2 := by
  have h (a : World) (o p : Obj) {k : Nat} (hk : a.heap[k]? = some p) : (a.alloc o).heap[k]? = some p := ((Fr.refl [] a).alloc o).get hk (by simp)
  have n1 := heap_alloc_new (w.alloc o0) o1
  have n2 := heap_alloc_new ((w.alloc o0).alloc o1) o2
  simp only [World.size_alloc] at n1 n2
  exact ⟨(((Fr.refl [] w).alloc _).alloc _).alloc _, h _ _ _ (h _ _ _ (heap_alloc_new w o0)), h _ _ _ n1, n2⟩
set_option maxRecDepth 100000 in
theorem tr_New (w : World) : Calls Tryd.prog 22 #[] w (NewA w) := by
  have hmm := @run_makeMap Tryd.prog
  obtain ⟨hf, y0, y1, y2⟩ := tr_three w (.map #[] 0) (.cells #[.map (some w.heap.size), .int .i64 0] 51) (.cells #[.pointer (some ⟨w.heap.size + 1, 0, none⟩), .int .i64 0] 54)
  have hm0 := (SMap.made w Tryd.prog 9).keep (w' := ((w.alloc (.map #[] 0)).alloc (.cells #[.map (some w.heap.size), .int .i64 0] 51)).alloc (.cells #[.pointer (some ⟨w.heap.size + 1, 0, none⟩), .int .i64 0] 54)) (y0.trans (heap_alloc_new w _).symm)
  have hr : (Tr.G.new (w.heap.size + 1) w.heap.size).ent (w.heap.size + 1) = some (fun _ => none) := if_pos rfl
  have HS : Hid (TrS (((w.alloc (.map #[] 0)).alloc (.cells #[.map (some w.heap.size), .int .i64 0] 51)).alloc (.cells #[.pointer (some ⟨w.heap.size + 1, 0, none⟩), .int .i64 0] 54)) (w.heap.size + 1 + 1) (Tr.G.new (w.heap.size + 1) w.heap.size) (· = w.heap.size + 1) 0) := by
    refine ⟨y2, fun b hb => ?_, rfl, fun d x c hd hk => ?_, fun b b' hb hb' _ _ _ => hb.trans hb'.symm, Tr.new_ok _ _, ⟨Int.le_refl _, by show (0 : Int) ≤ 24; decide⟩, fun b _ => ⟨by show -((0 : Nat) : Int) ≤ 0; decide, by show (0 : Int) ≤ ((0 : Nat) : Int); decide⟩⟩
    · subst hb
      unfold NodeIn
      rw [hr]
      exact ⟨y1, hm0⟩
    · subst hd
      rw [Tr.kid_of hr] at hk
      cases hk
  have HF := Lib.hid hf
  have HP : Hid (∀ k, TrP (w.heap.size + 1 + 1) (Tr.G.new (w.heap.size + 1) w.heap.size) (· = w.heap.size + 1) k → w.heap.size ≤ k) := fun k hk => by
    rcases hk with rfl | rfl | ⟨b, _, _, rfl⟩
    · omega
    · omega
    · exact Nat.le_refl _
  clear hf y0 y1 y2 hm0 hr
  go_enter Tryd.func22, Tryd.ntmps22
  go_wp2
  go_ret
  exact ⟨_, _, _, rfl, HS.out, HF.out, HP.out⟩
namespace Tr
def linkErr (g : G) (old s : List UInt8) : Int := match atV g old with
  | .err e => e
  | .ok n => if (g.ent n).isSome = true then 3 else addErr g s
theorem atV_err_ne {g : G} {s : List UInt8} {c : Int} (h : atV g s = .err c) : c ≠ 0 := by
  unfold atV at h
  split at h
  · exact fnd_err_ne _ _ _ h
  · injection h with h; rw [← h]; assumption
theorem atV_dom {g : G} {dom : Nat → Prop} (hr : dom g.root) (hcl : ∀ d x e, dom d → kid g d x = some e → dom e) {s : List UInt8} {n : Nat} (h : atV g s = .ok n) : dom n := by
  unfold atV at h
  split at h
  · exact fnd_dom hcl _ g.root n hr h
  · cases h
end Tr
/-- What Names hands back. -/
def namesV (g : Tr.G) (s : List UInt8) : Value := match atV g s with
  | .err e => .tuple #[.int .i64 0, errV e]
  | .ok n => .tuple #[.int .i64 (if (g.ent n).isSome = true then 0 else g.nms n), .nilIface]
set_option maxRecDepth 100000 in
set_option maxHeartbeats 2000000 in
theorem tr_Names (w : World) (tb : Nat) (g : Tr.G) (dom : Nat → Prop) (K : Nat) (s : ByteArray) (hS : TrS w tb g dom K) :
    Calls Tryd.prog 10 #[.pointer (some ⟨tb, 0, none⟩), .string s] w fun e w' => e = .returned (namesV g s.data.toList) ∧ Fr [] w w' := by
  have HS := Lib.hid hS
  have HAT := Lib.hid (tr_at w tb g dom K s hS)
  have HV : Hid (namesV g s.data.toList = match atV g s.data.toList with
    | .err e => .tuple #[.int .i64 0, errV e]
    | .ok n => .tuple #[.int .i64 (if (g.ent n).isSome = true then 0 else g.nms n), .nilIface]) := rfl
  go_enter Tryd.func10, Tryd.ntmps10
  cases hat : atV g s.data.toList with
  | err c =>
    rw [hat, fndV_err] at HAT
    rw [hat] at HV
    have hne := Tr.atV_err_ne hat
    have hev := errV_no hne
    have HEV := Lib.hid hev
    clear hat hne hS
    go_wp2_with (go_at_call 25; (with_reducible refine useC HAT.out ?_); rintro e w1 ⟨rfl, hf⟩; have HF := Lib.hid hf; clear hf; rw [hev]; clear hev)
    go_ret2
    exact ⟨by rw [HV.out, HEV.out]; rfl, HF.out⟩
  | ok n =>
    rw [hat] at HAT HV
    have hd := Tr.atV_dom hS.rootD hS.closed hat
    have hnode := hS.node n hd
    unfold fndV at HAT
    clear hat hd hS
    cases he : g.ent n with
    | none =>
      have h0 := hnode.file he
      have hv : namesV g s.data.toList = .tuple #[.int .i64 (g.nms n), .nilIface] := by
        have h1 : namesV g s.data.toList = .tuple #[.int .i64 (if (g.ent n).isSome = true then 0 else g.nms n), .nilIface] := HV.out
        rw [he] at h1
        exact h1
      have HV2 := Lib.hid hv
      have HB := Lib.hid (fun W (hW : Fr [] w W) => And.intro (show W.cell? ⟨n, 0, none⟩ = some (.map none) by rw [cell_of_row _ _ _ _ _ _ (hW.get h0 (by simp))]; rfl) (show W.cell? ⟨n, 1, none⟩ = some (.int .i64 (g.nms n)) by rw [cell_of_row _ _ _ _ _ _ (hW.get h0 (by simp))]; rfl))
      clear hv h0 hnode he HV
      go_wp2_with (go_at_call 25; (with_reducible refine useC HAT.out ?_); rintro e w1 ⟨rfl, hf⟩; have HF := Lib.hid hf; obtain ⟨n0, n1⟩ := HB.out w1 hf; have q0 := mapNilN w1 none; clear hf)
      go_ret2
      exact ⟨by rw [HV2.out]; rfl, HF.out⟩
    | some m =>
      obtain ⟨h0, -⟩ := hnode.dir he
      have hv : namesV g s.data.toList = .tuple #[.int .i64 0, .nilIface] := by
        have h1 : namesV g s.data.toList = .tuple #[.int .i64 (if (g.ent n).isSome = true then 0 else g.nms n), .nilIface] := HV.out
        rw [he] at h1
        exact h1
      have HV2 := Lib.hid hv
      have HB := Lib.hid (fun W (hW : Fr [] w W) => (show W.cell? ⟨n, 0, none⟩ = some (.map (some (g.mb n))) by rw [cell_of_row _ _ _ _ _ _ (hW.get h0 (by simp))]; rfl))
      clear hv h0 hnode he HV
      go_wp2_with (go_at_call 25; (with_reducible refine useC HAT.out ?_); rintro e w1 ⟨rfl, hf⟩; have HF := Lib.hid hf; have n0 := HB.out w1 hf; have q0 := mapNilN w1 (some (g.mb n)); clear hf)
      go_ret2
      exact ⟨by rw [HV2.out]; rfl, HF.out⟩
/-- What Link does. -/
def LinkA (tb : Nat) (g : Tr.G) (dom : Nat → Prop) (K : Nat) (old s : List UInt8) (w : World) (e : Ending) (w' : World) : Prop :=
  e = .returned (errV (Tr.linkErr g old s)) ∧ FrP (TrP tb g dom) w w' ∧ ((Tr.linkErr g old s = 0 ∧ ∃ n d x, atV g old = .ok n ∧ g.ent n = none ∧ Tr.addErr g s = 0 ∧ Tr.spot g s = .at_ d x ∧ TrS w' tb (Tr.addG g d x n) dom (K + 1)) ∨ (Tr.linkErr g old s ≠ 0 ∧ Fr [] w w'))
set_option maxRecDepth 100000 in
set_option maxHeartbeats 2000000 in
theorem tr_Link (w : World) (tb : Nat) (g : Tr.G) (dom : Nat → Prop) (K : Nat) (old s : ByteArray) (hS : TrS w tb g dom K) (hK : K ≤ 100000) :
    Calls Tryd.prog 12 #[.pointer (some ⟨tb, 0, none⟩), .string old, .string s] w (LinkA tb g dom K old.data.toList s.data.toList w) := by
  have HAT := Lib.hid (tr_at w tb g dom K old hS)
  have HV : Hid (Tr.linkErr g old.data.toList s.data.toList = match atV g old.data.toList with
    | .err e => e
    | .ok n => if (g.ent n).isSome = true then 3 else Tr.addErr g s.data.toList) := rfl
  go_enter Tryd.func12, Tryd.ntmps12
  cases hat : atV g old.data.toList with
  | err c =>
    rw [hat, fndV_err] at HAT
    rw [hat] at HV
    have hne := Tr.atV_err_ne hat
    have hev := errV_no hne
    have HEV := Lib.hid hev
    have HNE := Lib.hid hne
    have HV2 : Hid (Tr.linkErr g old.data.toList s.data.toList = c) := HV.out
    clear hat hne hS HV
    go_wp2_with (go_at_call 25; (with_reducible refine useC HAT.out ?_); rintro e w1 ⟨rfl, hf⟩; have HF := Lib.hid hf; clear hf; rw [hev]; clear hev)
    go_ret
    exact ⟨by rw [HV2.out, HEV.out]; rfl, (FrP.refl _ _).step HF.out (by simp), .inr ⟨by rw [HV2.out]; exact HNE.out, HF.out⟩⟩
  | ok n =>
    have HATE := Lib.hid hat
    rw [hat] at HAT HV
    have hd := Tr.atV_dom hS.rootD hS.closed hat
    have hnode := hS.node n hd
    unfold fndV at HAT
    clear hat
    cases he : g.ent n with
    | some m =>
      obtain ⟨h0, -⟩ := hnode.dir he
      have HV2 : Hid (Tr.linkErr g old.data.toList s.data.toList = 3) := by
        have h1 : Tr.linkErr g old.data.toList s.data.toList = if (g.ent n).isSome = true then 3 else Tr.addErr g s.data.toList := HV.out
        rw [he] at h1
        exact h1
      have HB := Lib.hid (fun W (hW : Fr [] w W) => (show W.cell? ⟨n, 0, none⟩ = some (.map (some (g.mb n))) by rw [cell_of_row _ _ _ _ _ _ (hW.get h0 (by simp))]; rfl))
      clear h0 hnode he HV hd hS
      go_wp2_with (go_at_call 25; (with_reducible refine useC HAT.out ?_); rintro e w1 ⟨rfl, hf⟩; have HF := Lib.hid hf; have n0 := HB.out w1 hf; have q0 := mapNilN w1 (some (g.mb n)); clear hf)
      go_ret
      exact ⟨by rw [HV2.out]; rfl, (FrP.refl _ _).step HF.out (by simp), .inr ⟨by rw [HV2.out]; decide, HF.out⟩⟩
    | none =>
      have h0 := hnode.file he
      have HV2 : Hid (Tr.linkErr g old.data.toList s.data.toList = Tr.addErr g s.data.toList) := by
        have h1 : Tr.linkErr g old.data.toList s.data.toList = if (g.ent n).isSome = true then 3 else Tr.addErr g s.data.toList := HV.out
        rw [he] at h1
        exact h1
      have HB := Lib.hid (fun W (hW : Fr [] w W) => (show W.cell? ⟨n, 0, none⟩ = some (.map none) by rw [cell_of_row _ _ _ _ _ _ (hW.get h0 (by simp))]; rfl))
      have HADD := Lib.hid (fun W (hW : Fr [] w W) => tr_add W tb g dom K n s (hS.step hW) hd hK (fun d x hs _ => Tr.spot_add_ok hS.ok hs (fun e => by
        obtain ⟨P, -, -, h3⟩ := Tr.spot_at hs
        rw [← e, he] at h3
        cases h3) (fun y => by unfold Tr.kid; rw [he]; rfl) (fun h => by rw [he] at h; cases h)))
      have HENT := Lib.hid he
      clear h0 hnode he HV hd hS
      go_wp2_with (first
        | (go_at_call 25; (with_reducible refine useC HAT.out ?_); rintro e w1 ⟨rfl, hf⟩; have HF := Lib.hid hf; have n0 := HB.out w1 hf; have q0 := mapNilN w1 none; clear hf)
        | (have h' := HF; go_at_call 29; (refine useC (HADD.out w1 HF.out) ?_); intro e w2 ha; obtain ⟨v, hv⟩ : ∃ v, errV (Tr.addErr g s.data.toList) = v := ⟨_, rfl⟩; obtain rfl : e = .returned v := (by rw [← hv]; exact ha.1); have HR := Lib.hid ha; clear ha h'))
      go_ret
      obtain ⟨r1, r2, r3⟩ := HR.out
      refine ⟨by rw [HV2.out]; exact r1, ((FrP.refl _ w).step HF.out (by simp)).trans r2 (fun k hk => .inl hk), ?_⟩
      rw [HV2.out]
      rcases r3 with ⟨a, d, x, b, c⟩ | ⟨a, b⟩
      · exact .inl ⟨a, n, d, x, HATE.out, HENT.out, a, b, c⟩
      · exact .inr ⟨a, HF.out.trans b⟩
end Go.Proofs.YtnglhfeialomgaaDoor
