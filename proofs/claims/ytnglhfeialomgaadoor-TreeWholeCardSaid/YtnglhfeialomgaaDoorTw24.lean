/- What Walk hands a law; nodes made, files named where there is room; a row of three texts. -/

import Derived.Test.YtnglhfeialomgaaDoorTw21
import Derived.Test.YtnglhfeialomgaaDoorTw23
namespace Go.Proofs.YtnglhfeialomgaaDoor
open Go.RowKit

/-- What Walk hands a law. -/
theorem trl_Walk {w0 w : World} {tb K : Nat} {g : Tr.G} {dom : Nat → Prop} (h : TrL w0 w tb g dom K) :
    Calls Tryd.prog 11 #[.pointer (some ⟨tb, 0, none⟩)] w fun e w' => ∃ v l gv, e = .returned v ∧ (w.heap.size ≤ gv ∨ l = []) ∧ SlR strE w' v gv l ∧ Tr.WalkIs g l ∧ (l.length : Int) = g.many ∧ Fr [] w w' ∧ TrL w0 w' tb g dom K :=
  (tr_Walk w tb g dom K h.s h.cn).mono fun e w' ⟨v, l, gv, he, hg, hs, hw, hf⟩ => ⟨v, l, gv, he, hg, hs, hw, h.cn.walk h.s.ok hw, hf, h.step hf⟩
theorem errV0 : errV 0 = .nilIface := rfl
/-- A node made where there is room for it. -/
theorem MakL.ok {w0 w' : World} {tb K : Nat} {g : Tr.G} {dom : Nat → Prop} {s : List UInt8} {dir : Bool} {e : Ending} {d : Nat} {x : Tr.Nme} (h : MakL w0 tb g dom K s dir e w') (h0 : Tr.addErr g s = 0) (hs : Tr.spot g s = .at_ d x) : e = .returned .nilIface ∧ ∃ c o, ¬ dom c ∧ Option.isSome o = dir ∧ TrL w0 w' tb (Tr.addG (Tr.newN g c o) d x c) (fun b => dom b ∨ b = c) (K + 1) := by
  obtain ⟨he, c, o, hc, ho, hr⟩ := h
  rw [h0, errV0] at he
  rcases hr with ⟨-, d', x', hs', h⟩ | ⟨h, -⟩
  · rw [hs] at hs'
    injection hs' with e1 e2
    subst e1 e2
    exact ⟨he, c, o, hc, ho, h⟩
  · exact absurd h0 h
theorem LinkL.ok {w0 w' : World} {tb K : Nat} {g : Tr.G} {dom : Nat → Prop} {old s : List UInt8} {e : Ending} {d n : Nat} {x : Tr.Nme} (h : LinkL w0 tb g dom K old s e w') (h0 : Tr.linkErr g old s = 0) (ha : atV g old = .ok n) (hs : Tr.spot g s = .at_ d x) : e = .returned .nilIface ∧ TrL w0 w' tb (Tr.addG g d x n) dom (K + 1) := by
  obtain ⟨he, hr⟩ := h
  rw [h0, errV0] at he
  rcases hr with ⟨-, n', d', x', ha', -, -, hs', h⟩ | ⟨h, -⟩
  · rw [hs] at hs'
    injection hs' with e1 e2
    rw [ha] at ha'
    injection ha' with e3
    subst e1 e2 e3
    exact ⟨he, h⟩
  · exact absurd h0 h
theorem slR_alloc {w : World} {v : Value} {g : Nat} {l : List (List UInt8)} (h : SlR strE w v g l) (o : Obj) : SlR strE (w.alloc o) v g l := by
  rcases h with h | ⟨a, c, e, h1, h2, h3⟩
  · exact .inl h
  · exact .inr ⟨a, c, e, h1, h2, fun i hi r hr => by
      have h4 := h3 i hi r hr
      have h5 : ∃ x, w.cell? ⟨g, a + i * strE.k + r, none⟩ = some x := by
        rw [h4]
        have hr : r < 1 := hr
        obtain rfl : r = 0 := by omega
        exact ⟨_, rfl⟩
      obtain ⟨x, hx⟩ := h5
      rw [← h4, hx]
      exact ((Fr.refl [] w).alloc o).cell hx (by simp)⟩
theorem three_lit (w : World) : SlR strE (w.alloc (.cells #[.string ⟨#[47, 97, 47]⟩, .string ⟨#[47, 97, 47, 120]⟩, .string ⟨#[47, 121]⟩] 9)) (.slice (some ⟨w.heap.size, 0, none⟩) 3 3) w.heap.size [[47, 97, 47], [47, 97, 47, 120], [47, 121]] := by
  refine .inr ⟨0, 3, rfl, by decide, by unfold maxLen; omega, fun i hi r hr => ?_⟩
  have hr : r < 1 := hr
  obtain rfl : r = 0 := by omega
  rw [cell_of_row _ _ _ _ _ _ (heap_alloc_new w _)]
  have hi : i < 3 := hi
  match i, hi with
  | 0, _ => rfl
  | 1, _ => rfl
  | 2, _ => rfl
end Go.Proofs.YtnglhfeialomgaaDoor
/- did, grown. -/
namespace Go.Proofs.YtnglhfeialomgaaDoor
open Go.RowKit

def KeepL (w0 : World) (tb : Nat) (g : Tr.G) (dom : Nat → Prop) (K : Nat) (e : Ending) (w' : World) : Prop := e = .returned .nilIface ∧ TrL w0 w' tb g dom K
/-- What a step does. -/
def DidL (w0 : World) (tb : Nat) (g : Tr.G) (dom : Nat → Prop) (K : Nat) : List (List UInt8) → Ending → World → Prop
  | [a, s] => if a = [100] then MakL w0 tb g dom K s true else if a = [102] then MakL w0 tb g dom K s false else if a = [120] then DropL w0 tb g dom K s else KeepL w0 tb g dom K
  | [a, s, t] => if a = [108] then LinkL w0 tb g dom K s t else if a = [109] then MoveL w0 tb g dom K s t else KeepL w0 tb g dom K
  | _ => KeepL w0 tb g dom K
theorem DidL.some {w0 w' : World} {tb K : Nat} {g : Tr.G} {dom : Nat → Prop} {l : List (List UInt8)} {e : Ending} (h : DidL w0 tb g dom K l e w') : ∃ c g' dom', e = .returned (errV c) ∧ TrL w0 w' tb g' dom' (K + 2) := by
  have hm : ∀ {s : List UInt8} {dir : Bool}, MakL w0 tb g dom K s dir e w' → ∃ c g' dom', e = .returned (errV c) ∧ TrL w0 w' tb g' dom' (K + 2) := fun ⟨he, c, o, _, _, hr⟩ => by
    rcases hr with ⟨-, d, x, -, h⟩ | ⟨-, h⟩
    · exact ⟨_, _, _, he, h.mono (by omega)⟩
    · exact ⟨_, _, _, he, h.mono (by omega)⟩
  have hk : KeepL w0 tb g dom K e w' → ∃ c g' dom', e = .returned (errV c) ∧ TrL w0 w' tb g' dom' (K + 2) := fun ⟨he, h⟩ => ⟨0, _, _, he, h.mono (by omega)⟩
  unfold DidL at h
  split at h
  · split at h
    · exact hm h
    · split at h
      · exact hm h
      · split at h
        · obtain ⟨he, ⟨-, d, x, n, -, -, -, h⟩ | ⟨-, h⟩⟩ := h
          · exact ⟨_, _, _, he, h.mono (by omega)⟩
          · exact ⟨_, _, _, he, h.mono (by omega)⟩
        · exact hk h
  · split at h
    · obtain ⟨he, ⟨-, n, d, x, -, -, -, -, h⟩ | ⟨-, h⟩⟩ := h
      · exact ⟨_, _, _, he, h.mono (by omega)⟩
      · exact ⟨_, _, _, he, h.mono (by omega)⟩
    · split at h
      · obtain ⟨he, ⟨-, P, d, x, n, P', d', x', -, -, -, -, h⟩ | ⟨-, h⟩⟩ := h
        · exact ⟨_, _, _, he, h⟩
        · exact ⟨_, _, _, he, h.mono (by omega)⟩
      · exact hk h
  · exact hk h
section
variable (w0 w : World) (tb K : Nat) (g : Tr.G) (dom : Nat → Prop) (hL : TrL w0 w tb g dom K) (hK : K ≤ 99000) (gl : Nat)
include hL hK
set_option maxRecDepth 100000 in
set_option maxHeartbeats 4000000 in
theorem did_2 (a s : List UInt8) (o c : Nat) (_ : 2 ≤ c) (k0 : w.cell? ⟨gl, o, none⟩ = some (.string (Pa.mk a))) (k1 : w.cell? ⟨gl, o + 1, none⟩ = some (.string (Pa.mk s))) :
    Calls Tryd.prog 24 #[.pointer (some ⟨tb, 0, none⟩), .slice (some ⟨gl, o, none⟩) 2 c] w (DidL w0 tb g dom K [a, s]) := by
  have HD := Lib.hid (trl_Dir hL (by omega) (Pa.mk s))
  have HF := Lib.hid (trl_File hL (by omega) (Pa.mk s))
  have HX := Lib.hid (trl_Drop hL (by omega) (Pa.mk s))
  rw [Pa.mk_list] at HD HF HX
  have HL := Lib.hid hL
  have hs : DidL w0 tb g dom K [a, s] = if a = [100] then MakL w0 tb g dom K s true else if a = [102] then MakL w0 tb g dom K s false else if a = [120] then DropL w0 tb g dom K s else KeepL w0 tb g dom K := rfl
  rw [hs]
  clear hL hs
  by_cases h1 : a = [100]
  · rw [if_pos h1]
    have e1 : ((Pa.mk a).toList == [100]) = true := by rw [mk_toList]; exact beq_iff_eq.2 h1
    clear h1 HF HX
    generalize Pa.mk a = ma at *
    generalize Pa.mk s = ms at *
    go_enter Tryd.func24, Tryd.ntmps24
    go_wp2_with (go_at_call 17; (with_reducible refine useC HD.out ?_); intro e w1 h; obtain ⟨v, hv⟩ : ∃ v, e = .returned v := ⟨_, h.1⟩; subst hv; have HR := Lib.hid h; clear h)
    go_ret
    exact HR.out
  · rw [if_neg h1]
    have e1 : ((Pa.mk a).toList == [100]) = false := by rw [mk_toList]; exact beq_eq_false_iff_ne.2 h1
    by_cases h2 : a = [102]
    · rw [if_pos h2]
      have e2 : ((Pa.mk a).toList == [102]) = true := by rw [mk_toList]; exact beq_iff_eq.2 h2
      clear h1 h2 HD HX
      generalize Pa.mk a = ma at *
      generalize Pa.mk s = ms at *
      go_enter Tryd.func24, Tryd.ntmps24
      go_wp2_with (go_at_call 16; (with_reducible refine useC HF.out ?_); intro e w1 h; obtain ⟨v, hv⟩ : ∃ v, e = .returned v := ⟨_, h.1⟩; subst hv; have HR := Lib.hid h; clear h)
      go_ret
      exact HR.out
    · rw [if_neg h2]
      have e2 : ((Pa.mk a).toList == [102]) = false := by rw [mk_toList]; exact beq_eq_false_iff_ne.2 h2
      by_cases h3 : a = [120]
      · rw [if_pos h3]
        have e3 : ((Pa.mk a).toList == [120]) = true := by rw [mk_toList]; exact beq_iff_eq.2 h3
        clear h1 h2 h3 HD HF
        generalize Pa.mk a = ma at *
        generalize Pa.mk s = ms at *
        go_enter Tryd.func24, Tryd.ntmps24
        go_wp2_with (go_at_call 13; (with_reducible refine useC HX.out ?_); intro e w1 h; obtain ⟨v, hv⟩ : ∃ v, e = .returned v := ⟨_, h.1⟩; subst hv; have HR := Lib.hid h; clear h)
        go_ret
        exact HR.out
      · rw [if_neg h3]
        have e3 : ((Pa.mk a).toList == [120]) = false := by rw [mk_toList]; exact beq_eq_false_iff_ne.2 h3
        clear h1 h2 h3 HD HF HX
        generalize Pa.mk a = ma at *
        generalize Pa.mk s = ms at *
        go_enter Tryd.func24, Tryd.ntmps24
        go_wp2_with fail
        go_ret
        exact ⟨rfl, HL.out⟩
set_option maxRecDepth 100000 in
set_option maxHeartbeats 4000000 in
theorem did_3 (a s t : List UInt8) (o c : Nat) (_ : 3 ≤ c) (k0 : w.cell? ⟨gl, o, none⟩ = some (.string (Pa.mk a))) (k1 : w.cell? ⟨gl, o + 1, none⟩ = some (.string (Pa.mk s))) (k2 : w.cell? ⟨gl, o + 2, none⟩ = some (.string (Pa.mk t))) :
    Calls Tryd.prog 24 #[.pointer (some ⟨tb, 0, none⟩), .slice (some ⟨gl, o, none⟩) 3 c] w (DidL w0 tb g dom K [a, s, t]) := by
  have hL' := hL.step (Fr.refl [] w).drew
  have HD := Lib.hid (trl_Link hL' (by omega) (Pa.mk s) (Pa.mk t))
  have HF := Lib.hid (trl_Move hL' (by omega) (Pa.mk s) (Pa.mk t))
  rw [Pa.mk_list, Pa.mk_list] at HD HF
  have HL := Lib.hid hL
  have hs : DidL w0 tb g dom K [a, s, t] = if a = [108] then LinkL w0 tb g dom K s t else if a = [109] then MoveL w0 tb g dom K s t else KeepL w0 tb g dom K := rfl
  rw [hs]
  clear hL hs hL'
  by_cases h1 : a = [108]
  · rw [if_pos h1]
    have e1 : ((Pa.mk a).toList == [108]) = true := by rw [mk_toList]; exact beq_iff_eq.2 h1
    clear h1 HF
    generalize Pa.mk a = ma at *
    generalize Pa.mk s = ms at *
    generalize Pa.mk t = mt at *
    go_enter Tryd.func24, Tryd.ntmps24
    go_wp2_with fail
    (refine wp_region_mixq 7 [(true, 0), (true, 1), (true, 2), (true, 3), (true, 4), (true, 5), (true, 6)] (by kernel_rfl) (by kernel_rfl) ?_; simp only [pickOps, List.map_cons, List.map_nil, List.getD_cons_zero, List.getD_cons_succ, List.drop_succ_cons, List.drop_zero]; (iterate 7 (first | (refine wpMix_take (v := ?_) (by rfl) ?_ ?_; rotate_left; (focus (intro W hW; subst hW; go_simp; (try with_reducible rfl); done)); try simp only [Act.put, List.setIfInBounds_toArray, List.set_cons_zero, List.set_cons_succ]) | (refine wpMix_leave (by rfl) ?_; try simp only [Act.put, List.setIfInBounds_toArray, List.set_cons_zero, List.set_cons_succ]))); refine wpMix_nil ?_)
    go_wp2_with (go_at_call 12; (with_reducible refine useC HD.out ?_); intro e w1 h; obtain ⟨v, hv⟩ : ∃ v, e = .returned v := ⟨_, h.1⟩; subst hv; have HR := Lib.hid h; clear h)
    go_ret
    exact HR.out
  · rw [if_neg h1]
    have e1 : ((Pa.mk a).toList == [108]) = false := by rw [mk_toList]; exact beq_eq_false_iff_ne.2 h1
    by_cases h2 : a = [109]
    · rw [if_pos h2]
      have e2 : ((Pa.mk a).toList == [109]) = true := by rw [mk_toList]; exact beq_iff_eq.2 h2
      clear h1 h2 HD
      generalize Pa.mk a = ma at *
      generalize Pa.mk s = ms at *
      generalize Pa.mk t = mt at *
      go_enter Tryd.func24, Tryd.ntmps24
      go_wp2_with fail
      (refine wp_region_mixq 7 [(true, 0), (true, 1), (true, 2), (true, 3), (true, 4), (true, 5), (true, 6)] (by kernel_rfl) (by kernel_rfl) ?_; simp only [pickOps, List.map_cons, List.map_nil, List.getD_cons_zero, List.getD_cons_succ, List.drop_succ_cons, List.drop_zero]; (iterate 7 (first | (refine wpMix_take (v := ?_) (by rfl) ?_ ?_; rotate_left; (focus (intro W hW; subst hW; go_simp; (try with_reducible rfl); done)); try simp only [Act.put, List.setIfInBounds_toArray, List.set_cons_zero, List.set_cons_succ]) | (refine wpMix_leave (by rfl) ?_; try simp only [Act.put, List.setIfInBounds_toArray, List.set_cons_zero, List.set_cons_succ]))); refine wpMix_nil ?_)
      go_wp2_with (go_at_call 14; (with_reducible refine useC HF.out ?_); intro e w1 h; obtain ⟨v, hv⟩ : ∃ v, e = .returned v := ⟨_, h.1⟩; subst hv; have HR := Lib.hid h; clear h)
      go_ret
      exact HR.out
    · rw [if_neg h2]
      have e2 : ((Pa.mk a).toList == [109]) = false := by rw [mk_toList]; exact beq_eq_false_iff_ne.2 h2
      clear h1 h2 HD HF
      generalize Pa.mk a = ma at *
      generalize Pa.mk s = ms at *
      generalize Pa.mk t = mt at *
      go_enter Tryd.func24, Tryd.ntmps24
      go_wp2_with fail
      go_ret
      exact ⟨rfl, HL.out⟩
omit hK in
set_option maxRecDepth 100000 in
set_option maxHeartbeats 4000000 in
theorem did_n (A : Option Addr) (n c : Nat) (hn : n ≤ 9223372036854775807) (h2 : n ≠ 2) (h3 : n ≠ 3) :
    Calls Tryd.prog 24 #[.pointer (some ⟨tb, 0, none⟩), .slice A n c] w (KeepL w0 tb g dom K) := by
  have HL := Lib.hid hL
  have e2 : ((n : Int) == 2) = false := beq_eq_false_iff_ne.2 (by omega)
  have e3 : ((n : Int) == 3) = false := beq_eq_false_iff_ne.2 (by omega)
  clear hL h2 h3
  go_enter Tryd.func24, Tryd.ntmps24
  go_wp2_with fail
  go_ret
  exact ⟨rfl, HL.out⟩
theorem tr_did (v : Value) (l : List (List UInt8)) (h : SlR strE w v gl l) :
    Calls Tryd.prog 24 #[.pointer (some ⟨tb, 0, none⟩), v] w (DidL w0 tb g dom K l) := by
  obtain ⟨A, o, c, rfl, hm, hcap, hA, hc⟩ := strs_cell h
  match l, hm, hcap, hA, hc with
  | [a, s], hm, hcap, hA, hc =>
    obtain rfl := hA (by simp)
    exact did_2 w0 w tb K g dom hL hK gl a s o c hcap (hc 0 (by simp)) (hc 1 (by simp))
  | [a, s, t], hm, hcap, hA, hc =>
    obtain rfl := hA (by simp)
    exact did_3 w0 w tb K g dom hL hK gl a s t o c hcap (hc 0 (by simp)) (hc 1 (by simp)) (hc 2 (by simp))
  | [], hm, _, _, _ => exact did_n w0 w tb K g dom hL A 0 c hm (by decide) (by decide)
  | [a], hm, _, _, _ => exact did_n w0 w tb K g dom hL A 1 c hm (by decide) (by decide)
  | a :: b :: d :: e :: r, hm, _, _, _ => exact did_n w0 w tb K g dom hL A (a :: b :: d :: e :: r).length c hm (by simp) (by simp)
end
end Go.Proofs.YtnglhfeialomgaaDoor
