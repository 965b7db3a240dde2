/- The contracts of Told and of the laws' own Error. -/

import Derived.Test.YtnglhfeialomgaaDoorTd21
import Derived.Test.YtnglhfeialomgaaDoorTd25
namespace Go.Proofs.YtnglhfeialomgaaDoor
open Go.RowKit

theorem told_nil (w : World) : Calls Tryd.prog 34 #[.nilIface] w fun e w' => e = .returned (.int .i64 0) ∧ Fr [] w w' := by
  go_enter Tryd.func34, Tryd.ntmps34
  go_wp2
  go_ret
  exact ⟨rfl, by repeat (first | exact Fr.refl _ _ | apply Fr.alloc)⟩
theorem told_err (n : Int) (w : World) (hg : ErrType w) : Calls Tryd.prog 34 #[.iface 57 (.int .i64 n)] w fun e w' => e = .returned (.int .i64 n) ∧ Fr [] w w' := by
  have hlt : 1 < w.heap.size := block_lt_of_cell hg
  have HG := Lib.hid hg
  clear hg
  go_enter Tryd.func34, Tryd.ntmps34
  go_wp2_with (go_at_call 46; (with_reducible refine useC (as_hit n ⟨w.heap.size, 0, none⟩ (.int .i64 0) _ ?_ ?_ ?_) ?_); exact HG.out.fr ((Fr.refl [] w).alloc _) (by simp); simp; simp; rintro e w' ⟨rfl, rfl⟩)
  go_ret
  exact ⟨rfl, by repeat (first | exact Fr.refl _ _ | apply Fr.alloc)⟩
/-- The laws' own Error: is an error the one told? -/
theorem error_any (c k : Int) (w : World) (hg : ErrType w) : Calls Tryd.prog 18 #[errV c, .int .i64 k] w (OkB (decide (c = k)) w) := by
  have HG := Lib.hid hg
  clear hg
  have hb : decide (c = k) = (c == k) := by by_cases h : c = k <;> simp [h]
  rw [hb]
  clear hb
  by_cases hc : c = 0
  · subst hc
    unfold errV
    rw [if_pos rfl]
    go_enter Tryd.func18, Tryd.ntmps18
    go_wp2_with (go_at_call 34; (with_reducible refine useC (told_nil _) ?_); rintro e w' ⟨rfl, hF⟩; have HF := Lib.hid hF; clear hF)
    go_ret
    exact ⟨rfl, HF.out⟩
  · rw [errV_no hc]
    go_enter Tryd.func18, Tryd.ntmps18
    go_wp2_with (go_at_call 34; (with_reducible refine useC (told_err c _ HG.out) ?_); rintro e w' ⟨rfl, hF⟩; have HF := Lib.hid hF; clear hF)
    go_ret
    exact ⟨rfl, HF.out⟩
theorem error_at (c k : Int) (w : World) (hg : ErrType w) : Calls Tryd.prog 18 #[.iface 57 (.int .i64 c), .int .i64 k] w (OkB (c == k) w) := by
  have HG := Lib.hid hg
  clear hg
  go_enter Tryd.func18, Tryd.ntmps18
  go_wp2_with (go_at_call 34; (with_reducible refine useC (told_err c _ HG.out) ?_); rintro e w' ⟨rfl, hF⟩; have HF := Lib.hid hF; clear hF)
  go_ret
  exact ⟨rfl, HF.out⟩
theorem error_yes (c : Int) (w : World) (hg : ErrType w) : Calls Tryd.prog 18 #[errV c, .int .i64 c] w (OkT w) :=
  (error_any c c w hg).mono fun _ _ ⟨h1, h2⟩ => ⟨by rw [h1, decide_eq_true rfl], h2⟩
end Go.Proofs.YtnglhfeialomgaaDoor
/- A text's last byte; a text's beginning. -/
namespace Go.Proofs.YtnglhfeialomgaaDoor
theorem last_byte {a : List UInt8} (ha : a ≠ []) : ∃ (n : Nat) (h : n < (Pa.mk a).size) (x : Int), ((Pa.mk a).size : Int) - 1 = n ∧ ((((Pa.mk a)[n]'h).toNat : Nat) : Int) = x ∧ (x = 47 ↔ a.getLast? = some 47) := by
  have hl : 0 < a.length := List.length_pos_iff.2 ha
  have hs := Pa.mk_size a
  have hn : a.length - 1 < (Pa.mk a).size := by omega
  have hn' : a.length - 1 < a.length := by omega
  refine ⟨a.length - 1, hn, _, by omega, rfl, ?_⟩
  have e : (Pa.mk a)[a.length - 1]'hn = a[a.length - 1]'hn' := by
    have : (Pa.mk a).data.toList[a.length - 1]? = a[a.length - 1]? := by rw [Pa.mk_list]
    have h1 : (Pa.mk a)[a.length - 1]'hn = (Pa.mk a).data.toList[a.length - 1]'(by rw [Pa.mk_list]; exact hn') := rfl
    rw [h1]
    apply Option.some.inj
    rw [← List.getElem?_eq_getElem, ← List.getElem?_eq_getElem]
    exact this
  rw [e, List.getLast?_eq_getElem?, List.getElem?_eq_getElem hn']
  constructor
  · intro h
    congr 1
    apply UInt8.toNat_inj.1
    show _ = 47
    omega
  · intro h
    rw [Option.some.inj h]; rfl
theorem mk_head (b : List UInt8) (n : Nat) : (Pa.mk b).extract 0 n = Pa.mk (b.take n) := by
  have := Lib.extract_eq (Pa.mk b) 0 n
  rw [Pa.mk_list, List.drop_zero, Nat.sub_zero] at this
  exact this
end Go.Proofs.YtnglhfeialomgaaDoor

/- What Walk tells, text by text: its names, its last byte, the directory that lists it; in plain Lean. -/
namespace Go.Proofs.YtnglhfeialomgaaDoor
namespace Tr

structure Tw (g : G) (s : List UInt8) (P : List Nme) (x : Nme) (d c : Nat) (m : Nme → Option Nat) (b : Bool) : Prop where
  parts : Pa.parts s = (P ++ [x], 0)
  txt : s = Pa.shown (P ++ [x]) ++ (if b = true then [47] else [])
  last : s.getLast? = some 47 ↔ b = true
  isD : (g.ent c).isSome = b
  fP : fnd g g.root P = .ok d
  em : g.ent d = some m
  mx : m x = some c
  atP : atV g (Pa.shown P) = .ok d
  atS : atV g s = .ok c
  atX : atV g (Pa.shown (P ++ [x])) = .ok c
  long : Pa.long (P ++ [x]) ≤ 100
  longP : Pa.long P ≤ 100
  len : s.length ≤ 60
  name : Pa.IsName x
theorem txtB_no (p : List Nme) : txtB p false = Pa.shown p := by
  show Pa.shown p ++ (if false = true then [47] else []) = _
  rw [if_neg (by decide), List.append_nil]
theorem tw_of {g : G} (hO : OK g) {s : List UInt8} (h : InW g s) : ∃ P x d c m b, Tw g s P x d c m b := by
  obtain ⟨p, c, hpn, hf, rfl⟩ := h
  have hN := fnd_names hO p _ c hf
  have hL := hO.short p c hf
  obtain ⟨P, x, rfl⟩ : ∃ P x, p = P ++ [x] := ⟨p.dropLast, p.getLast hpn, (List.dropLast_concat_getLast hpn).symm⟩
  obtain ⟨d, m, e, h1, h2, h3, h4⟩ := fnd_front hf
  injection h4 with h4
  subst h4
  have hNP : ∀ y ∈ P, Pa.IsName y := fun y hy => hN y (by simp [hy])
  have hLP : P.length ≤ 8 := by rw [List.length_append] at hL; omega
  have e1 : Pa.parts (txt g (P ++ [x]) e) = (P ++ [x], 0) := parts_txt hN hL _
  have e2 : Pa.parts (Pa.shown P) = (P, 0) := by rw [← txtB_no]; exact parts_txt hNP hLP _
  have e3 : Pa.parts (Pa.shown (P ++ [x])) = (P ++ [x], 0) := by rw [← txtB_no]; exact parts_txt hN hL _
  have l1 := long_names hN
  have l2 := long_names hNP
  refine ⟨P, x, d, e, m, (g.ent e).isSome, e1, rfl, ⟨fun h => txt_slash hN hpn h, fun h => ?_⟩, rfl, h1, h2, h3, atV_of e2 h1, atV_of e1 hf, atV_of e3 hf, by omega, by omega, (Pa.parts_ok e1).1, hN x (by simp)⟩
  show (txtB (P ++ [x]) (g.ent e).isSome).getLast? = some 47
  rw [h, txtB_dir, List.getLast?_append]
  rfl
end Tr
end Go.Proofs.YtnglhfeialomgaaDoor
