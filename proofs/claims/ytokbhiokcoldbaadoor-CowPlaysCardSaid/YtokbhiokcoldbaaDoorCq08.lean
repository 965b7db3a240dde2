/- The document's Put: what each operation of the region that makes three rows keeps (printed by wip/gen_cq.py). No program in sight. -/
import Derived.Deep.Cut
import Derived.Deep.CutRange
import Derived.Deep.CutBlock
import Derived.Test.YtokbhiokcoldbaaDoorCq03
import Derived.Test.YtokbhiokcoldbaaDoorCq05
import Derived.Test.YtokbhiokcoldbaaDoorCq07
namespace Go.Proofs.YtokbhiokcoldbaaDoor
open Go.RowKit

/-- What holds all along: the old rows, the call's two variables. -/
structure J0 (w0 : World) (P : Nat → Prop) (L : Nat → Nat) (X X2 : Nat) (o1 o2 : Obj) (W : World) : Prop where
  kp : KpL P L w0 W
  box : W.heap[X]? = some o1
  out : W.heap[X2]? = some o2
section
variable {w0 W W' : World} {P : Nat → Prop} {L : Nat → Nat} {X X2 : Nat} {o1 o2 : Obj} {b : Option Nat}
theorem J0.still (h : J0 w0 P L X X2 o1 o2 W) (k : Fr [] W W') : J0 w0 P L X X2 o1 o2 W' := ⟨h.kp.step k, k.get h.box (by simp), k.get h.out (by simp)⟩
theorem J0.old (h : J0 w0 P L X X2 o1 o2 W) (k : W.grownBy W' b) (hP : ∀ g, b = some g → P g) (hk : ∀ g, b = some g → KeepB W W' g (L g)) (hX : ¬ P X) (hX2 : ¬ P X2) : J0 w0 P L X X2 o1 o2 W' :=
  ⟨h.kp.push k hP hk, (k.block X (lt_of_heap h.box) (fun e => hX (hP X e.symm))).trans h.box, (k.block X2 (lt_of_heap h.out) (fun e => hX2 (hP X2 e.symm))).trans h.out⟩
theorem J0.own (h : J0 w0 P L X X2 o1 o2 W) (k : W.grownBy W' b) (hN : ∀ g, b = some g → w0.heap.size ≤ g) (hX : X < w0.heap.size) (hX2 : X2 < w0.heap.size) : J0 w0 P L X X2 o1 o2 W' :=
  ⟨h.kp.own (R := fun g => b = some g) ((FrP.refl _ W).step (fr_grownB k) (fun g hg => .inl (by simpa using hg))) hN, (k.block X (lt_of_heap h.box) (fun e => by have := hN X e.symm; omega)).trans h.box, (k.block X2 (lt_of_heap h.out) (fun e => by have := hN X2 e.symm; omega)).trans h.out⟩
end
section
variable {N : Nat} {ρ : Nat → Nat} {w : World} {listed listed' : Array Bool} {k1 k2 tg p : Nat} {xs : List Int} {z : Int} {S : Six}
theorem SixF.up (h : SixF N ρ w listed k1 k2 tg xs z p S) (hp : 4 ≤ p) : SixF N ρ w listed k1 k2 tg xs z (p + 1) S :=
  ⟨h.e1, h.e2, fun e => by omega, fun e => by omega, fun e => by omega, fun _ => h.f hp⟩
theorem SixF.same (h : SixF N ρ w listed k1 k2 tg xs z p S) (l1 : listed'.getD k1 true = listed.getD k1 true) (l2 : listed'.getD k2 true = listed.getD k2 true) : SixF N ρ w listed' k1 k2 tg xs z p S :=
  ⟨fun e => h.e1 (l1 ▸ e), fun e => h.e2 (l2 ▸ e), h.r, h.s, h.c, h.f⟩
end
theorem own_form1 {w : World} {B e : Nat} {v : Value} {xs : List Int} {y : Int} (h : Own w B e v (xs ++ [y])) : ∃ g c, v = .slice (some ⟨g, 0, none⟩) (xs.length + 1) c ∧ xs.length + 1 ≤ c ∧ c ≤ maxLen := by
  obtain ⟨h1, h2⟩ := h
  rw [List.length_append, List.length_singleton] at h2
  rcases h2 with ⟨-, h2⟩ | ⟨g, cap, cur, rfl, hb, hg, hc, hm, -⟩
  · omega
  · exact ⟨g, cap, rfl, hc, hm⟩
/-- What holds when p operations of the chain are done. -/
structure CqJ (w0 : World) (P : Nat → Prop) (L : Nat → Nat) (X X2 : Nat) (o1 o2 : Obj) (K V M : List Int) (key : Int) (p : Nat) (listed : Array Bool) (W : World) (ρ : Nat → Nat) (XA XB XC : Six) : Prop where
  j : J0 w0 P L X X2 o1 o2 W
  a : SixF w0.heap.size ρ W listed 2 10 100 K key p XA
  b : SixF w0.heap.size ρ W listed 14 20 101 V 0 (p - 4) XB
  c : SixF w0.heap.size ρ W listed 24 30 102 M 0 (p - 8) XC
section
variable {w0 W W' : World} {P : Nat → Prop} {L : Nat → Nat} {X X2 : Nat} {o1 o2 : Obj} {K V M : List Int} {key : Int} {p : Nat} {listed : Array Bool} {ρ : Nat → Nat} {XA XB XC : Six} {v v' : Value}
theorem CqJ.lay2 (h : CqJ w0 P L X X2 o1 o2 K V M key p listed W ρ XA XB XC) : CqJ w0 P L X X2 o1 o2 K V M key p (listed.setIfInBounds 2 true) (W.alloc (.cells #[.int .i64 0] 3)) (rho ρ W.heap.size 2) { XA with a1 := .slice (some ⟨W.heap.size, 0, none⟩) 1 1 } XB XC :=
  ⟨h.j.still ((Fr.refl _ _).alloc _), h.a.lay1 h.j.kp.fr.size (getD_set_ne true (by decide)), h.b.still ((Fr.refl _ _).alloc _) 2 (getD_set_ne true (by decide)) (getD_set_ne true (by decide)), h.c.still ((Fr.refl _ _).alloc _) 2 (getD_set_ne true (by decide)) (getD_set_ne true (by decide))⟩
theorem CqJ.lay10 (h : CqJ w0 P L X X2 o1 o2 K V M key p listed W ρ XA XB XC) : CqJ w0 P L X X2 o1 o2 K V M key p (listed.setIfInBounds 10 true) (W.alloc (.cells #[.int .i64 key] 3)) (rho ρ W.heap.size 10) { XA with a2 := .slice (some ⟨W.heap.size, 0, none⟩) 1 1 } XB XC :=
  ⟨h.j.still ((Fr.refl _ _).alloc _), h.a.lay2 h.j.kp.fr.size (getD_set_ne true (by decide)), h.b.still ((Fr.refl _ _).alloc _) 10 (getD_set_ne true (by decide)) (getD_set_ne true (by decide)), h.c.still ((Fr.refl _ _).alloc _) 10 (getD_set_ne true (by decide)) (getD_set_ne true (by decide))⟩
theorem CqJ.go3 (h : CqJ w0 P L X X2 o1 o2 K V M key 0 listed W ρ XA XB XC) (ho : Own W' 0 3 v' (K ++ [0])) (k : W.grownBy W' v.ownBlock) (hP : ∀ g, v.ownBlock = some g → P g) (hk : ∀ g, v.ownBlock = some g → KeepB W W' g (L g)) (hX : ¬ P X) (hX2 : ¬ P X2) (hPN : ∀ g, P g → g < w0.heap.size) : CqJ w0 P L X X2 o1 o2 K V M key 1 (listed.setIfInBounds 3 true) W' (rho ρ W.heap.size 100) { XA with r := v' } XB XC :=
  ⟨h.j.old k hP hk hX hX2, h.a.go1 (Tn.old k hP) hPN (by decide) (by decide) (getD_set_ne true (by decide)) (getD_set_ne true (by decide)) ho, h.b.far (Tn.old (t := 100) k hP) hPN (by decide) (by decide) (by decide) (by decide) (getD_set_ne true (by decide)) (getD_set_ne true (by decide)), h.c.far (Tn.old (t := 100) k hP) hPN (by decide) (by decide) (by decide) (by decide) (getD_set_ne true (by decide)) (getD_set_ne true (by decide))⟩
theorem CqJ.go6 (h : CqJ w0 P L X X2 o1 o2 K V M key 1 listed W ρ XA XB XC) (k : Fr [] W W') (ho : Own W' W.heap.size 3 v' (K ++ [key])) : CqJ w0 P L X X2 o1 o2 K V M key 2 (listed.setIfInBounds 6 true) W' (rho ρ W.heap.size 100) { XA with s := v' } XB XC :=
  ⟨h.j.still k, h.a.go2 k h.j.kp.fr.size (getD_set_ne true (by decide)) (getD_set_ne true (by decide)) ho, h.b.still k 100 (getD_set_ne true (by decide)) (getD_set_ne true (by decide)), h.c.still k 100 (getD_set_ne true (by decide)) (getD_set_ne true (by decide))⟩
theorem CqJ.go8 (h : CqJ w0 P L X X2 o1 o2 K V M key 2 listed W ρ XA XB XC) {n g c : Nat} (hs : XA.s = .slice (some ⟨g, 0, none⟩) (K.length + 1) c) (hn : n = K.length) : CqJ w0 P L X X2 o1 o2 K V M key 3 (listed.setIfInBounds 8 true) W ρ { XA with c := .slice (some ⟨g, 0, none⟩) n c } XB XC :=
  ⟨h.j, by rw [hn]; exact h.a.go3 (getD_set_ne true (by decide)) (getD_set_ne true (by decide)) hs, h.b.same (getD_set_ne true (by decide)) (getD_set_ne true (by decide)), h.c.same (getD_set_ne true (by decide)) (getD_set_ne true (by decide))⟩
theorem CqJ.go11 (h : CqJ w0 P L X X2 o1 o2 K V M key 3 listed W ρ XA XB XC) (ho : Own W' w0.heap.size 3 v' (K ++ [key])) (k : W.grownBy W' XA.c.ownBlock) (hm : Moved W.heap.size XA.c v') (hX : X < w0.heap.size) (hX2 : X2 < w0.heap.size) (hPN : ∀ g, P g → g < w0.heap.size) : CqJ w0 P L X X2 o1 o2 K V M key 4 (listed.setIfInBounds 11 true) W' (rho ρ W.heap.size 100) { XA with f := v' } XB XC :=
  ⟨h.j.own k (fun g hg => ((h.a.c rfl).1.ge g hg).1) hX hX2, h.a.go4 hPN (by decide) (by decide) (getD_set_ne true (by decide)) (getD_set_ne true (by decide)) ho k hm, h.b.far ((h.a.c rfl).turn k) hPN (by decide) (by decide) (by decide) (by decide) (getD_set_ne true (by decide)) (getD_set_ne true (by decide)), h.c.far ((h.a.c rfl).turn k) hPN (by decide) (by decide) (by decide) (by decide) (getD_set_ne true (by decide)) (getD_set_ne true (by decide))⟩
theorem CqJ.lay14 (h : CqJ w0 P L X X2 o1 o2 K V M key p listed W ρ XA XB XC) : CqJ w0 P L X X2 o1 o2 K V M key p (listed.setIfInBounds 14 true) (W.alloc (.cells #[.int .i64 0] 3)) (rho ρ W.heap.size 14) XA { XB with a1 := .slice (some ⟨W.heap.size, 0, none⟩) 1 1 } XC :=
  ⟨h.j.still ((Fr.refl _ _).alloc _), h.a.still ((Fr.refl _ _).alloc _) 14 (getD_set_ne true (by decide)) (getD_set_ne true (by decide)), h.b.lay1 h.j.kp.fr.size (getD_set_ne true (by decide)), h.c.still ((Fr.refl _ _).alloc _) 14 (getD_set_ne true (by decide)) (getD_set_ne true (by decide))⟩
theorem CqJ.lay20 (h : CqJ w0 P L X X2 o1 o2 K V M key p listed W ρ XA XB XC) : CqJ w0 P L X X2 o1 o2 K V M key p (listed.setIfInBounds 20 true) (W.alloc (.cells #[.int .i64 0] 3)) (rho ρ W.heap.size 20) XA { XB with a2 := .slice (some ⟨W.heap.size, 0, none⟩) 1 1 } XC :=
  ⟨h.j.still ((Fr.refl _ _).alloc _), h.a.still ((Fr.refl _ _).alloc _) 20 (getD_set_ne true (by decide)) (getD_set_ne true (by decide)), h.b.lay2 h.j.kp.fr.size (getD_set_ne true (by decide)), h.c.still ((Fr.refl _ _).alloc _) 20 (getD_set_ne true (by decide)) (getD_set_ne true (by decide))⟩
theorem CqJ.go15 (h : CqJ w0 P L X X2 o1 o2 K V M key 4 listed W ρ XA XB XC) (ho : Own W' 0 3 v' (V ++ [0])) (k : W.grownBy W' v.ownBlock) (hP : ∀ g, v.ownBlock = some g → P g) (hk : ∀ g, v.ownBlock = some g → KeepB W W' g (L g)) (hX : ¬ P X) (hX2 : ¬ P X2) (hPN : ∀ g, P g → g < w0.heap.size) : CqJ w0 P L X X2 o1 o2 K V M key 5 (listed.setIfInBounds 15 true) W' (rho ρ W.heap.size 101) XA { XB with r := v' } XC :=
  ⟨h.j.old k hP hk hX hX2, (h.a.far (Tn.old (t := 101) k hP) hPN (by decide) (by decide) (by decide) (by decide) (getD_set_ne true (by decide)) (getD_set_ne true (by decide))).up (by decide), h.b.go1 (Tn.old k hP) hPN (by decide) (by decide) (getD_set_ne true (by decide)) (getD_set_ne true (by decide)) ho, h.c.far (Tn.old (t := 101) k hP) hPN (by decide) (by decide) (by decide) (by decide) (getD_set_ne true (by decide)) (getD_set_ne true (by decide))⟩
theorem CqJ.go17 (h : CqJ w0 P L X X2 o1 o2 K V M key 5 listed W ρ XA XB XC) (k : Fr [] W W') (ho : Own W' W.heap.size 3 v' (V ++ [0])) : CqJ w0 P L X X2 o1 o2 K V M key 6 (listed.setIfInBounds 17 true) W' (rho ρ W.heap.size 101) XA { XB with s := v' } XC :=
  ⟨h.j.still k, (h.a.still k 101 (getD_set_ne true (by decide)) (getD_set_ne true (by decide))).up (by decide), h.b.go2 k h.j.kp.fr.size (getD_set_ne true (by decide)) (getD_set_ne true (by decide)) ho, h.c.still k 101 (getD_set_ne true (by decide)) (getD_set_ne true (by decide))⟩
theorem CqJ.go19 (h : CqJ w0 P L X X2 o1 o2 K V M key 6 listed W ρ XA XB XC) {n g c : Nat} (hs : XB.s = .slice (some ⟨g, 0, none⟩) (V.length + 1) c) (hn : n = V.length) : CqJ w0 P L X X2 o1 o2 K V M key 7 (listed.setIfInBounds 19 true) W ρ XA { XB with c := .slice (some ⟨g, 0, none⟩) n c } XC :=
  ⟨h.j, (h.a.same (getD_set_ne true (by decide)) (getD_set_ne true (by decide))).up (by decide), by rw [hn]; exact h.b.go3 (getD_set_ne true (by decide)) (getD_set_ne true (by decide)) hs, h.c.same (getD_set_ne true (by decide)) (getD_set_ne true (by decide))⟩
theorem CqJ.go21 (h : CqJ w0 P L X X2 o1 o2 K V M key 7 listed W ρ XA XB XC) (ho : Own W' w0.heap.size 3 v' (V ++ [0])) (k : W.grownBy W' XB.c.ownBlock) (hm : Moved W.heap.size XB.c v') (hX : X < w0.heap.size) (hX2 : X2 < w0.heap.size) (hPN : ∀ g, P g → g < w0.heap.size) : CqJ w0 P L X X2 o1 o2 K V M key 8 (listed.setIfInBounds 21 true) W' (rho ρ W.heap.size 101) XA { XB with f := v' } XC :=
  ⟨h.j.own k (fun g hg => ((h.b.c rfl).1.ge g hg).1) hX hX2, (h.a.far ((h.b.c rfl).turn k) hPN (by decide) (by decide) (by decide) (by decide) (getD_set_ne true (by decide)) (getD_set_ne true (by decide))).up (by decide), h.b.go4 hPN (by decide) (by decide) (getD_set_ne true (by decide)) (getD_set_ne true (by decide)) ho k hm, h.c.far ((h.b.c rfl).turn k) hPN (by decide) (by decide) (by decide) (by decide) (getD_set_ne true (by decide)) (getD_set_ne true (by decide))⟩
theorem CqJ.lay24 (h : CqJ w0 P L X X2 o1 o2 K V M key p listed W ρ XA XB XC) : CqJ w0 P L X X2 o1 o2 K V M key p (listed.setIfInBounds 24 true) (W.alloc (.cells #[.int .i64 0] 3)) (rho ρ W.heap.size 24) XA XB { XC with a1 := .slice (some ⟨W.heap.size, 0, none⟩) 1 1 } :=
  ⟨h.j.still ((Fr.refl _ _).alloc _), h.a.still ((Fr.refl _ _).alloc _) 24 (getD_set_ne true (by decide)) (getD_set_ne true (by decide)), h.b.still ((Fr.refl _ _).alloc _) 24 (getD_set_ne true (by decide)) (getD_set_ne true (by decide)), h.c.lay1 h.j.kp.fr.size (getD_set_ne true (by decide))⟩
theorem CqJ.lay30 (h : CqJ w0 P L X X2 o1 o2 K V M key p listed W ρ XA XB XC) : CqJ w0 P L X X2 o1 o2 K V M key p (listed.setIfInBounds 30 true) (W.alloc (.cells #[.int .i64 0] 3)) (rho ρ W.heap.size 30) XA XB { XC with a2 := .slice (some ⟨W.heap.size, 0, none⟩) 1 1 } :=
  ⟨h.j.still ((Fr.refl _ _).alloc _), h.a.still ((Fr.refl _ _).alloc _) 30 (getD_set_ne true (by decide)) (getD_set_ne true (by decide)), h.b.still ((Fr.refl _ _).alloc _) 30 (getD_set_ne true (by decide)) (getD_set_ne true (by decide)), h.c.lay2 h.j.kp.fr.size (getD_set_ne true (by decide))⟩
theorem CqJ.go25 (h : CqJ w0 P L X X2 o1 o2 K V M key 8 listed W ρ XA XB XC) (ho : Own W' 0 3 v' (M ++ [0])) (k : W.grownBy W' v.ownBlock) (hP : ∀ g, v.ownBlock = some g → P g) (hk : ∀ g, v.ownBlock = some g → KeepB W W' g (L g)) (hX : ¬ P X) (hX2 : ¬ P X2) (hPN : ∀ g, P g → g < w0.heap.size) : CqJ w0 P L X X2 o1 o2 K V M key 9 (listed.setIfInBounds 25 true) W' (rho ρ W.heap.size 102) XA XB { XC with r := v' } :=
  ⟨h.j.old k hP hk hX hX2, (h.a.far (Tn.old (t := 102) k hP) hPN (by decide) (by decide) (by decide) (by decide) (getD_set_ne true (by decide)) (getD_set_ne true (by decide))).up (by decide), (h.b.far (Tn.old (t := 102) k hP) hPN (by decide) (by decide) (by decide) (by decide) (getD_set_ne true (by decide)) (getD_set_ne true (by decide))).up (by decide), h.c.go1 (Tn.old k hP) hPN (by decide) (by decide) (getD_set_ne true (by decide)) (getD_set_ne true (by decide)) ho⟩
theorem CqJ.go27 (h : CqJ w0 P L X X2 o1 o2 K V M key 9 listed W ρ XA XB XC) (k : Fr [] W W') (ho : Own W' W.heap.size 3 v' (M ++ [0])) : CqJ w0 P L X X2 o1 o2 K V M key 10 (listed.setIfInBounds 27 true) W' (rho ρ W.heap.size 102) XA XB { XC with s := v' } :=
  ⟨h.j.still k, (h.a.still k 102 (getD_set_ne true (by decide)) (getD_set_ne true (by decide))).up (by decide), (h.b.still k 102 (getD_set_ne true (by decide)) (getD_set_ne true (by decide))).up (by decide), h.c.go2 k h.j.kp.fr.size (getD_set_ne true (by decide)) (getD_set_ne true (by decide)) ho⟩
theorem CqJ.go29 (h : CqJ w0 P L X X2 o1 o2 K V M key 10 listed W ρ XA XB XC) {n g c : Nat} (hs : XC.s = .slice (some ⟨g, 0, none⟩) (M.length + 1) c) (hn : n = M.length) : CqJ w0 P L X X2 o1 o2 K V M key 11 (listed.setIfInBounds 29 true) W ρ XA XB { XC with c := .slice (some ⟨g, 0, none⟩) n c } :=
  ⟨h.j, (h.a.same (getD_set_ne true (by decide)) (getD_set_ne true (by decide))).up (by decide), (h.b.same (getD_set_ne true (by decide)) (getD_set_ne true (by decide))).up (by decide), by rw [hn]; exact h.c.go3 (getD_set_ne true (by decide)) (getD_set_ne true (by decide)) hs⟩
theorem CqJ.go31 (h : CqJ w0 P L X X2 o1 o2 K V M key 11 listed W ρ XA XB XC) (ho : Own W' w0.heap.size 3 v' (M ++ [0])) (k : W.grownBy W' XC.c.ownBlock) (hm : Moved W.heap.size XC.c v') (hX : X < w0.heap.size) (hX2 : X2 < w0.heap.size) (hPN : ∀ g, P g → g < w0.heap.size) : CqJ w0 P L X X2 o1 o2 K V M key 12 (listed.setIfInBounds 31 true) W' (rho ρ W.heap.size 102) XA XB { XC with f := v' } :=
  ⟨h.j.own k (fun g hg => ((h.c.c rfl).1.ge g hg).1) hX hX2, (h.a.far ((h.c.c rfl).turn k) hPN (by decide) (by decide) (by decide) (by decide) (getD_set_ne true (by decide)) (getD_set_ne true (by decide))).up (by decide), (h.b.far ((h.c.c rfl).turn k) hPN (by decide) (by decide) (by decide) (by decide) (getD_set_ne true (by decide)) (getD_set_ne true (by decide))).up (by decide), h.c.go4 hPN (by decide) (by decide) (getD_set_ne true (by decide)) (getD_set_ne true (by decide)) ho k hm⟩
end
/-- The call's values, in their slots. -/
def cqAct (a0 : Act) (XA XB XC : Six) : Act :=
  (((((((((((((((((a0.put (some 22) XA.a1).put (some 23) XA.r).put (some 26) XA.s).put (some 28) XA.c).put (some 30) XA.a2).put (some 31) XA.f).put (some 34) XB.a1).put (some 35) XB.r).put (some 37) XB.s).put (some 39) XB.c).put (some 40) XB.a2).put (some 41) XB.f).put (some 44) XC.a1).put (some 45) XC.r).put (some 47) XC.s).put (some 49) XC.c).put (some 50) XC.a2).put (some 51) XC.f
theorem put_self (a : Act) (i : Nat) : a.put (some i) (a.tmps.getD i undef) = a := by
  obtain ⟨t, d⟩ := a
  unfold Act.put
  simp only [Act.mk.injEq, and_true]
  refine Array.ext (by simp) fun j h1 h2 => ?_
  rw [Array.getElem_setIfInBounds]
  split
  · rename_i e
    subst e
    simp [h2]
  · rfl
theorem cqAct_self (a0 : Act) : cqAct a0 ⟨a0.tmps.getD 22 undef, a0.tmps.getD 23 undef, a0.tmps.getD 26 undef, a0.tmps.getD 28 undef, a0.tmps.getD 30 undef, a0.tmps.getD 31 undef⟩ ⟨a0.tmps.getD 34 undef, a0.tmps.getD 35 undef, a0.tmps.getD 37 undef, a0.tmps.getD 39 undef, a0.tmps.getD 40 undef, a0.tmps.getD 41 undef⟩ ⟨a0.tmps.getD 44 undef, a0.tmps.getD 45 undef, a0.tmps.getD 47 undef, a0.tmps.getD 49 undef, a0.tmps.getD 50 undef, a0.tmps.getD 51 undef⟩ = a0 := by
  simp only [cqAct, put_self]
end Go.Proofs.YtokbhiokcoldbaaDoor
/- The document's versions: place of a key, above. -/
namespace Go.Proofs.YtokbhiokcoldbaaDoor
open Go.RowKit

/-- Where a key is; -1: nowhere. -/
def plc (K : List Int) (x : Int) : Int := if x ∈ K then ((K.idxOf x : Nat) : Int) else -1
set_option maxRecDepth 100000 in
theorem cq_place (w : World) (v : Value) (g : Nat) (K : List Int) (x : Int) (h : Sl w v g K) (hnd : K.Nodup) :
    Calls Tryd.prog 46 #[v, .int .i64 x] w fun e w' => e = .returned (.int .i64 (plc K x)) ∧ w = w' := by
  obtain ⟨A, o, c, rfl, hm, hA, hc⟩ := h.form
  clear h
  have HA := Lib.hid hA
  have HC := Lib.hid hc
  have HND := Lib.hid hnd
  clear hA hc hnd
  go_enter Tryd.func46, Tryd.ntmps46
  go_wp2
  go_loop [5] (fun i => ∃ k : Nat, k ≤ K.length ∧ i = .int .i64 k ∧ Hid (∀ j, j < k → nth K j ≠ x)) (fun i => K.length - (intOf i).toNat)
  case atStart => exact ⟨0, Nat.zero_le _, rfl, fun j hj => absurd hj (Nat.not_lt_zero _)⟩
  case round =>
    obtain ⟨k, hk, rfl, hno⟩ := hrel
    by_cases hlt : k < K.length
    · obtain rfl := HA.out (by omega)
      have hcell := HC.out k hlt
      by_cases he : nth K k = x
      · have eB : (nth K k == x) = true := by simpa using he
        have HE : Hid (plc K x = k) := by
          show plc K x = k
          have h1 := Co.idx_nth HND.out hlt
          have h2 := Co.nth_mem hlt
          rw [he] at h1 h2
          unfold plc
          rw [if_pos h2, h1]
        clear he
        go_wp2
        go_ret
        exact ⟨by rw [HE.out]; rfl, rfl⟩
      · have eB : (nth K k == x) = false := by simpa using he
        have HE := Lib.hid he
        clear he
        go_wp2
        go_round
        case rel =>
          refine ⟨k + 1, by omega, by go_num, fun j hj => ?_⟩
          by_cases hjk : j = k
          · subst hjk; exact HE.out
          · exact hno.out j (by omega)
        case measure => simp [intOf]; omega
    · have HE : Hid (plc K x = -1) := if_neg (not_mem_of fun j hj => hno.out j (by omega))
      go_wp2
      go_ret
      exact ⟨by rw [HE.out]; rfl, rfl⟩
theorem abv_case (y x key : Int) : (x < y ∧ y < key) ∨ (x < y ∧ ¬ y < key ∧ y ≠ key) ∨ (x < y ∧ y = key) ∨ (y < x ∧ key < y) ∨ (y < x ∧ ¬ key < y ∧ y ≠ key) ∨ (y < x ∧ y = key) ∨ (y = x ∧ y ≠ key) ∨ (y = x ∧ y = key) := by omega
set_option maxRecDepth 100000 in
set_option maxHeartbeats 4000000 in
theorem cq_above (w : World) (A : Option Addr) (c : Nat) (A2 : Option Addr) (n2 c2 : Nat) (A3 : Option Addr) (n3 c3 : Nat) (g : Nat) (K : List Int) (key : Int) (i many : Nat) (h : Sl w (.slice A K.length c) g K) (hi : i < K.length) (hm : i ≤ many) :
    Calls Tryd.prog 48 #[.agg #[.slice A K.length c, .slice A2 n2 c2, .slice A3 n3 c3], .int .i64 i, .int .i64 key, .int .i64 many] w fun e w' => e = .returned (.bool (Co.abv K key i)) ∧ Fr [] w w' := by
  obtain ⟨A', o, c', e, hml, hA, hc⟩ := h.form
  injection e with e1 _ e3
  subst e1 e3
  obtain rfl := hA (by omega)
  have HX0 := Lib.hid (heap_alloc_new w (.cells #[.slice (some ⟨g, o, none⟩) K.length c, .slice A2 n2 c2, .slice A3 n3 c3] 27))
  have HF0 : Hid (Fr [] w (w.alloc (.cells #[.slice (some ⟨g, o, none⟩) K.length c, .slice A2 n2 c2, .slice A3 n3 c3] 27))) := (Fr.refl _ _).alloc _
  have HC := Lib.hid (fun j (hj : j < K.length) => HF0.out.cell (hc j hj) (by simp))
  clear h hA hc
  go_enter Tryd.func48, Tryd.ntmps48
  go_upto_region 1 with (fail)
  revert HX0 HF0 HC
  generalize w.alloc (.cells #[.slice (some ⟨g, o, none⟩) K.length c, .slice A2 n2 c2, .slice A3 n3 c3] 27) = WB
  generalize w.heap.size = X
  intro HX0 HF0 HC
  have b0 : WB.cell? ⟨X, 0, none⟩ = some (.slice (some ⟨g, o, none⟩) K.length c) := by rw [cell_of_row _ _ _ _ _ _ HX0.out]; rfl
  have i0 : (0 : Int) ≤ i := by omega
  have iI : (i : Int) < K.length := by omega
  have qi := HC.out i hi
  go_wp2_with fail
  go_loop [9] (fun kv => ∃ k : Nat, k ≤ i ∧ kv = .int .i64 k ∧ Hid (∀ j, j < k → ¬ Co.Btw (nth K i) (nth K j) key)) (fun kv => i - (intOf kv).toNat)
  case atStart => exact ⟨0, Nat.zero_le _, rfl, fun j hj => absurd hj (Nat.not_lt_zero _)⟩
  case round =>
    obtain ⟨k, hk, rfl, hno⟩ := hrel
    by_cases hlt : k < i
    · have kI : (k : Int) < i := by omega
      have kM : (k : Int) < many := by omega
      have kK : (k : Int) < K.length := by omega
      have k0 : (0 : Int) ≤ k := by omega
      have qk := HC.out k (by omega)
      have HYES : Hid (Co.Btw (nth K i) (nth K k) key → Co.abv K key i = false) := fun hb => decide_eq_false (fun hall => hall k hlt hb)
      have HNO : Hid (¬ Co.Btw (nth K i) (nth K k) key → ∀ j, j < k + 1 → ¬ Co.Btw (nth K i) (nth K j) key) := fun hb j hj => by
        by_cases e : j = k
        · subst e; exact hb
        · exact hno.out j (by omega)
      have hcase := abv_case (nth K k) (nth K i) key
      unfold Co.Btw at HYES HNO
      generalize nth K k = y at *
      generalize nth K i = x at *
      rcases hcase with ⟨h1, h2⟩ | ⟨h1, h2, h3⟩ | ⟨h1, h2⟩ | ⟨h1, h2⟩ | ⟨h1, h2, h3⟩ | ⟨h1, h2⟩ | ⟨h1, h2⟩ | ⟨h1, h2⟩
      · have HR := Lib.hid (HYES.out (.inl ⟨h1, h2⟩))
        have f1 : (y > x) = True := eq_true h1
        go_wp2
        go_ret
        exact ⟨by rw [HR.out]; rfl, HF0.out⟩
      · have HR := Lib.hid (HNO.out (by omega))
        have f1 : (y > x) = True := eq_true h1
        have f2 : ¬ y < x := by omega
        have f3 : (y == key) = false := beq_eq_false_iff_ne.2 h3
        go_wp2
        go_round
        case rel => exact ⟨k + 1, by omega, by go_num, HR⟩
        case measure => (simp [intOf]; try omega)
      · have HR := Lib.hid (HYES.out (.inr (.inr h2)))
        have f1 : (y > x) = True := eq_true h1
        have f2 : ¬ y < x := by omega
        have f3 : (y == key) = true := beq_iff_eq.2 h2
        have f4 : ¬ y < key := by omega
        clear h2
        go_wp2
        go_ret
        exact ⟨by rw [HR.out]; rfl, HF0.out⟩
      · have HR := Lib.hid (HYES.out (.inr (.inl ⟨h1, h2⟩)))
        have f1 : (y > x) = False := eq_false (by omega)
        have f2 : (y > key) = True := eq_true h2
        go_wp2
        go_ret
        exact ⟨by rw [HR.out]; rfl, HF0.out⟩
      · have HR := Lib.hid (HNO.out (by omega))
        have f1 : (y > x) = False := eq_false (by omega)
        have f2 : (y > key) = False := eq_false h2
        have f3 : (y == key) = false := beq_eq_false_iff_ne.2 h3
        go_wp2
        go_round
        case rel => exact ⟨k + 1, by omega, by go_num, HR⟩
        case measure => (simp [intOf]; try omega)
      · have HR := Lib.hid (HYES.out (.inr (.inr h2)))
        have f1 : (y > x) = False := eq_false (by omega)
        have f2 : (y > key) = False := eq_false (by omega)
        have f3 : (y == key) = true := beq_iff_eq.2 h2
        clear h2
        go_wp2
        go_ret
        exact ⟨by rw [HR.out]; rfl, HF0.out⟩
      · have HR := Lib.hid (HNO.out (by omega))
        have f1 : (y > x) = False := eq_false (by omega)
        have f2 : ¬ y < x := by omega
        have f3 : (y == key) = false := beq_eq_false_iff_ne.2 h2
        clear h1
        go_wp2
        go_round
        case rel => exact ⟨k + 1, by omega, by go_num, HR⟩
        case measure => (simp [intOf]; try omega)
      · have HR := Lib.hid (HYES.out (.inr (.inr h2)))
        have f1 : (y > x) = False := eq_false (by omega)
        have f2 : ¬ y < x := by omega
        have f3 : (y == key) = true := beq_iff_eq.2 h2
        clear h1 h2
        go_wp2
        go_ret
        exact ⟨by rw [HR.out]; rfl, HF0.out⟩
    · obtain rfl : k = i := by omega
      have kI : ¬ (k : Int) < k := by omega
      have HR : Hid (Co.abv K key k = true) := decide_eq_true hno.out
      go_wp2
      go_ret
      exact ⟨by rw [HR.out]; rfl, HF0.out⟩
end Go.Proofs.YtokbhiokcoldbaaDoor
