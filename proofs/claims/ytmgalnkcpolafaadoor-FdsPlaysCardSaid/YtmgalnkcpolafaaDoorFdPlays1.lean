/- FdsPlays: each step, the table beside the reference. -/
import Derived.Test.YtmgalnkcpolafaaDoorFdPlays0
import Derived.Test.YtmgalnkcpolafaaDoorFxRef3
namespace Go.Proofs.YtmgalnkcpolafaaDoor
open Go.RowKit

theorem Fx.Rel.mem {t : Fd.T} {x : Fx.X} {fs : List Nat} (h : Fx.Rel t x fs) : ∀ i o, Fd.nthO t.sl i = some o → o ∈ fs := fun i o ho => by
  obtain ⟨k, _, hk⟩ := h.yes i o ho
  exact List.mem_of_getElem? hk
theorem Fx.Rel.fit {t : Fd.T} {x : Fx.X} {fs : List Nat} (h : Fx.Rel t x fs) (hO : Fd.OK t) (fd : Int) : Fx.Fit x fd := fun hw => by
  rw [h.wrong] at hw
  obtain ⟨q1, q2, q3⟩ := h.here hw
  have hk := h.key_lt hw
  have hv := h.val _ _ q1
  have ho := hO.ok _ _ (Fd.wrong_zero hw).2
  rw [hv] at ho
  simp only at ho
  exact ⟨⟨by rw [h.la]; exact hk, by rw [h.ls]; exact hk⟩, q2, ho.1, ho.2.1, ho.2.2⟩
theorem Fx.opn_len (x : Fx.X) (y : Int) : (Fx.opn x y).1.of_.length = x.of_.length := by
  unfold Fx.opn
  split
  · split
    · rfl
    · simp
  · rfl
theorem Fx.dup_len (x : Fx.X) (y : Int) : (Fx.dup x y).1.of_.length = x.of_.length := by
  unfold Fx.dup
  split
  · split
    · rfl
    · simp
  · rfl
theorem Fx.move_len (x : Fx.X) (y z : Int) : (Fx.move x y z).1.of_.length = x.of_.length := by
  unfold Fx.move
  split
  · split <;> rfl
  · rfl
/-- What the table's call leaves, the reference's having been stored. -/
def FdPost (w : World) (b X : Nat) (v1 v2 v3 : Value) (x : Fx.X) (k : Nat) (n c : Int) (e : Ending) (w4 : World) : Prop :=
  e = .returned (.tuple #[.int .i64 n, errV c]) ∧ ∃ t fs, FdS w w4 b X t fs v1 v2 v3 x ∧ Fx.Rel t x fs ∧ Fd.OK t ∧ fs.length ≤ k + 1
def FdPostE (w : World) (b X : Nat) (v1 v2 v3 : Value) (x : Fx.X) (k : Nat) (c : Int) (e : Ending) (w4 : World) : Prop :=
  e = .returned (errV c) ∧ ∃ t fs, FdS w w4 b X t fs v1 v2 v3 x ∧ Fx.Rel t x fs ∧ Fd.OK t ∧ fs.length ≤ k + 1
section
variable {w w3 : World} {b X k : Nat} {t : Fd.T} {fs : List Nat} {v1 v2 v3 : Value} {x x' : Fx.X}
theorem fdp_open (h : FdS w w3 b X t fs v1 v2 v3 x') (hr : Fx.Rel t x fs) (hO : Fd.OK t) (hl : fs.length ≤ k) (y : Int) (hx : x' = (Fx.opn x y).1) :
    Calls Tryd.prog 10 #[.pointer (some ⟨b, 0, none⟩), .int .i64 y] w3 (FdPost w b X v1 v2 v3 x' k (Fx.opn x y).2.1 (Fx.opn x y).2.2) := by
  refine (fdf_open w3 w.heap.size b t y h.tab h.fr.size).mono fun e w4 he => ?_
  obtain ⟨he, hT, hf⟩ := he
  obtain ⟨fs', r1, r2, r3, r4⟩ := hr.opn y (o := w3.heap.size) (fun hm => by have := (h.hfs _ hm).2; omega)
  refine ⟨by rw [he, r3], _, fs', h.turn hT hf r1.mem (fun q hq => (r2 q hq).imp_right (fun ⟨e1, i, hi⟩ => ⟨by omega, lt_of_heap (hT.open_ i q (by rw [e1]; exact hi)).2.2⟩)), by rw [hx]; exact r1, Fd.opn_ok hO y h.tab.fresh, by omega⟩
theorem fdp_dup (h : FdS w w3 b X t fs v1 v2 v3 x') (hr : Fx.Rel t x fs) (hO : Fd.OK t) (hl : fs.length ≤ k) (y : Int) (hx : x' = (Fx.dup x y).1) :
    Calls Tryd.prog 18 #[.pointer (some ⟨b, 0, none⟩), .int .i64 y] w3 (FdPost w b X v1 v2 v3 x' k (Fx.dup x y).2.1 (Fx.dup x y).2.2) := by
  refine (fdf_dup w3 w.heap.size b t y h.tab).mono fun e w4 he => ?_
  obtain ⟨he, hT, hf⟩ := he
  obtain ⟨r1, r3⟩ := hr.dup y
  exact ⟨by rw [he, r3], _, fs, h.turn hT hf r1.mem (fun q hq => .inl hq), by rw [hx]; exact r1, Fd.dup_ok hO y, by omega⟩
theorem fdp_move (h : FdS w w3 b X t fs v1 v2 v3 x') (hr : Fx.Rel t x fs) (hO : Fd.OK t) (hl : fs.length ≤ k) (y z : Int) (hx : x' = (Fx.move x y z).1) :
    Calls Tryd.prog 22 #[.pointer (some ⟨b, 0, none⟩), .int .i64 y, .int .i64 z] w3 (FdPost w b X v1 v2 v3 x' k (Fx.move x y z).2.1 (Fx.move x y z).2.2) := by
  refine (fdf_move w3 w.heap.size b t y z h.tab hO).mono fun e w4 he => ?_
  obtain ⟨he, hT, hf⟩ := he
  obtain ⟨r1, r3⟩ := hr.move y z
  exact ⟨by rw [he, r3], _, fs, h.turn hT hf r1.mem (fun q hq => .inl hq), by rw [hx]; exact r1, Fd.move_ok hO y z, by omega⟩
theorem fdp_close (h : FdS w w3 b X t fs v1 v2 v3 x') (hr : Fx.Rel t x fs) (hO : Fd.OK t) (hl : fs.length ≤ k) (y : Int) (hx : x' = Fx.close x y) :
    Calls Tryd.prog 13 #[.pointer (some ⟨b, 0, none⟩), .int .i64 y] w3 (FdPostE w b X v1 v2 v3 x' k (Fx.wrong x y)) := by
  refine (fdf_close w3 w.heap.size b t y h.tab).mono fun e w4 he => ?_
  obtain ⟨he, hT, hf⟩ := he
  obtain ⟨r1, r3⟩ := hr.close y
  exact ⟨by rw [he, r3], _, fs, h.turn hT hf r1.mem (fun q hq => .inl hq), by rw [hx]; exact r1, Fd.close_ok hO y, by omega⟩
/-- One number of the struct's row of numbers is another one. -/
theorem FdS.setOf (h : FdS w w3 b X t fs v1 v2 v3 x) {ys : List Int} (hy : ys.length = 8) {e : Ending} {w4 : World} (hn : NewRow ys w3 e w4) :
    ∃ A n, e = .returned (.slice A 8 n) ∧ FxX w4 X v1 v2 v3 ∧ FdS w (w4.setCell ⟨X, 0, none⟩ (.slice A 8 n)) b X t fs (.slice A 8 n) v2 v3 ⟨ys, x.sz, x.pl⟩ := by
  obtain ⟨v, g, rfl, hg, hs, hf⟩ := hn
  have h4 := h.step hf
  have hgw : w3.heap.size ≤ g := hg.resolve_right (fun e => by rw [e] at hy; cases hy)
  obtain ⟨a, b', c, e0, h1, h2, h3, hap⟩ := h.val
  injection e0 with e0
  injection e0 with e0
  injection e0 with e1 e0
  injection e0 with e2 e0
  injection e0 with e3 _
  subst e1 e2 e3
  have hX : Fr [X] w4 (w4.setCell ⟨X, 0, none⟩ v) := (Fr.refl _ w4).setCell (.inl (by simp)) _
  have hgX : g ≠ X := by have := h.lt; omega
  have hv : FxV (FdG w b X fs) w4 (.agg #[v, v2, v3]) ⟨ys, x.sz, x.pl⟩ :=
    ⟨_, _, _, rfl, ⟨g, .inr ⟨h.new g hgw, fun e => by have := (h2.2.ge g e).2; omega, fun e => by have := (h3.2.ge g e).2; omega⟩, hs⟩, h2.fr hf, h3.fr hf, hap⟩
  obtain ⟨A, o, n, rfl, -, -, -⟩ := hs.form
  rw [hy] at *
  refine ⟨A, n, rfl, h4.box, h4.tab.kept hX (fun y hy => ?_), h4.own, set_block h4.box _, hv.frP (FrP.of_fr hX) (fun g hg hm => hg.2.2.1 (by simpa using hm)), h4.hX, h4.hXb, h4.hXf, fun o ho => ⟨(h4.hfs o ho).1, Nat.lt_of_lt_of_le (h4.hfs o ho).2 hX.size⟩, h4.fr.step hX (fun y hy => .inr (by simp only [List.mem_singleton] at hy; subst hy; exact h4.hX))⟩
  simp only [List.mem_singleton] at hy
  subst hy
  exact ⟨h4.hXb, fun i hi => h4.hXf (h4.own i _ hi)⟩
end
end Go.Proofs.YtmgalnkcpolafaaDoor
