/- What the law LfsPlays holds beside each other: the disk and the document's struct; NewLfs; Head. -/
import Derived.Test.YtbedfffmicbgmaaDoorLxClean
import Derived.Test.YtbedfffmicbgmaaDoorLfRead
import Derived.Test.YtbedfffmicbgmaaDoorLfNew
import Derived.Test.YtbedfffmicbgmaaDoorLfClean
import Derived.Test.YtbedfffmicbgmaaDoorErr2
namespace Go.Proofs.YtbedfffmicbgmaaDoor
open Go.RowKit

theorem lf_head (w : World) (B b : Nat) (d : Lf.D) (hD : LfD B w b d) (hO : Lf.OK d) :
    Calls Tryd.prog 17 #[.pointer (some ⟨b, 0, none⟩)] w fun e w' => e = .returned (.int .i64 (d.head : Int)) ∧ w' = w := by
  have hc := hD.head hO.shp
  clear hD hO
  go_enter Tryd.func17, Tryd.ntmps17
  go_wp2
  go_ret
  exact ⟨rfl, rfl⟩
set_option maxRecDepth 100000 in
theorem lx_New (w : World) : Calls Tryd.prog 6 #[] w fun e w' => ∃ v, e = .returned v ∧ LxV (w.heap.size ≤ ·) w' v Lx.new ∧ Fr [] w w' := by
  have hmk := mk_z 6 (by decide) 6 rfl
  go_enter Tryd.func6, Tryd.ntmps6
  go_wp2_with fail
  obtain ⟨W1, hW1⟩ : ∃ z, z = w.alloc (.cells #[.slice none 0 0, .slice none 0 0, .slice none 0 0, .slice none 0 0, .slice (some ⟨w.heap.size + 1, 0, none⟩) 6 6, .int .i64 0] 27) := ⟨_, rfl⟩
  have hx1 : W1.heap[w.heap.size]? = some (.cells #[.slice none 0 0, .slice none 0 0, .slice none 0 0, .slice none 0 0, .slice (some ⟨w.heap.size + 1, 0, none⟩) 6 6, .int .i64 ((0 : Nat) : Int)] 27 (0, 0)) := by rw [hW1]; exact heap_alloc_new w _
  have hf1 : Fr [] w W1 := by rw [hW1]; exact (Fr.refl _ _).alloc _
  have hsz : W1.heap.size = w.heap.size + 1 := by rw [hW1]; simp
  rw [← hW1]
  clear hW1 hmk
  have hs1 := mkz_sl W1 6 (by decide) (Fr.refl [] _)
  rw [hsz] at hs1
  have hf2 := hf1.alloc (.cells (mkz 6) 3)
  have hx2 : LxX (W1.alloc (.cells (mkz 6) 3)) w.heap.size (.slice none 0 0) (.slice none 0 0) (.slice none 0 0) (.slice none 0 0) (.slice (some ⟨w.heap.size + 1, 0, none⟩) 6 6) 0 := ((Fr.refl [] W1).alloc _).get hx1 (by simp)
  have hl := hx2.load
  have hc0 : ((0 : Nat) : Int) = 0 := rfl
  rw [hc0] at hl
  exact bodyPost_ret (v := .agg #[.slice none 0 0, .slice none 0 0, .slice none 0 0, .slice none 0 0, .slice (some ⟨w.heap.size + 1, 0, none⟩) 6 6, .int .i64 0]) (by simp [results, Tryd.results6, asAddr, Sem.run_bind, hl]) rfl
    ⟨_, rfl, ⟨_, _, _, _, _, rfl, ⟨⟨0, .inr rfl, .inl ⟨rfl, none, 0, rfl⟩⟩, ⟨0, .inr rfl, .inl ⟨rfl, none, 0, rfl⟩⟩, ⟨0, .inr rfl, .inl ⟨rfl, none, 0, rfl⟩⟩, ⟨0, .inr rfl, .inl ⟨rfl, none, 0, rfl⟩⟩, ⟨w.heap.size + 1, .inl (Nat.le_succ _), hs1⟩⟩⟩, hf2⟩
theorem LfD.frX {B : Nat} {w w' : World} {b X : Nat} {d : Lf.D} (h : LfD B w b d) (hf : Fr [X] w w') (hn : ¬ Foot w b X) : LfD B w' b d := by
  obtain ⟨vs, h1, h2, h3, h4⟩ := h.main
  refine ⟨h.ge, vs, h1, hf.get h2 (by simp; rintro rfl; exact hn (.inl rfl)), fun i hi => ⟨(h3 i hi).1.kept hf (fun g hg hq => ?_), (h3 i hi).2⟩, h4⟩
  simp only [List.mem_singleton] at hg
  subst hg
  exact hn (.inr ⟨i, _, hi, by rw [cell_of_row w b i _ _ _ h2, lfRow_seg h1 hi], hq⟩)
theorem LfD.footX {B : Nat} {w w' : World} {b X : Nat} {d : Lf.D} (h : LfD B w b d) (hf : Fr [X] w w') (hn : ¬ Foot w b X) : ∀ k, Foot w' b k → Foot w b k := by
  obtain ⟨vs, h1, h2, _⟩ := h.main
  rintro k (rfl | ⟨i, u, hi, hu, hk⟩)
  · exact .inl rfl
  · refine .inr ⟨i, u, hi, ?_, hk⟩
    rw [cell_of_row _ b i _ _ _ (hf.get h2 (by simp; rintro rfl; exact hn (.inl rfl)))] at hu
    rw [cell_of_row w b i _ _ _ h2]
    exact hu
/-- The disk d (its block b), the struct that says x (its block X), in the world wr of a call that began at w. -/
structure LxS (w wr : World) (b X : Nat) (a b' c d' e : Value) (d : Lf.D) (x : Lx.X) (n : Nat) : Prop where
  disk : LfD w.heap.size wr b d
  box : LxX wr X a b' c d' e x.head
  rows : LxR (fun g => ¬ Foot wr b g ∧ g ≠ X) wr a b' c d' e x
  okd : Lf.OK d
  okx : Lx.OK x n
  nf : ¬ Foot wr b X
  hX : w.heap.size ≤ X
  fr : Fr [] w wr
section
variable {w wr w' : World} {b X : Nat} {va vb vc vd ve : Value} {d d2 : Lf.D} {x x2 : Lx.X} {n m : Nat}
theorem LxS.step (h : LxS w wr b X va vb vc vd ve d x n) (hf : Fr [] wr w') : LxS w w' b X va vb vc vd ve d x n :=
  have hF := h.disk.footFr hf
  ⟨h.disk.keep hf, hf.get h.box (by simp), (h.rows.step hf).mono (fun g _ hg => ⟨fun hq => hg.1 (hF g hq), hg.2⟩), h.okd, h.okx, fun hq => h.nf (hF X hq), h.hX, h.fr.trans hf⟩
theorem LxS.mono (h : LxS w wr b X va vb vc vd ve d x n) (hm : n ≤ m) : LxS w wr b X va vb vc vd ve d x m := ⟨h.disk, h.box, h.rows, h.okd, h.okx.mono hm, h.nf, h.hX, h.fr⟩
theorem LxS.lt (h : LxS w wr b X va vb vc vd ve d x n) : X < wr.heap.size := lt_of_heap h.box
theorem LxS.new (h : LxS w wr b X va vb vc vd ve d x n) : ∀ q, wr.heap.size ≤ q → ¬ Foot wr b q ∧ q ≠ X := fun q hq =>
  ⟨fun hf => by have := h.disk.footLt q hf; omega, by have := h.lt; omega⟩
theorem LxS.val (h : LxS w wr b X va vb vc vd ve d x n) : LxV (fun g => ¬ Foot wr b g ∧ g ≠ X) wr (.agg #[va, vb, vc, vd, ve, .int .i64 (x.head : Int)]) x := ⟨_, _, _, _, _, rfl, h.rows⟩
theorem LxS.cells (h : LxS w wr b X va vb vc vd ve d x n) : (wr.cell? ⟨X, 0, none⟩ = some va ∧ wr.cell? ⟨X, 1, none⟩ = some vb ∧ wr.cell? ⟨X, 2, none⟩ = some vc ∧ wr.cell? ⟨X, 3, none⟩ = some vd ∧ wr.cell? ⟨X, 4, none⟩ = some ve ∧ wr.cell? ⟨X, 5, none⟩ = some (.int .i64 (x.head : Int))) ∧ ∀ i, wr.frozen? ⟨X, i, none⟩ = false := ⟨h.box.cells, fun i => free_block h.box i none⟩
/-- The disk does something. -/
theorem LxS.turn (h : LxS w wr b X va vb vc vd ve d x n) {v : Value} {e : Ending} (ha : LfAns w.heap.size b v d2 wr e w') (hO : Lf.OK d2) : e = .returned v ∧ LxS w w' b X va vb vc vd ve d2 x n := by
  obtain ⟨h1, h2, h3, h4, h5⟩ := ha
  have hl := h.lt
  have hF : ∀ k, k < wr.heap.size → Foot w' b k → Foot wr b k := fun k hk hq => (h5.2 k hq).resolve_right (by omega)
  have hr : LxR (fun g => g < wr.heap.size ∧ ¬ Foot wr b g ∧ g ≠ X) wr va vb vc vd ve x := h.rows.mono (fun g hg hq => ⟨hg, hq⟩)
  exact ⟨h1, h2, (h5.1 X hl h.nf).trans h.box, (hr.keep (fun g hg hq => h5.1 g hg hq.2.1)).mono (fun g _ hq => ⟨fun hf => hq.2.1 (hF g hq.1 hf), hq.2.2⟩), hO, h.okx, fun hq => h.nf (hF X hl hq), h.hX, h.fr.below_step h3 (Nat.le_refl _)⟩
/-- The document's answer is stored. -/
theorem LxS.put (h : LxS w wr b X va vb vc vd ve d x n) {a' b' c' d' e' : Value} (hf : Fr [] wr w') (hv : LxV (fun g => ¬ Foot wr b g ∧ g ≠ X) w' (.agg #[a', b', c', d', e', .int .i64 (x2.head : Int)]) x2) (hO : Lx.OK x2 m) :
    LxS w (lxSet w' X a' b' c' d' e' x2.head) b X a' b' c' d' e' d x2 m := by
  obtain ⟨_, _, _, _, _, e0, hr⟩ := hv
  obtain ⟨rfl, rfl, rfl, rfl, rfl⟩ := lx_agg6 e0
  have s := h.step hf
  obtain ⟨h1, h2⟩ := lx_set w' X a' b' c' d' e' x2.head s.box
  have hF := h.disk.footFr hf
  have hX := s.disk.footX h2 s.nf
  exact ⟨s.disk.frX h2 s.nf, h1, (hr.fr h2 (fun g hg hq => hq.2 (by simpa using hg))).mono (fun g _ hq => ⟨fun hh => hq.1 (hF g (hX g hh)), hq.2⟩), s.okd, hO, fun hq => s.nf (hX X hq), s.hX, s.fr.step h2 (fun y hy => .inr (by simp only [List.mem_singleton] at hy; subst hy; exact s.hX))⟩
end
/-- A new disk, a new struct. -/
theorem LxS.start {w w0 w1 : World} {v : Value} (hd : LfD w.heap.size w0 w.heap.size Lf.new) (hf : Fr [] w w0) (hv : LxV (w0.heap.size ≤ ·) w1 v Lx.new) (hf1 : Fr [] w0 w1) :
    ∃ A1 n1 c1 A2 n2 c2 A3 n3 c3 A4 n4 c4 A5 n5 c5, v = .agg #[.slice A1 n1 c1, .slice A2 n2 c2, .slice A3 n3 c3, .slice A4 n4 c4, .slice A5 n5 c5, .int .i64 0] ∧ LxS w (w1.alloc (.cells #[.slice A1 n1 c1, .slice A2 n2 c2, .slice A3 n3 c3, .slice A4 n4 c4, .slice A5 n5 c5, .int .i64 0] 27)) w.heap.size w1.heap.size (.slice A1 n1 c1) (.slice A2 n2 c2) (.slice A3 n3 c3) (.slice A4 n4 c4) (.slice A5 n5 c5) Lf.new Lx.new 0 := by
  obtain ⟨A1, n1, c1, A2, n2, c2, A3, n3, c3, A4, n4, c4, A5, n5, c5, rfl, hR⟩ := hv.form
  refine ⟨A1, n1, c1, A2, n2, c2, A3, n3, c3, A4, n4, c4, A5, n5, c5, rfl, ?_⟩
  have z0 := hf.size
  have z1 := hf1.size
  have hX : Fr [] w1 (w1.alloc (.cells #[.slice A1 n1 c1, .slice A2 n2 c2, .slice A3 n3 c3, .slice A4 n4 c4, .slice A5 n5 c5, .int .i64 0] 27)) := (Fr.refl _ w1).alloc _
  have hF : ∀ k, Foot (w1.alloc (.cells #[.slice A1 n1 c1, .slice A2 n2 c2, .slice A3 n3 c3, .slice A4 n4 c4, .slice A5 n5 c5, .int .i64 0] 27)) w.heap.size k → k < w0.heap.size := fun k hk => hd.footLt k (hd.footFr (hf1.trans hX) k hk)
  exact ⟨hd.keep (hf1.trans hX), heap_alloc_new w1 _, (hR.mono (fun g hg hq => ⟨fun hh => by have := hF g hh; have hq : w0.heap.size ≤ g := hq; omega, by omega⟩)).step hX, Lf.new_ok, Lx.new_ok, fun hh => by have := hF _ hh; omega, by omega, (hf.trans hf1).trans hX⟩
theorem lxerr_ok (w : World) (c : Int) (hg : ErrType w) : Calls Tryd.prog 9 #[errV c, .int .i64 c] w (OkT w) := error_yes c w hg
/-- The answer y (still a value) and its variable Y, not written yet. -/
structure LxF (w wr : World) (b X Y : Nat) (va vb vc vd ve ua ub uc ud ue : Value) (d : Lf.D) (x y : Lx.X) (n : Nat) : Prop where
  s : LxS w wr b X va vb vc vd ve d x n
  v : LxV (fun g => (¬ Foot wr b g ∧ g ≠ X) ∧ g ≠ Y) wr (.agg #[ua, ub, uc, ud, ue, .int .i64 (y.head : Int)]) y
  y : LxX wr Y (.slice none 0 0) (.slice none 0 0) (.slice none 0 0) (.slice none 0 0) (.slice none 0 0) 0
  xy : LxR (fun g => (¬ Foot wr b g ∧ g ≠ X) ∧ g ≠ Y) wr va vb vc vd ve x
  ny : ¬ Foot wr b Y ∧ Y ≠ X
  ge : w.heap.size ≤ Y
section
variable {w wr w' : World} {b X Y : Nat} {va vb vc vd ve ua ub uc ud ue : Value} {d : Lf.D} {x y : Lx.X} {n : Nat}
/-- The answer is laid into its variable. -/
theorem LxF.lay (h : LxF w wr b X Y va vb vc vd ve ua ub uc ud ue d x y n) :
    LxX (lxSet wr Y ua ub uc ud ue y.head) Y ua ub uc ud ue y.head ∧ LxS w (lxSet wr Y ua ub uc ud ue y.head) b X va vb vc vd ve d x n ∧
    LxV (fun g => ¬ Foot (lxSet wr Y ua ub uc ud ue y.head) b g ∧ g ≠ X) (lxSet wr Y ua ub uc ud ue y.head) (.agg #[ua, ub, uc, ud, ue, .int .i64 (y.head : Int)]) y := by
  obtain ⟨h1, h2⟩ := lx_set wr Y ua ub uc ud ue y.head h.y
  have hX := h.s.disk.footX h2 h.ny.1
  obtain ⟨_, _, _, _, _, e0, hr⟩ := h.v
  have nY : ∀ g ∈ [Y], ¬ ((¬ Foot wr b g ∧ g ≠ X) ∧ g ≠ Y) := fun g hg hq => hq.2 (by simpa using hg)
  exact ⟨h1, ⟨h.s.disk.frX h2 h.ny.1, h2.get h.s.box (by simpa using h.ny.2.symm), (h.xy.fr h2 nY).mono (fun g _ hq => ⟨fun hh => hq.1.1 (hX g hh), hq.1.2⟩), h.s.okd, h.s.okx, fun hq => h.s.nf (hX X hq), h.s.hX, h.s.fr.step h2 (fun z hz => .inr (by simp only [List.mem_singleton] at hz; subst hz; exact h.ge))⟩,
    ⟨_, _, _, _, _, e0, (hr.fr h2 nY).mono (fun g _ hq => ⟨fun hh => hq.1.1 (hX g hh), hq.1.2⟩)⟩⟩
/-- The call comes first, the variable behind it. -/
theorem LxF.late {wD : World} (h0 : LxS w wD b X va vb vc vd ve d x n) (hf0 : Fr [] wD wr) (hv : LxV (fun g => ¬ Foot wD b g ∧ g ≠ X) wr (.agg #[ua, ub, uc, ud, ue, .int .i64 (y.head : Int)]) y) :
    LxF w (wr.alloc (.cells #[.slice none 0 0, .slice none 0 0, .slice none 0 0, .slice none 0 0, .slice none 0 0, .int .i64 0] 27)) b X wr.heap.size va vb vc vd ve ua ub uc ud ue d x y n := by
  have hf : Fr [] wr (wr.alloc (.cells #[.slice none 0 0, .slice none 0 0, .slice none 0 0, .slice none 0 0, .slice none 0 0, .int .i64 0] 27)) := (Fr.refl _ wr).alloc _
  have h := h0.step hf0
  have hF := h.disk.footFr hf
  have hF0 := h0.disk.footFr hf0
  obtain ⟨_, _, _, _, _, e0, hr⟩ := hv
  have hl := h.lt
  have gg : ∀ g, g < wr.heap.size → (¬ Foot wr b g ∧ g ≠ X) → (¬ Foot (wr.alloc (.cells #[.slice none 0 0, .slice none 0 0, .slice none 0 0, .slice none 0 0, .slice none 0 0, .int .i64 0] 27)) b g ∧ g ≠ X) ∧ g ≠ wr.heap.size := fun g hg hq => ⟨⟨fun hh => hq.1 (hF g hh), hq.2⟩, by omega⟩
  exact ⟨h.step hf, ⟨_, _, _, _, _, e0, (hr.mono (fun g hg hq => gg g hg ⟨fun hh => hq.1 (hF0 g hh), hq.2⟩)).step hf⟩, heap_alloc_new wr _, (h.rows.mono gg).step hf, ⟨fun hh => by have := h.disk.footLt _ (hF _ hh); omega, by omega⟩, h.fr.size⟩
/-- The variable comes first. -/
theorem LxF.early {wD wB : World} (hD : LxS w wD b X va vb vc vd ve d x n) (hB : wB.heap[wD.heap.size]? = some (.cells #[.slice none 0 0, .slice none 0 0, .slice none 0 0, .slice none 0 0, .slice none 0 0, .int .i64 0] 27 (0, 0))) (hfB : Fr [] wD wB) (hf : Fr [] wB wr)
    (hv : LxV (fun g => (¬ Foot wB b g ∧ g ≠ X) ∧ g ≠ wD.heap.size) wr (.agg #[ua, ub, uc, ud, ue, .int .i64 (y.head : Int)]) y) :
    LxF w wr b X wD.heap.size va vb vc vd ve ua ub uc ud ue d x y n := by
  have hF1 := hD.disk.footFr hfB
  have sB := hD.step hfB
  have hF := sB.disk.footFr hf
  obtain ⟨_, _, _, _, _, e0, hr⟩ := hv
  have hl := hD.lt
  exact ⟨sB.step hf, ⟨_, _, _, _, _, e0, hr.mono (fun g _ hq => ⟨⟨fun hh => hq.1.1 (hF g hh), hq.1.2⟩, hq.2⟩)⟩, hf.get hB (by simp), (hD.rows.mono (fun g hg hq => (⟨⟨fun hh => hq.1 (hF1 g (hF g hh)), hq.2⟩, by omega⟩ : (¬ Foot wr b g ∧ g ≠ X) ∧ g ≠ wD.heap.size))).step (hfB.trans hf), ⟨fun hh => by have := hD.disk.footLt _ (hF1 _ (hF _ hh)); omega, by omega⟩, hD.fr.size⟩
end
end Go.Proofs.YtbedfffmicbgmaaDoor
