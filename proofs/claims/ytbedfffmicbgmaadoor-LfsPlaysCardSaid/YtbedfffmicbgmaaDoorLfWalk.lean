/- The contracts of package lfs's functions: room. -/
import Derived.Test.YtbedfffmicbgmaaDoorLfHeap
import Derived.Handy
namespace Go.Proofs.YtbedfffmicbgmaaDoor
open Go.RowKit

section
variable {B : Nat} {w : World} {b : Nat} {d : Lf.D}
theorem LfD.head (h : LfD B w b d) (hO : Lf.Shp d) : w.cell? ⟨b, 30, none⟩ = some (.int .i64 (d.head : Int)) := by
  obtain ⟨vs, h1, h2, _⟩ := h.main
  rw [cell_of_row w b 30 _ _ _ h2, lfRow_head h1 hO.np]
theorem LfD.segv (h : LfD B w b d) {i : Nat} (hi : i < 6) : ∃ A g c, w.cell? ⟨b, i, none⟩ = some (.slice A (Lf.seg d i).length c) ∧ (0 < (Lf.seg d i).length → A = some ⟨g, 0, none⟩) ∧ (∀ k, k < (Lf.seg d i).length → w.cell? ⟨g, k * 2, none⟩ = some (.int .i64 ((Lf.seg d i).getD k (0, 0)).1) ∧ w.cell? ⟨g, k * 2 + 1, none⟩ = some (.int .i64 ((Lf.seg d i).getD k (0, 0)).2)) := by
  obtain ⟨vs, h1, h2, h3, _⟩ := h.main
  obtain ⟨A, g, c, e, h4, h5⟩ := (h3 i hi).1.form
  exact ⟨A, g, c, by rw [cell_of_row w b i _ _ _ h2, lfRow_seg h1 hi, e], h4, h5⟩
theorem LfD.page (h : LfD B w b d) (hO : Lf.Shp d) {p : Nat} (hp : p < 8) : w.cell? ⟨b, 6 + p * 3, none⟩ = some (.int .i64 (Lf.pg d p).1) ∧ w.cell? ⟨b, 6 + p * 3 + 1, none⟩ = some (.int .i64 (Lf.pg d p).2.1) ∧ w.cell? ⟨b, 6 + p * 3 + 2, none⟩ = some (.bool (Lf.pg d p).2.2) := by
  obtain ⟨vs, h1, h2, _⟩ := h.main
  rw [cell_of_row w b _ _ _ _ h2, cell_of_row w b _ _ _ _ h2, cell_of_row w b _ _ _ _ h2]
  exact lfRow_page h1 hO.np hp
theorem LfD.free (h : LfD B w b d) (i : Nat) : w.frozen? ⟨b, i, none⟩ = false := by
  obtain ⟨vs, h1, h2, _⟩ := h.main
  exact free_block h2 i none
theorem LfD.lt (h : LfD B w b d) : b < w.heap.size := by
  obtain ⟨vs, h1, h2, _⟩ := h.main
  exact lt_of_heap h2
theorem LfD.keep {w' : World} (h : LfD B w b d) (hf : Fr [] w w') : LfD B w' b d := by
  obtain ⟨vs, h1, h2, h3, h4⟩ := h.main
  exact ⟨h.ge, vs, h1, hf.get h2 (by simp), fun i hi => ⟨(h3 i hi).1.kept hf (by simp), (h3 i hi).2⟩, h4⟩
theorem lfRow_setHead {vs : List Value} (hv : vs.length = 6) (hp : d.pages.length = 8) (k : Nat) : (lfRow vs d).setIfInBounds 30 (.int .i64 (k : Int)) = lfRow vs (Lf.at_ d k) := by
  have hl := spots_len d.pages
  apply Array.ext'
  simp only [lfRow, Array.toList_setIfInBounds, Lf.at_]
  rw [List.set_append_right _ _ (by rw [List.length_append]; omega), List.length_append, hl, hv, hp]
  rfl
theorem LfD.keepsHead (h : LfD B w b d) (v : Value) : Keeps b w (w.setCell ⟨b, 30, none⟩ v) := by
  obtain ⟨vs, h1, h2, _⟩ := h.main
  refine ⟨fun k _ hn => heap_setCell_other w ⟨b, 30, none⟩ k v (fun e => hn (.inl e)), fun k hk => .inl ?_⟩
  rcases hk with rfl | ⟨i, u, hi, hu, hk⟩
  · exact .inl rfl
  · refine .inr ⟨i, u, hi, ?_, hk⟩
    rw [cell_of_row _ b i _ _ _ (set_block h2 v), Array.getElem?_setIfInBounds, if_neg (by omega)] at hu
    rw [cell_of_row w b i _ _ _ h2]
    exact hu
theorem LfD.setHead (h : LfD B w b d) (hO : Lf.Shp d) (k : Nat) : LfD B (w.setCell ⟨b, 30, none⟩ (.int .i64 (k : Int))) b (Lf.at_ d k) := by
  obtain ⟨vs, h1, h2, h3, h4⟩ := h.main
  refine ⟨h.ge, vs, h1, by rw [set_block h2, lfRow_setHead h1 hO.np], fun i hi => ⟨?_, (h3 i hi).2⟩, h4⟩
  exact (h3 i hi).1.kept (S := [b]) ((Fr.refl _ w).setCell (.inl (by simp)) _) (fun g hg => by simp only [List.mem_singleton] at hg; subst hg; exact (h3 i hi).2)
end

theorem Below.ofCell' {B : Nat} {w : World} {b i : Nat} (hb : B ≤ b) (v : Value) : Below B w (w.setCell ⟨b, i, none⟩ v) := (Below.refl B w).setCell hb v
/-- What room makes of it. -/
def roomD (d : Lf.D) : Lf.D := match Lf.roomAt d with | some k => Lf.at_ d k | none => d
/-- The call hands back v; block b holds the disk d then; nothing but block b has turned. -/
def LfAns (B b : Nat) (v : Value) (d : Lf.D) (w : World) (e : Ending) (w' : World) : Prop := e = .returned v ∧ LfD B w' b d ∧ Below B w w' ∧ w.heap.size ≤ w'.heap.size ∧ Keeps b w w'

theorem lf_room (w : World) (B b : Nat) (d : Lf.D) (hD : LfD B w b d) (hO : Lf.Shp d) :
    Calls Tryd.prog 29 #[.pointer (some ⟨b, 0, none⟩)] w (LfAns B b (.bool (Lf.roomAt d).isSome) (roomD d) w) := by
  have hc := hD.head hO
  have hnh := hO.nh
  obtain ⟨A, g, c, hs, _, _⟩ := hD.segv hnh
  have HT := Lib.hid hD
  by_cases hl : (Lf.seg d d.head).length < 4
  · have e1 : decide (((Lf.seg d d.head).length : Int) < 4) = true := decide_eq_true (by omega)
    have er := Lib.hid (show Lf.roomAt d = some d.head from by unfold Lf.roomAt; rw [if_pos hl])
    have hh0 : (0 : Int) ≤ d.head := by omega
    have hh1 : (d.head : Int) < 6 := by omega
    generalize hL : (Lf.seg d d.head).length = L at hs e1
    have HL := Lib.hid hL
    clear hD hO hl hL
    go_enter Tryd.func29, Tryd.ntmps29
    go_wp2
    go_quiet (fail)
    go_wp2
    go_ret
    exact ⟨by rw [er.out]; rfl, by unfold roomD; rw [er.out]; exact HT.out.keep ((Fr.refl [] _).drewN nq), ⟨rfl, rfl, rfl, Nat.le_refl _, fun _ _ => rfl⟩, Nat.le_refl _, fun _ _ _ => rfl, fun _ h => .inl h⟩
  · have e1 : decide (((Lf.seg d d.head).length : Int) < 4) = false := decide_eq_false (by omega)
    have er := Lib.hid (show Lf.roomAt d = Lf.emptyFrom d 6 0 from by unfold Lf.roomAt; rw [if_neg hl])
    have hh0 : (0 : Int) ≤ d.head := by omega
    have hh1 : (d.head : Int) < 6 := by omega
    generalize hL : (Lf.seg d d.head).length = L at hs e1
    have HL := Lib.hid hL
    have HO := Lib.hid hO
    clear hD hO hl hL
    go_enter Tryd.func29, Tryd.ntmps29
    go_wp2
    go_quiet (fail)
    have HT1 := Lib.hid (HT.out.keep ((Fr.refl [] w).drewN nq))
    have HS := Lib.hid (fun i (hi : i < 6) => HT1.out.segv hi)
    have hf := HT1.out.free 30
    have HB := Lib.hid (show Below B w (w.drewN nq) ∧ w.heap.size ≤ (w.drewN nq).heap.size ∧ Keeps b w (w.drewN nq) from ⟨⟨rfl, rfl, rfl, Nat.le_refl _, fun _ _ => rfl⟩, Nat.le_refl _, fun _ _ _ => rfl, fun _ h => .inl h⟩)
    clear HT hc hs
    revert HT1 HS hf HB
    generalize w.drewN nq = w1
    intro HT HS hf HB
    have hc := HT.out.head HO.out
    go_wp2
    go_loop [15] (fun i => ∃ k : Nat, k ≤ 6 ∧ i = .int .i64 k ∧ Hid (Lf.roomAt d = Lf.emptyFrom d (6 - k) k)) (fun i => 6 - (intOf i).toNat)
    case atStart => exact ⟨0, Nat.zero_le _, rfl, er⟩
    case round =>
      obtain ⟨k, hk, rfl, hl⟩ := hrel
      by_cases hlt : k < 6
      · obtain ⟨A', g', c', hs', _, _⟩ := HS.out k hlt
        have hk0 : (0 : Int) ≤ k := by omega
        have hk1 : (k : Int) < 6 := by omega
        have hl' : Lf.roomAt d = if (Lf.seg d k).length = 0 then some k else Lf.emptyFrom d (6 - (k + 1)) (k + 1) := by
          have h := hl.out
          rw [show 6 - k = (5 - k) + 1 by omega] at h
          rw [show 6 - (k + 1) = 5 - k by omega]
          exact h
        by_cases hz : (Lf.seg d k).length = 0
        · rw [if_pos hz] at hl'
          rw [hz] at hs'
          have HL2 := Lib.hid hl'
          clear hl' hz hl
          go_wp2
          go_ret
          exact ⟨by rw [HL2.out]; rfl, by unfold roomD; rw [HL2.out]; exact HT.out.setHead HO.out k, HB.out.1.setCell HT.out.ge _, by simpa [World.setCell] using HB.out.2.1, HB.out.2.2.trans (HT.out.keepsHead _) HB.out.2.1⟩
        · rw [if_neg hz] at hl'
          have e2 : decide (((Lf.seg d k).length : Int) = 0) = false := decide_eq_false (by omega)
          generalize (Lf.seg d k).length = L' at hs' e2 hz
          have HL2 := Lib.hid hl'
          clear hl' hl
          go_wp2
          go_round
          case rel => exact ⟨k + 1, by omega, by go_num, HL2⟩
          case measure => simp [intOf]; omega
      · have hk6 : k = 6 := by omega
        subst hk6
        go_wp2
        go_ret
        exact ⟨by rw [hl.out]; rfl, by unfold roomD; rw [hl.out]; exact HT.out, HB.out⟩
end Go.Proofs.YtbedfffmicbgmaaDoor
