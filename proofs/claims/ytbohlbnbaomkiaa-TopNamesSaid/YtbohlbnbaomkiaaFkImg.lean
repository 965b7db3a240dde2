/- The contract of the laws' own Images. -/
import Derived.Test.YtbohlbnbaomkiaaFkWalk3
import Derived.Test.YtbohlbnbaomkiaaCInts
import Derived.Test.YtbohlbnbaomkiaaMix
namespace Go.Proofs.Ytbohlbnbaomkiaa
open Go.RowKit

theorem ImV.form {w : World} {v : Value} {C : List Int} {E : List (Int × Int)} (h : ImV w v C E) : ∃ A1 c1 A2 c2, v = .agg #[.slice A1 C.length c1, .slice A2 E.length c2] := by
  obtain ⟨c, e, g1, g2, rfl, h1, h2⟩ := h
  obtain ⟨A1, _, c1, rfl, _⟩ := h1.form
  obtain ⟨A2, _, c2, rfl, _⟩ := h2.form
  exact ⟨_, _, _, _, rfl⟩
theorem slr_new {α : Type} {En : Enc α} {w : World} {g : Nat} {t : TypeId} {fr : Nat × Nat} (l : List α) (h : w.heap[g]? = some (.cells (En.cells l).toArray t fr)) (hl : l.length ≤ maxLen) : SlR En w (.slice (some ⟨g, 0, none⟩) l.length l.length) g l :=
  .inr ⟨0, l.length, rfl, Nat.le_refl _, hl, fun i hi r hr => by rw [Nat.zero_add, cell_of_row w g _ _ _ _ h, ← En.cells_get l i r hi hr]; simp⟩
set_option maxRecDepth 100000 in
set_option maxHeartbeats 1000000 in
theorem fk_images (w : World) (v u : Value) (C : List Int) (E : List (Int × Int)) (hv : ImV w v C E) (hu : ImV w u C E) (hl : E.length ≤ 1000) :
    Calls Try.prog 10 #[v, u] w fun e w' => e = .returned (.bool true) ∧ Fr [] w w' := by
  obtain ⟨vc, ve, g1, g2, rfl, hC, hE⟩ := hv
  obtain ⟨uc, ue, k1, k2, rfl, hC', hE'⟩ := hu
  obtain ⟨A1, o1, c1, rfl, m1, hA1, hc1⟩ := hC.form
  obtain ⟨A2, o2, c2, rfl, m2, hA2, hc2⟩ := hE.formE
  obtain ⟨B1, p1, d1, rfl, n1, hB1, hd1⟩ := hC'.form
  obtain ⟨B2, p2, d2, rfl, n2, hB2, hd2⟩ := hE'.formE
  have HI := Lib.hid (fun W (hW : Fr [] w W) => ints_same W _ _ _ _ C (hC.fr hW (by simp)) (hC'.fr hW (by simp)))
  have HA := Lib.hid hA2
  have HB := Lib.hid hB2
  have HE := Lib.hid (fun W (hW : Fr [] w W) k (hk : k < E.length) => And.intro (hW.cell (hc2 k hk).1 (by simp)) (hW.cell (hc2 k hk).2 (by simp)))
  have HE' := Lib.hid (fun W (hW : Fr [] w W) k (hk : k < E.length) => And.intro (hW.cell (hd2 k hk).1 (by simp)) (hW.cell (hd2 k hk).2 (by simp)))
  have HF : Hid (Fr [] w ((w.alloc (.cells #[.slice A1 C.length c1, .slice A2 E.length c2] 25)).alloc (.cells #[.slice B1 C.length d1, .slice B2 E.length d2] 25))) := ((Fr.refl _ _).alloc _).alloc _
  have h2 := Lib.hid (im2_new (w.alloc (.cells #[.slice A1 C.length c1, .slice A2 E.length c2] 25)) (.slice B1 C.length d1) (.slice B2 E.length d2))
  rw [show (w.alloc (.cells #[.slice A1 C.length c1, .slice A2 E.length c2] 25)).heap.size = w.heap.size + 1 by simp] at h2
  have h1 : Hid (Im2 ((w.alloc (.cells #[.slice A1 C.length c1, .slice A2 E.length c2] 25)).alloc (.cells #[.slice B1 C.length d1, .slice B2 E.length d2] 25)) w.heap.size (.slice A1 C.length c1) (.slice A2 E.length c2)) := ((Fr.refl [] _).alloc _).get (im2_new w (.slice A1 C.length c1) (.slice A2 E.length c2)) (by simp)
  clear hC hE hC' hE' hA1 hc1 hA2 hc2 hB1 hd1 hB2 hd2
  go_enter Try.func10, Try.ntmps10
  go_wp2_with fail
  revert HF
  revert h1
  revert h2
  generalize ((w.alloc (.cells #[.slice A1 C.length c1, .slice A2 E.length c2] 25)).alloc (.cells #[.slice B1 C.length d1, .slice B2 E.length d2] 25)) = w1
  intro h2 h1 HF
  refine useC (HI.out w1 HF.out) ?_
  rintro e w2 ⟨rfl, hdr⟩
  have HF2 := Lib.hid (HF.out.trans (hdr.fr []))
  have H1 : Hid (Im2 w2 w.heap.size (.slice A1 C.length c1) (.slice A2 E.length c2)) := (hdr.fr []).get h1.out (by simp)
  have H2 : Hid (Im2 w2 (w.heap.size + 1) (.slice B1 C.length d1) (.slice B2 E.length d2)) := (hdr.fr []).get h2.out (by simp)
  obtain ⟨x0, x1⟩ := H1.out.cells
  obtain ⟨y0, y1⟩ := H2.out.cells
  clear hdr h1 h2
  generalize w.heap.size = B at *
  have hne : ((E.length : Int) != E.length) = false := by simp
  go_wp2
  clear x0 x1 y0 y1
  go_loopw [5] (fun i wr => ∃ k : Nat, k ≤ E.length ∧ i = .int .i64 k ∧ Hid (Fr [] w2 wr)) (fun i _ => E.length - (intOf i).toNat)
  case atStart => exact ⟨0, Nat.zero_le _, rfl, Fr.refl _ _⟩
  case round =>
    obtain ⟨k, hk, rfl, hF⟩ := hrel
    obtain ⟨x0, x1⟩ := Im2.cells (hF.out.get H1.out (by simp))
    obtain ⟨y0, y1⟩ := Im2.cells (hF.out.get H2.out (by simp))
    by_cases hlt : k < E.length
    · obtain rfl := HA.out (by omega)
      obtain rfl := HB.out (by omega)
      obtain ⟨q0, q1⟩ := HE.out wr (HF2.out.trans hF.out) k hlt
      obtain ⟨r0, r1⟩ := HE'.out wr (HF2.out.trans hF.out) k hlt
      have hlt2 : (k : Int) < E.length := by omega
      have hlt3 : (0 : Int) ≤ (k : Int) := by omega
      go_wp2
      (refine wp_region_mixq 10 [(true, 0), (true, 1), (true, 2), (true, 3), (true, 4), (true, 5), (true, 6), (true, 7), (true, 8), (true, 9)] (by kernel_rfl) (by kernel_rfl) ?_; simp only [pickOps, List.map_cons, List.map_nil, List.getD_cons_zero, List.getD_cons_succ, List.drop_succ_cons, List.drop_zero]; (iterate 10 (first | (refine wpMix_take (v := ?_) (by rfl) ?_ ?_; rotate_left; (focus (intro W hW; subst hW; go_simp; (try with_reducible rfl); done)); try simp only [Act.put, List.setIfInBounds_toArray, List.set_cons_zero, List.set_cons_succ]) | (refine wpMix_leave (by rfl) ?_; try simp only [Act.put, List.setIfInBounds_toArray, List.set_cons_zero, List.set_cons_succ]))); refine wpMix_nil ?_)
      go_wp2
      go_roundw
      case rel => exact ⟨k + 1, by omega, by go_num, hF.out.drew⟩
      case measure => simp [intOf]; omega
    · go_wp2
      go_ret
      exact ⟨rfl, HF2.out.trans hF.out⟩
end Go.Proofs.Ytbohlbnbaomkiaa
