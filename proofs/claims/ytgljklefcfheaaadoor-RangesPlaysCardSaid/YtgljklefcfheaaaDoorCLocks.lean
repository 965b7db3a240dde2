/- The contract of platterholdsame.Locks: two lists that say the same. -/
import Derived.Test.YtgljklefcfheaaaDoorRefList
import Derived.Test.YtgljklefcfheaaaDoorMix
namespace Go.Proofs.YtgljklefcfheaaaDoor
open Go.RowKit

theorem SlR.l4 {w : World} {v : Value} {g : Nat} {L : List Ra.Lk} (h : SlR lkE w v g L) : ∃ (A : Option Addr) (o c : Nat), v = .slice A L.length c ∧ (0 < L.length → A = some ⟨g, o, none⟩) ∧ ∀ i (hi : i < L.length),
    w.cell? ⟨g, o + i * 4, none⟩ = some (.int .i64 L[i].1) ∧ w.cell? ⟨g, o + i * 4 + 1, none⟩ = some (.int .i64 L[i].2.1) ∧ w.cell? ⟨g, o + i * 4 + 2, none⟩ = some (.int .i64 L[i].2.2.1) ∧ w.cell? ⟨g, o + i * 4 + 3, none⟩ = some (.bool L[i].2.2.2) := by
  obtain ⟨A, o, c, rfl, -, hA, hc⟩ := h.form
  exact ⟨A, o, c, rfl, hA, fun i hi => ⟨hc i hi 0 (by decide), hc i hi 1 (by decide), hc i hi 2 (by decide), hc i hi 3 (by decide)⟩⟩
set_option maxRecDepth 100000 in
set_option maxHeartbeats 1000000 in
theorem locks_same (w : World) (v u : Value) (g k0 : Nat) (L : List Ra.Lk) (h : SlR lkE w v g L) (h' : SlR lkE w u k0 L) (hb : L.length ≤ 1000000) :
    Calls Tryd.prog 27 #[v, u] w (OkT w) := by
  obtain ⟨A1, o1, c1, rfl, hA1, hc1⟩ := h.l4
  obtain ⟨A2, o2, c2, rfl, hA2, hc2⟩ := h'.l4
  have HC := Lib.hid (fun W (hW : Fr [] w W) i (hi : i < L.length) => And.intro (And.intro (hW.cell (hc1 i hi).1 (by simp)) (And.intro (hW.cell (hc1 i hi).2.1 (by simp)) (And.intro (hW.cell (hc1 i hi).2.2.1 (by simp)) (hW.cell (hc1 i hi).2.2.2 (by simp)))))
    (And.intro (hW.cell (hc2 i hi).1 (by simp)) (And.intro (hW.cell (hc2 i hi).2.1 (by simp)) (And.intro (hW.cell (hc2 i hi).2.2.1 (by simp)) (hW.cell (hc2 i hi).2.2.2 (by simp))))))
  have HA1 := Lib.hid hA1
  have HA2 := Lib.hid hA2
  clear h h' hc1 hc2 hA1 hA2
  go_enter Tryd.func27, Tryd.ntmps27
  go_wp2_with fail
  go_loopw [5] (fun i wr => ∃ k : Nat, k ≤ L.length ∧ i = .int .i64 k ∧ Hid (Fr [] w wr)) (fun i _ => L.length - (intOf i).toNat)
  case atStart => exact ⟨0, Nat.zero_le _, rfl, Fr.refl _ _⟩
  case round =>
    obtain ⟨k, hk, rfl, hF⟩ := hrel
    by_cases hlt : k < L.length
    · have kI : (k : Int) < L.length := by omega
      have k0' : (0 : Int) ≤ k := by omega
      obtain rfl := HA1.out (by omega)
      obtain rfl := HA2.out (by omega)
      obtain ⟨⟨a0, a1, a2, a3⟩, ⟨d0, d1, d2, d3⟩⟩ := HC.out wr hF.out k hlt
      have HFD := Lib.hid hF.out.drew
      clear hF
      generalize L[k] = r at *
      obtain ⟨r0, r1, r2, r3⟩ := r
      dsimp only at a0 a1 a2 a3 d0 d1 d2 d3
      go_wp2_with fail
      (refine wp_region_mixq 8 [(true, 0), (true, 1), (true, 2), (true, 3), (true, 4), (true, 5), (true, 6), (true, 7)] (by kernel_rfl) (by kernel_rfl) ?_; simp only [pickOps, List.map_cons, List.map_nil, List.getD_cons_zero, List.getD_cons_succ, List.drop_succ_cons, List.drop_zero]; (iterate 8 (first | (refine wpMix_take (v := ?_) (by rfl) ?_ ?_; rotate_left; (focus (intro W hW; subst hW; go_simp; (try with_reducible rfl); done)); try simp only [Act.put, List.setIfInBounds_toArray, List.set_cons_zero, List.set_cons_succ]) | (refine wpMix_leave (by rfl) ?_; try simp only [Act.put, List.setIfInBounds_toArray, List.set_cons_zero, List.set_cons_succ]))); refine wpMix_nil ?_)
      go_wp2
      go_roundw
      case rel => exact ⟨k + 1, by omega, by go_num, HFD⟩
      case measure => (simp [intOf]; try omega)
    · have kI : ¬ (k : Int) < L.length := by omega
      go_wp2
      go_ret
      exact ⟨rfl, hF.out⟩
end Go.Proofs.YtgljklefcfheaaaDoor
