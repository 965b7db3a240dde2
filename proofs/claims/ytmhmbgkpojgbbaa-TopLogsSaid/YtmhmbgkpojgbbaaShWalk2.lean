/- The contracts of package shadow's functions that make rows, or turn a table about. -/
import Derived.Test.YtmhmbgkpojgbbaaShWalk
namespace Go.Proofs.Ytmhmbgkpojgbbaa
open Go.RowKit

/-- A table whose numbers are slots, or less than 0. -/
def ShT (t : List Int) : Prop := t.length = 8 ∧ ∀ i, i < 8 → nth t i ≤ 15
theorem vals_snoc (l t : List Int) (k : Nat) (h : k < t.length) : (Sh.vals l (t.take (k + 1))) = Sh.vals l (t.take k) ++ [Sh.val1 l (nth t k)] := by
  rw [List.take_succ_eq_append_getElem h]; simp only [Sh.vals, List.map_append]; simp [nth, List.getD, h]
theorem sh_values (w : World) (b : Nat) (d : Sh.D) (t : List Int) (hD : ShD w b d) (h : d.slot.length = 16) (h1 : d.old.length = 8) (h2 : d.now.length = 8) (ht : ShT t) :
    Calls Try.prog 41 #[.pointer (some ⟨b, 0, none⟩), .agg (ints t)] w (NewRow (Sh.vals d.slot t) w) := by
  have hb := lt_of_heap hD
  have hslot := fun (i : Nat) (hi : i < 16) => hD.slot h h1 h2 hi
  have HS := Lib.hid hslot
  have HT := Lib.hid ht
  have hsz : (ints t).size = 8 := by simp [ht.1]
  have HZ := Lib.hid hsz
  clear hslot hD h h1 h2 ht hsz
  go_enter Try.func41, Try.ntmps41
  go_wp2_with (refine wpList_load_row rfl 59 _ rfl w.heap.size rfl 59 (ints t) (0, 0) _ (heap_alloc_new w _) Try.underlying59 rfl (by rw [HZ.out]; kernel_rfl) ?_)
  go_loopw [5, 10] (fun v i wr => ∃ k : Nat, k ≤ 8 ∧ i = .int .i64 k ∧ Hid (Own wr (w.heap.size + 1) 3 v (Sh.vals d.slot (t.take k))) ∧ Hid (Fr [] w wr) ∧ w.heap.size + 1 ≤ wr.heap.size) (fun _ i _ => 8 - (intOf i).toNat)
  case atStart => exact ⟨0, Nat.zero_le _, rfl, Own.nil _ _ _, (Fr.refl _ _).alloc _, by simp⟩
  case round =>
    obtain ⟨k, hk, rfl, hown, hfr, hsz⟩ := hrel
    by_cases hlt : k < 8
    · have hidx := fun W => run_index_agg (P := Try.prog) W 59 3 8 k (ints t) (.int .i64 (nth t k)) Try.underlying59 (by kernel_rfl) (by kernel_rfl) hlt (ints_get t k (by rw [HT.out.1]; exact hlt))
      have hs15 := HT.out.2 k hlt
      have hsn := Lib.hid (vals_snoc d.slot t k (by rw [HT.out.1]; exact hlt))
      have hlen := Lib.hid (show (Sh.vals d.slot (t.take k)).length ≤ 8 from by simp [Sh.vals]; omega)
      by_cases h0 : 0 ≤ nth t k
      · have hcell := hfr.out.cell (HS.out (nth t k).toNat (by omega)) (by simp)
        have hv := Lib.hid (show Sh.val1 d.slot (nth t k) = nth d.slot (nth t k).toNat from by unfold Sh.val1; rw [if_pos h0])
        have h16 : nth t k < 16 := by omega
        go_wp2_with (at_builtin; refine wpList_push_int Try.intT rfl _ _ rfl (w.heap.size + 1) _ _ rfl hown.out rfl (by have := hlen.out; omega) hsz ?_; intro v' w1 hown1 _ hbel)
        have H1 := Lib.hid hown1
        have H2 := Lib.hid hbel
        have hsz1 := Nat.le_trans hsz hbel.size
        clear hown1 hbel
        go_wp2
        go_roundw
        case rel => exact ⟨k + 1, by omega, by go_num, by rw [hsn.out, hv.out]; exact H1.out, hfr.out.below_step H2.out (by omega), hsz1⟩
        case measure => simp [intOf]; omega
      · have hv := Lib.hid (show Sh.val1 d.slot (nth t k) = 0 from by unfold Sh.val1; rw [if_neg h0])
        go_wp2_with (at_builtin; refine wpList_push_int Try.intT rfl _ _ rfl (w.heap.size + 1) _ _ rfl hown.out rfl (by have := hlen.out; omega) hsz ?_; intro v' w1 hown1 _ hbel)
        have H1 := Lib.hid hown1
        have H2 := Lib.hid hbel
        have hsz1 := Nat.le_trans hsz hbel.size
        clear hown1 hbel
        go_wp2
        go_roundw
        case rel => exact ⟨k + 1, by omega, by go_num, by rw [hsn.out, hv.out]; exact H1.out, hfr.out.below_step H2.out (by omega), hsz1⟩
        case measure => simp [intOf]; omega
    · have hk8 : k = 8 := by omega
      subst hk8
      have ht8 : t.take 8 = t := List.take_of_length_le (by rw [HT.out.1]; exact Nat.le_refl _)
      rw [ht8] at hown
      obtain ⟨g, hg, hsl⟩ := hown.out.sl
      have hg' := Lib.hid (hg.imp_left (fun h => show w.heap.size ≤ g by omega))
      have HSL := Lib.hid hsl
      clear hsl ht8 hg
      go_wp2
      go_ret
      exact ⟨_, g, rfl, hg'.out, HSL.out, hfr.out⟩
end Go.Proofs.Ytmhmbgkpojgbbaa
