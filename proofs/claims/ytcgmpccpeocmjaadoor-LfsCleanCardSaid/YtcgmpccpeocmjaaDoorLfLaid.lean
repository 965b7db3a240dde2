/- The contract of the laws' own 'laid': a disk that was written and cleaned. -/
import Derived.Test.YtcgmpccpeocmjaaDoorLfFact
import Derived.Test.YtcgmpccpeocmjaaDoorLfPlain4
import Derived.Test.YtcgmpccpeocmjaaDoorMix
namespace Go.Proofs.YtcgmpccpeocmjaaDoor
open Go.RowKit

/-- What laid hands back. -/
def LaidAns (w : World) (e : Ending) (w' : World) : Prop := ∃ b d, e = .returned (.pointer (some ⟨b, 0, none⟩)) ∧ LfD w.heap.size w' b d ∧ Lf.OK d ∧ Lf.Full d ∧ Below w.heap.size w w' ∧ w.heap.size ≤ w'.heap.size
/-- What its loop knows. -/
structure LaSt (w wr : World) (b : Nat) (d : Lf.D) : Prop where
  disk : LfD w.heap.size wr b d
  ok : Lf.OK d
  full : Lf.Full d
  below : Below w.heap.size w wr
  size : w.heap.size ≤ wr.heap.size
theorem LaSt.fr {w wr w' : World} {b : Nat} {d : Lf.D} (h : LaSt w wr b d) (hf : Fr [] wr w') : LaSt w w' b d :=
  ⟨h.disk.keep hf, h.ok, h.full, h.below.trans (hf.toBelow h.size (by simp)), Nat.le_trans h.size hf.size⟩
theorem LaSt.ans {w wr w' : World} {b : Nat} {d d' : Lf.D} {v : Value} {e : Ending} (h : LaSt w wr b d) (ha : LfAns w.heap.size b v d' wr e w') (hO : Lf.OK d') (hF : Lf.Full d') : LaSt w w' b d' :=
  ⟨ha.2.1, hO, hF, h.below.trans ha.2.2.1, Nat.le_trans h.size ha.2.2.2.1⟩
set_option maxRecDepth 100000 in
set_option maxHeartbeats 8000000 in
theorem lf_laid (w : World) (v : Value) (ls : List (List Int)) (hR : Rw w.heap.size w v ls) :
    Calls Tryd.prog 6 #[v] w (LaidAns w) := by
  obtain ⟨A, g, o, c, rfl, hm, hF⟩ := hR
  have HF := Lib.hid hF
  clear hF
  go_enter Tryd.func6, Tryd.ntmps6
  go_wp2_with (go_at_call 12; (with_reducible refine useC (lf_new _ w.heap.size (Nat.le_refl _)) ?_); rintro e w1 ⟨rfl, hD1, hF1⟩; have hst : Hid (LaSt w w1 w.heap.size Lf.new) := (⟨hD1, Lf.new_ok, Lf.new_full, hF1.below, hF1.size⟩ : LaSt w w1 w.heap.size Lf.new); clear hD1 hF1)
  go_loopw [4] (fun i wr => ∃ k : Nat, k ≤ ls.length ∧ k ≤ 80 ∧ i = .int .i64 k ∧ ∃ d, Hid (LaSt w wr w.heap.size d)) (fun i _ => 80 - (intOf i).toNat)
  case atStart => exact ⟨0, Nat.zero_le _, Nat.zero_le _, rfl, _, hst⟩
  case round =>
    obtain ⟨k, hk, hk8, rfl, d, hS⟩ := hrel
    clear hst
    have hsz := hS.out.size
    by_cases hin : k < ls.length ∧ k < 80
    · obtain ⟨hlt, h80⟩ := hin
      obtain ⟨rfl, hg⟩ := HF.out.1 (by omega)
      obtain ⟨u, kb, hcell, hkb, hsl, _⟩ := (HF.out.below hS.out.below).2 k hlt
      obtain ⟨A', o', c', rfl, hm', hA', hc'⟩ := hsl.form
      have i0 : (0 : Int) ≤ k := by omega
      have i1 : (k : Int) < ls.length := by omega
      have i80 : (k : Int) < 80 := by omega
      clear hsl
      by_cases hl1 : (nthR ls k).length = 1
      · have e1 : ((nthR ls k).length : Int) = 1 := by omega
        have hco := Lib.hid (Lf.clean_ok hS.out.ok)
        have hcf := Lib.hid (Lf.clean_full hS.out.ok hS.out.full)
        clear hc' hA' hl1 hkb
        go_wp2_with (go_at_call 9; (with_reducible refine useC (lf_clean _ w.heap.size _ d hS.out.disk hS.out.ok hsz) ?_); rintro e w3 hA; have he := hA.1; subst he; have HS3 := Lib.hid (hS.out.ans hA hco.out.1 hcf.out.1); clear hA)
        go_roundw
        case rel => exact ⟨k + 1, by omega, by omega, by go_num, _, HS3⟩
        case measure => simp [intOf]; omega
      · by_cases hl2 : (nthR ls k).length = 2
        · have e1 : ((nthR ls k).length : Int) = 2 := by omega
          obtain rfl := hA' (by omega)
          have c0 := hc' 0 (by omega)
          rw [Nat.add_zero] at c0
          have c1 := hc' 1 (by omega)
          clear hc' hA' hl1 hl2 hkb
          generalize nth (nthR ls k) 0 = x0 at c0
          generalize nth (nthR ls k) 1 = x1 at c1
          have HDR : Hid (LaSt w wr.drew w.heap.size d) := hS.out.fr ((Fr.refl _ _).drew)
          have HWR := Lib.hid (lf_write wr.drew w.heap.size _ d x0 x1 HDR.out.disk HDR.out.ok HDR.out.size)
          have HWK := Lib.hid (Lf.write_ok hS.out.ok x0 x1)
          have HWF := Lib.hid (Lf.write_full hS.out.ok hS.out.full x0 x1)
          go_wp2
          (refine wp_region_mixq 13 [(true, 0), (true, 1), (true, 2), (true, 3), (true, 4), (true, 5), (true, 6), (true, 7), (true, 8), (true, 9), (true, 10), (true, 11), (true, 12)] (by kernel_rfl) (by kernel_rfl) ?_; simp only [pickOps, List.map_cons, List.map_nil, List.getD_cons_zero, List.getD_cons_succ, List.drop_succ_cons, List.drop_zero, List.drop_nil]; (iterate 13 (first | (refine wpMix_take (v := ?_) (by rfl) ?_ ?_; rotate_left; (focus (intro W hW; subst hW; go_simp; (try with_reducible rfl); done)); try simp only [Act.put, List.setIfInBounds_toArray, List.set_cons_zero, List.set_cons_succ]) | (refine wpMix_leave (by rfl) ?_; try simp only [Act.put, List.setIfInBounds_toArray, List.set_cons_zero, List.set_cons_succ]))); refine wpMix_nil ?_)
          go_wp2_with (go_at_call 11; (with_reducible refine useC HWR.out ?_); rintro e w3 hA; have he := hA.1; subst he; have HS3 := Lib.hid (HDR.out.ans hA HWK.out.1 HWF.out); clear hA)
          go_roundw
          case rel => exact ⟨k + 1, by omega, by omega, by go_num, _, HS3⟩
          case measure => simp [intOf]; omega
        · have e1 : (((nthR ls k).length : Int) == 1) = false := by simp; omega
          have e2 : (((nthR ls k).length : Int) == 2) = false := by simp; omega
          clear hc' hA' hl1 hl2 hkb
          go_wp2
          go_roundw
          case rel => exact ⟨k + 1, by omega, by omega, by go_num, _, hS⟩
          case measure => simp [intOf]; omega
    · have hout : ¬ (k : Int) < ls.length ∨ ((k : Int) < ls.length ∧ ¬ (k : Int) < 80) := by omega
      rcases hout with hout | ⟨hout, hout'⟩
      all_goals
        go_wp2
        go_ret
        exact ⟨_, d, rfl, hS.out.disk, hS.out.ok, hS.out.full, hS.out.below, hsz⟩
end Go.Proofs.YtcgmpccpeocmjaaDoor
