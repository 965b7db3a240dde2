/- What the laws on package sparse begin with: the closed fact, a file with which something was done. -/
import Derived.Test.YtmgalnkcpolafaaSpRead
import Derived.Test.YtmgalnkcpolafaaSpWrite
import Derived.Test.YtmgalnkcpolafaaSpCut
import Derived.Test.YtmgalnkcpolafaaCInts
import Derived.Test.YtmgalnkcpolafaaMix
import Derived.Test.YtmgalnkcpolafaaRw2
namespace Go.Proofs.Ytmgalnkcpolafaa
open Go.RowKit

theorem Sp.fact_wrong : Sp.wrong 9 [7] = 0 := by decide
theorem Sp.fact_read : Sp.readL (Sp.wr Sp.new 9 [7]) 8 9 = [0, 7] := by decide
theorem Sp.fact_size : (Sp.wr Sp.new 9 [7]).size = 10 := by decide
theorem Sp.fact_blocks : Sp.blocks (Sp.wr Sp.new 9 [7]).blk 16 = [2] := by decide
theorem Sp.fact_ok : Sp.OK (Sp.wr Sp.new 9 [7]) := Sp.wr_ok Sp.new_ok (by decide)
theorem Own.slice' {w : World} {B e : Nat} {v : Value} {xs : List Int} (h : Own w B e v xs) : ∃ A c, v = .slice A xs.length c := by
  obtain ⟨_, _, hs⟩ := h.sl
  obtain ⟨A, _, c, rfl, _⟩ := hs.form
  exact ⟨_, _, rfl⟩
theorem sl_lit1 (w : World) (x : Int) : Sl (w.alloc (.cells #[.int .i64 x] 3)) (.slice (some ⟨w.heap.size, 0, none⟩) 1 1) w.heap.size [x] := sl_new [x] (heap_alloc_new w _) (by simp; decide)
theorem sl_lit2 (w : World) (x y : Int) : Sl (w.alloc (.cells #[.int .i64 x, .int .i64 y] 3)) (.slice (some ⟨w.heap.size, 0, none⟩) 2 2) w.heap.size [x, y] := sl_new [x, y] (heap_alloc_new w _) (by simp; decide)
set_option maxRecDepth 100000 in
set_option maxHeartbeats 1000000 in
theorem sp_fact (w : World) : Calls Try.prog 15 #[] w (OkT w) := by
  have a1 := Lib.hid Sp.fact_wrong
  have a2 := Lib.hid Sp.fact_read
  have a3 := Lib.hid Sp.fact_size
  have a4 := Lib.hid Sp.fact_blocks
  have HO := Lib.hid Sp.fact_ok
  generalize hf : Sp.wr Sp.new 9 [7] = f at *
  have Hf := Lib.hid hf
  clear hf
  go_enter Try.func15, Try.ntmps15
  go_wp2_with (go_at_call 29; (with_reducible refine useC (sp_new _) ?_); rintro e w0 ⟨rfl, hs, hf⟩; have HS0 := Lib.hid hs; have HF0 := Lib.hid hf; clear hs hf)
  generalize w.heap.size + 1 = b at *
  have HWR : Hid (Calls Try.prog 19 #[.pointer (some ⟨b, 0, none⟩), .int .i64 9, .slice (some ⟨w0.heap.size, 0, none⟩) 1 1] (w0.alloc (.cells #[.int .i64 7] 3)) (SpWr (fun k => w.heap.size ≤ k ∧ k < w0.heap.size) b 64 f 0 (w0.alloc (.cells #[.int .i64 7] 3)))) := by
    have h := sp_Write _ _ b 0 Sp.new 9 _ w0.heap.size [7] (HS0.out.tight.keep ((Fr.refl [] w0).alloc (.cells #[.int .i64 7] 3))) Sp.new_ok (sl_lit1 w0 7) (.inr (by omega)) (by decide)
    rw [a1.out] at h
    have e1 : Sp.write Sp.new 9 [7] = f := by unfold Sp.write; rw [if_pos a1.out]; exact Hf.out
    rw [e1] at h
    exact h
  go_wp2_with (first
    | (go_at_call 19; (with_reducible refine useC HWR.out ?_); rintro e w1 ⟨rfl, hs, hb⟩; rw [show errV 0 = .nilIface from rfl]; have HS1 := Lib.hid hs; have HF1 := Lib.hid (hb.fr (HF0.out.alloc (.cells #[.int .i64 7] 3)) (fun _ h => h.1)); clear hs hb)
    | (go_at_call 17; (with_reducible refine useC (sp_Read_ok w1 _ _ _ f HS1.out HO.out 8 9 (by decide) (by decide)) ?_); rw [a2.out]; rintro e w2 ⟨v, rfl, ho, hf⟩; obtain ⟨g2, _, hs2⟩ := ho.sl; have HSL2 := Lib.hid (fun W (hW : Fr [] w2 W) => hs2.fr hW (by simp)); clear hs2; have HF2 := Lib.hid hf; clear ho hf)
    | (go_at_call 18; (with_reducible refine useC (sp_Size w2 _ _ _ f (HS1.out.keep HF2.out)) ?_); rw [a3.out]; rintro e w2 ⟨rfl, rfl⟩)
    | (go_at_call 20; (with_reducible refine useC (ints_same (w2.alloc (.cells #[.int .i64 0, .int .i64 7] 3)) _ _ _ _ [0, 7] (HSL2.out _ ((Fr.refl [] w2).alloc _)) (sl_lit2 w2 0 7)) ?_); rintro e w3 ⟨rfl, hdr⟩; have HF3 := Lib.hid (((Fr.refl [] w2).alloc (.cells #[.int .i64 0, .int .i64 7] 3)).trans (hdr.fr [])); clear hdr)
    | (go_at_call 21; (with_reducible refine useC (sp_Blocks w3 _ _ _ f (HS1.out.keep (HF2.out.trans HF3.out))) ?_); rw [a4.out]; rintro e w4 ⟨v4, rfl, ho, hf⟩; obtain ⟨g4, _, hs4⟩ := ho.sl; have HS4 := Lib.hid hs4; have HF4 := Lib.hid hf; clear ho hf hs4)
    | (go_at_call 20; (with_reducible refine useC (ints_same (w4.alloc (.cells #[.int .i64 2] 3)) _ _ _ _ [2] (HS4.out.fr ((Fr.refl [] w4).alloc _) (by simp)) (sl_lit1 w4 2)) ?_); rintro e w5 ⟨rfl, hdr⟩; have HF5 := Lib.hid (((Fr.refl [] w4).alloc (.cells #[.int .i64 2] 3)).trans (hdr.fr [])); clear hdr))
  go_ret
  exact ⟨rfl, ((HF1.out.trans HF2.out).trans HF3.out).trans (HF4.out.trans HF5.out)⟩
theorem Sl.form2 {w : World} {v : Value} {g : Nat} {xs : List Int} (h : Sl w v g xs) (h0 : 0 < xs.length) : ∃ o c, v = .slice (some ⟨g, o, none⟩) xs.length c ∧ xs.length ≤ c ∧ c ≤ maxLen ∧ ∀ i, i < xs.length → w.cell? ⟨g, o + i, none⟩ = some (.int .i64 (nth xs i)) := by
  rcases h with ⟨rfl, _⟩ | h
  · simp at h0
  · exact h
theorem Sl.cellAt {w : World} {g o n c : Nat} {xs : List Int} (h : Sl w (.slice (some ⟨g, o, none⟩) n c) g xs) {i : Nat} (hi : i < xs.length) : w.cell? ⟨g, o + i, none⟩ = some (.int .i64 (nth xs i)) := by
  obtain ⟨A', o1, c1, e0, -, q1, q2⟩ := h.form
  injection e0 with e0 _ _
  rw [q1 (by omega)] at e0
  injection e0 with e0
  injection e0 with _ e0 _
  subst e0
  exact q2 i hi
/-- 'l[1:]' of a list of two numbers or more. -/
theorem Sl.tail {w : World} {g o c : Nat} {xs : List Int} (hc : ∀ i, i < xs.length → w.cell? ⟨g, o + i, none⟩ = some (.int .i64 (nth xs i))) (h1 : xs.length ≤ c) (h2 : c ≤ maxLen) : Sl w (.slice (some ⟨g, o + 1, none⟩) (xs.length - 1) (c - 1)) g xs.tail := by
  refine .inr ⟨o + 1, c - 1, by rw [List.length_tail], by rw [List.length_tail]; omega, by omega, fun i hi => ?_⟩
  rw [List.length_tail] at hi
  rw [Nat.add_assoc, Nat.add_comm 1 i, hc (i + 1) (by omega)]
  simp [nth, List.getD]
/-- The call hands back a file in new memory, from block B on. -/
def SpMade (B : Nat) (w : World) (e : Ending) (w' : World) : Prop := ∃ b f, e = .returned (.pointer (some ⟨b, 0, none⟩)) ∧ SpF (B ≤ ·) w' b 2560 f ∧ Sp.OK f ∧ Below B w w' ∧ w.heap.size ≤ w'.heap.size
set_option maxRecDepth 100000 in
set_option maxHeartbeats 2000000 in
theorem sp_written (w : World) (B : Nat) (v : Value) (ls : List (List Int)) (hR : Rw B w v ls) (hB : B ≤ w.heap.size) :
    Calls Try.prog 16 #[v] w (SpMade B w) := by
  obtain ⟨A, g, o, c, rfl, hm, hF⟩ := hR
  have HF := Lib.hid hF
  clear hF
  go_enter Try.func16, Try.ntmps16
  go_wp2_with (go_at_call 29; (with_reducible refine useC (sp_new _) ?_); rintro e w0 ⟨rfl, hs, hf⟩; have HS0 := Lib.hid (hs.imp (fun k (h : _ ≤ k) => Nat.le_trans hB h)); have HB0 := Lib.hid (hf.toBelow hB (by simp)); have hs0 := hf.size; clear hs hf)
  generalize w.heap.size + 1 = b at *
  go_loopw [4] (fun i wr => ∃ k : Nat, k ≤ ls.length ∧ k ≤ 40 ∧ i = .int .i64 k ∧ ∃ f, Hid (SpF (B ≤ ·) wr b (64 * k) f) ∧ Hid (Sp.OK f) ∧ Hid (Below B w wr) ∧ Hid (w.heap.size ≤ wr.heap.size)) (fun i _ => 40 - (intOf i).toNat)
  case atStart => exact ⟨0, Nat.zero_le _, Nat.zero_le _, rfl, _, HS0.out, Sp.new_ok, HB0.out, HB0.out.size⟩
  case round =>
    obtain ⟨k, hk, hk4, rfl, f, hS, hO, hBr, hsr⟩ := hrel
    clear HS0 HB0
    have hBw := Nat.le_trans hB hsr.out
    by_cases hin : k < ls.length ∧ k < 40
    · obtain ⟨hlt, h40⟩ := hin
      obtain ⟨rfl, hg⟩ := HF.out.1 (by omega)
      obtain ⟨u, kb, hcell, hkb, hsl, _⟩ := (HF.out.below hBr.out).2 k hlt
      have HSL := Lib.hid hsl
      obtain ⟨A', o', c', rfl, hm', hA', hc'⟩ := hsl.form
      have i0 : (0 : Int) ≤ k := by omega
      have i1 : (k : Int) < ls.length := by omega
      have i4 : (k : Int) < 40 := by omega
      clear hsl
      by_cases hl1 : (nthR ls k).length = 1
      · have e1 : ((nthR ls k).length : Int) = 1 := by omega
        obtain rfl := hA' (by omega)
        have c0 := hc' 0 (by omega)
        rw [Nat.add_zero] at c0
        rw [hl1] at hcell
        have HC := Lib.hid (sp_Cut wr _ b (64 * k) f (nth (nthR ls k) 0) hS.out hO.out)
        have HOC := Lib.hid (Sp.cut_ok hO.out (nth (nthR ls k) 0))
        clear hc' hA' hl1 hkb e1
        generalize nth (nthR ls k) 0 = x0 at *
        go_wp2_with (go_at_call 24; (with_reducible refine useC HC.out ?_); rintro e w3 ⟨rfl, hs3, hb3⟩; have hz3 := hb3.size; have HS3 := Lib.hid hs3; have HB3 := Lib.hid (hBr.out.trans (hb3.below hBw)); clear hs3 hb3)
        go_roundw
        case rel => exact ⟨k + 1, by omega, by omega, by go_num, _, HS3.out.mono (by omega), HOC, HB3, Nat.le_trans hsr.out hz3⟩
        case measure => simp [intOf]; omega
      · by_cases hl2 : 1 < (nthR ls k).length
        · have e1 : (((nthR ls k).length : Int) == 1) = false := by simp; omega
          have e2 : (1 : Int) < (nthR ls k).length := by omega
          have e3 : (1 : Int) ≤ (nthR ls k).length := by omega
          obtain ⟨o2, c2, e0, k1, k2, k3⟩ := HSL.out.form2 (by omega)
          injection e0 with e0 _ e4
          subst e4
          have e5 : c' ≠ 1 := by omega
          obtain rfl := hA' (by omega)
          injection e0 with e0
          injection e0 with _ e0 _
          subst e0
          have c0 := hc' 0 (by omega)
          rw [Nat.add_zero] at c0
          have HTL := Lib.hid (Sl.tail k3 k1 k2)
          have HWR := Lib.hid (fun W (hW : Fr [] wr W) => sp_Write W _ b (64 * k) f (nth (nthR ls k) 0) _ kb (nthR ls k).tail (hS.out.keep hW) hO.out (HTL.out.fr hW (by simp)) (hkb.elim (fun h => .inr (by omega)) (fun h => .inl (by rw [h]; rfl))) (by omega))
          have HOC := Lib.hid (Sp.write_ok hO.out (nth (nthR ls k) 0) (nthR ls k).tail)
          clear hc' hA' hl1 hkb k1 k2 k3 hm'
          generalize nth (nthR ls k) 0 = x0 at *
          generalize (nthR ls k).tail = tl at *
          generalize (nthR ls k).length = n at *
          have n0 : 0 < n := by omega
          have n1 : (0 : Int) < n := by omega
          go_wp2
          (refine wp_region_mixq 12 [(true, 0), (true, 1), (true, 2), (true, 3), (true, 4), (true, 5), (true, 6), (true, 7), (true, 8), (true, 9), (true, 10), (true, 11)] (by kernel_rfl) (by kernel_rfl) ?_; simp only [pickOps, List.map_cons, List.map_nil, List.getD_cons_zero, List.getD_cons_succ, List.drop_succ_cons, List.drop_zero]; (iterate 12 (first | (refine wpMix_take (v := ?_) (by rfl) ?_ ?_; rotate_left; (focus (intro W hW; subst hW; go_simp; (try with_reducible rfl); done)); try simp only [Act.put, List.setIfInBounds_toArray, List.set_cons_zero, List.set_cons_succ]) | (refine wpMix_leave (by rfl) ?_; try simp only [Act.put, List.setIfInBounds_toArray, List.set_cons_zero, List.set_cons_succ]))); refine wpMix_nil ?_)
          go_wp2_with (go_at_call 19; (with_reducible refine useC (HWR.out _ (Fr.refl [] wr).drew) ?_); rintro e w3 ⟨rfl, hs3, hb3⟩; have hz3 := hb3.size; have HS3 := Lib.hid (hs3.imp (fun k h => h.elim (fun h => h) (fun h => Nat.le_trans hBw h))); have HB3 := Lib.hid (hBr.out.drew.trans (hb3.below hBw)); clear hs3 hb3)
          go_roundw
          case rel => exact ⟨k + 1, by omega, by omega, by go_num, _, HS3.out.mono (by omega), HOC, HB3, Nat.le_trans hsr.out hz3⟩
          case measure => simp [intOf]; omega
        · have e1 : (((nthR ls k).length : Int) == 1) = false := by simp; omega
          have e2 : ¬ (1 : Int) < (nthR ls k).length := by omega
          clear hc' hA' hl1 hl2 hkb
          go_wp2
          go_roundw
          case rel => exact ⟨k + 1, by omega, by omega, by go_num, f, hS.out.mono (by omega), hO, hBr, hsr⟩
          case measure => simp [intOf]; omega
    · have hout : ¬ (k : Int) < ls.length ∨ ((k : Int) < ls.length ∧ ¬ (k : Int) < 40) := by omega
      rcases hout with hout | ⟨hout, hout'⟩
      all_goals
        go_wp2
        go_ret
        exact ⟨b, f, rfl, hS.out.mono (by omega), hO.out, hBr.out, hsr.out⟩
end Go.Proofs.Ytmgalnkcpolafaa
