/- UndoCrash: behind a crash just what had ended is there. -/
import Derived.Test.YtmhmbgkpojgbbaaUnLaw
import Derived.Test.YtmhmbgkpojgbbaaUnCrash
import Derived.Test.YtmhmbgkpojgbbaaMkInts0
import Derived.Test.YtmhmbgkpojgbbaaCIn2
namespace Go.Proofs.Ytmhmbgkpojgbbaa
open Go.RowKit

/-- A disk beside two rows of eight numbers. -/
structure UnWn (w wr : World) (P : Nat → Prop) (b m n : Nat) (d : Un.D) (want now : List Int) : Prop where
  s : UnS w wr P b d
  m1 : ¬ P m
  m2 : w.heap.size ≤ m
  m3 : wr.heap[m]? = some (.cells (ints want) 3 (0, 0))
  n1 : ¬ P n
  n2 : w.heap.size ≤ n
  n3 : wr.heap[n]? = some (.cells (ints now) 3 (0, 0))
  ne : m ≠ n
section
variable {w wr w' : World} {P : Nat → Prop} {b m n : Nat} {d d' : Un.D} {want now : List Int}
theorem UnWn.step (h : UnWn w wr P b m n d want now) (hf : Fr [] wr w') : UnWn w w' P b m n d want now := ⟨h.s.step hf, h.m1, h.m2, hf.get h.m3 (by simp), h.n1, h.n2, hf.get h.n3 (by simp), h.ne⟩
theorem UnWn.turn (h : UnWn w wr P b m n d want now) {v : Value} {e : Ending} (ha : UnAns P b v d' wr e w') : e = .returned v ∧ FrP P wr w' ∧ ∃ P', UnWn w w' P' b m n d' want now := by
  obtain ⟨h1, h2, h3⟩ := h.s.turn ha
  have hm := lt_of_heap h.m3
  have hn := lt_of_heap h.n3
  exact ⟨h1, h3, _, h2, fun hk => hk.1.elim h.m1 (fun hs => by omega), h.m2, (h3.block m hm h.m1).trans h.m3, fun hk => hk.1.elim h.n1 (fun hs => by omega), h.n2, (h3.block n hn h.n1).trans h.n3, h.ne⟩
theorem UnS.side {B : Nat} (h : UnS w wr P b d) (hf : Fr [B] wr w') (hB : ¬ P B) (hW : w.heap.size ≤ B) : UnS w w' P b d := by
  obtain ⟨h0, lv, h1⟩ := h.file
  exact ⟨⟨h0, lv, h1.fr hf (fun e => hB (by simp only [List.mem_singleton] at e; rw [← e]; exact h1.gb)) (fun g hg e => hB (by simp only [List.mem_singleton] at hg; rw [← hg]; exact h1.gl g e))⟩, fun k hk => ⟨(h.hP k hk).1, Nat.lt_of_lt_of_le (h.hP k hk).2 hf.size⟩, h.fr.step hf (fun x hx => .inr (by simp only [List.mem_singleton] at hx; subst hx; exact hW))⟩
theorem UnWn.putNow (h : UnWn w wr P b m n d want now) (i : Nat) (x : Int) : UnWn w (wr.setCell ⟨n, i, none⟩ (.int .i64 x)) P b m n d want (now.set i x) :=
  ⟨h.s.side (UnB.one wr n i _) h.n1 h.n2, h.m1, h.m2, (UnB.one wr n i _).get h.m3 (by simp; exact h.ne), h.n1, h.n2, by rw [set_block h.n3, ints_set], h.ne⟩
theorem UnWn.putWant (h : UnWn w wr P b m n d want now) (i : Nat) (x : Int) : UnWn w (wr.setCell ⟨m, i, none⟩ (.int .i64 x)) P b m n d (want.set i x) now :=
  ⟨h.s.side (UnB.one wr m i _) h.m1 h.m2, h.m1, h.m2, by rw [set_block h.m3, ints_set], h.n1, h.n2, (UnB.one wr m i _).get h.n3 (by simp; exact fun e => h.ne e.symm), h.ne⟩
end
/-- What is wanted, when the first j blocks have been looked at. -/
def Un.wantTo (d : Un.D) (u : Int) (w : List Int) : Nat → List Int
  | 0 => w
  | j + 1 => if nth d.busy j = u ∧ 0 ≤ u then (Un.wantTo d u w j).set j (nth d.blk j) else Un.wantTo d u w j
theorem Un.wantTo_len (d : Un.D) (u : Int) (w : List Int) : ∀ j, (Un.wantTo d u w j).length = w.length
  | 0 => rfl
  | j + 1 => by unfold Un.wantTo; split <;> simp [Un.wantTo_len d u w j]
theorem Un.wantTo_nth (d : Un.D) (u : Int) (w : List Int) (i : Nat) : ∀ j, j ≤ w.length → nth (Un.wantTo d u w j) i = if i < j then Un.wantAt d u w i else nth w i
  | 0, _ => by unfold Un.wantTo; rw [if_neg (by omega)]
  | j + 1, h => by
    have ih := Un.wantTo_nth d u w i j (by omega)
    unfold Un.wantTo
    split
    · rename_i hk
      rw [Un.nth_set _ _ _ _ (by rw [Un.wantTo_len]; omega), ih]
      by_cases e : j = i
      · subst e
        rw [if_pos rfl, if_pos (by omega)]
        unfold Un.wantAt
        rw [if_pos hk]
      · rw [if_neg e]
        by_cases h2 : i < j
        · rw [if_pos h2, if_pos (by omega)]
        · rw [if_neg h2, if_neg (by omega)]
    · rename_i hk
      rw [ih]
      by_cases h2 : i < j
      · rw [if_pos h2, if_pos (by omega)]
      · rw [if_neg h2]
        by_cases e : i = j
        · subst e
          rw [if_pos (by omega)]
          unfold Un.wantAt
          rw [if_neg hk]
        · rw [if_neg (by omega)]
theorem Un.wantTo_end {d : Un.D} (h : Un.OK d) (u : Int) : Un.wantTo d u (Un.un Un.all d.was d.blk) 8 = Un.un Un.all (Un.end_ d u).was (Un.end_ d u).blk :=
  Un.crash_end h u rfl (by rw [Un.wantTo_len, Un.un_len, h.blk]) (fun b hb => by rw [Un.wantTo_nth _ _ _ _ _ (by rw [Un.un_len, h.blk]; exact Nat.le_refl _), if_pos hb])
/-- Between two steps. -/
def UnWns (w wr : World) (b m n : Nat) : Prop := ∃ P d, UnWn w wr P b m n d (Un.un Un.all d.was d.blk) d.blk
set_option maxRecDepth 100000 in
set_option maxHeartbeats 8000000 in
theorem un_crashL (w : World) (v : Value) (ls : List (List Int)) (hR : Rw w.heap.size w v ls) :
    Calls Try.prog 10 #[v] w (OkT w) := by
  obtain ⟨A, g, o, cc, rfl, hm, hF⟩ := hR
  have HF := Lib.hid hF
  have HN := Lib.hid (fun W => un_New W)
  have hmk := mk_z 8 (by decide) 8 rfl
  clear hF
  go_enter Try.func10, Try.ntmps10
  go_wp2_with (first
    | (go_at_call 21; (with_reducible refine useC (un_fact w) ?_); rintro e w1 ⟨rfl, hf⟩; have HF1 := Lib.hid hf; clear hf)
    | (go_at_call 22; (with_reducible refine useC (HN.out w1) ?_); rintro e w2 ⟨b, rfl, hs, hf⟩; obtain ⟨P1, HS2⟩ : ∃ P, Hid (UnS w w2 P b Un.new) := ⟨_, UnS.made HF1.out hs hf⟩; clear hs hf))
  have HS3 : Hid (UnWns w ((w2.alloc (.cells (mkz 8) 3)).alloc (.cells (mkz 8) 3)) b w2.heap.size (w2.heap.size + 1)) := by
    have hlt := HS2.out.fr.size
    have n1 := heap_alloc_new (w2.alloc (.cells (mkz 8) 3)) (.cells (mkz 8) 3)
    rw [World.size_alloc] at n1
    refine ⟨P1, Un.new, HS2.out.step (((Fr.refl [] w2).alloc _).alloc _), fun hp => by have := (HS2.out.hP _ hp).2; omega, hlt, ?_, fun hp => by have := (HS2.out.hP _ hp).2; omega, by omega, n1, by omega⟩
    exact ((Fr.refl [] (w2.alloc (.cells (mkz 8) 3))).alloc _).get (heap_alloc_new w2 _) (by simp)
  generalize hX : w2.heap.size = m at *
  generalize (w2.alloc (.cells (mkz 8) 3)).alloc (.cells (mkz 8) 3) = w3 at *
  generalize hN : m + 1 = n at *
  clear hmk hX hN HS2
  go_loopw [7] (fun i wr => ∃ k : Nat, k ≤ ls.length ∧ k ≤ 80 ∧ i = .int .i64 k ∧ Hid (UnWns w wr b m n)) (fun i _ => 80 - (intOf i).toNat)
  case atStart => exact ⟨0, Nat.zero_le _, Nat.zero_le _, rfl, HS3⟩
  case round =>
    clear HS3
    obtain ⟨k, hk, hk8, rfl, hS⟩ := hrel
    by_cases hin : k < ls.length ∧ k < 80
    · obtain ⟨hlt, h80⟩ := hin
      obtain ⟨P, d, hK⟩ := hS.out
      obtain ⟨rfl, hg⟩ := HF.out.1 (by omega)
      obtain ⟨u, kb, hcell, hkb, hsl, _⟩ := (HF.out.below (hK.s.fr.toBelow (Nat.le_refl _) (by simp))).2 k hlt
      obtain ⟨A', o', c', rfl, hm', hA', hc'⟩ := hsl.form
      have i0 : (0 : Int) ≤ k := by omega
      have i1 : (k : Int) < ls.length := by omega
      have i4 : (k : Int) < 80 := by omega
      have HK := Lib.hid hK
      have HO := Lib.hid hK.s.ok
      have HKD := Lib.hid (hK.step ((Fr.refl [] wr).drew))
      have hkw : nthR ls k ≠ [] → ¬ P kb := fun h0 hp => by
        have := (hK.s.hP kb hp).1
        rcases hkb with h | h
        · omega
        · exact h0 h
      clear hsl hK hS
      by_cases hl3 : (nthR ls k).length = 3
      · obtain rfl := hA' (by omega)
        have c0 := hc' 0 (by omega)
        have c1 := hc' 1 (by omega)
        have c2 := hc' 2 (by omega)
        rw [Nat.add_zero] at c0
        rw [hl3] at hcell
        have HKW := Lib.hid (hkw (fun e => by rw [e] at hl3; cases hl3))
        clear hc' hA' hl3 hkb hkw
        generalize nth (nthR ls k) 0 = x0 at *
        generalize nth (nthR ls k) 1 = x1 at *
        generalize nth (nthR ls k) 2 = x2 at *
        have HC := Lib.hid (un_Write wr.drew P b d x0 x1 x2 HKD.out.s.file)
        unfold UnWr at HC
        by_cases hw : Un.wrErr d x0 x1 x2 = 0
        · rw [hw, show errV 0 = .nilIface from rfl] at HC
          obtain ⟨-, hb, -, -, -⟩ := Un.wrErr_zero hw
          have e1 : decide (0 ≤ x1 ∧ x1 ≤ 7) = true := decide_eq_true hb
          obtain ⟨bn, rfl⟩ : ∃ bn : Nat, x1 = bn := ⟨x1.toNat, by omega⟩
          have hb8 : bn < 8 := by omega
          have hbI : (bn : Int) < 8 := by omega
          have HCW := Lib.hid (Un.crash_write d x0 bn x2)
          have hd' : Un.write d x0 bn x2 = Un.put d x0 bn x2 := by unfold Un.write; rw [if_pos hw, Int.toNat_natCast]
          have HBL := Lib.hid (show (Un.write d x0 bn x2).blk = d.blk.set bn x2 by rw [hd']; rfl)
          have HB8 := Lib.hid HO.out.blk
          have HC1 := Lib.hid (And.intro c1 c2)
          clear hw hd' hb
          go_wp2
          (refine wp_region_mixq 15 [(true, 0), (true, 1), (true, 2), (true, 3), (true, 4), (true, 5), (true, 6), (true, 7), (true, 8), (true, 9), (true, 10), (true, 11), (true, 12), (true, 13), (true, 14)] (by kernel_rfl) (by kernel_rfl) ?_; simp only [pickOps, List.map_cons, List.map_nil, List.getD_cons_zero, List.getD_cons_succ, List.drop_succ_cons, List.drop_zero]; (iterate 15 (first | (refine wpMix_take (v := ?_) (by rfl) ?_ ?_; rotate_left; (focus (intro W hW; subst hW; go_simp; (try with_reducible rfl); done)); try simp only [Act.put, List.setIfInBounds_toArray, List.set_cons_zero, List.set_cons_succ]) | (refine wpMix_leave (by rfl) ?_; try simp only [Act.put, List.setIfInBounds_toArray, List.set_cons_zero, List.set_cons_succ]))); refine wpMix_nil ?_)
          go_wp2_with (first
            | (go_at_call 24; (with_reducible refine useC HC.out ?_); rintro e w4 ha; obtain ⟨rfl, hfp, P', hs⟩ := HKD.out.turn ha; have H4 := Lib.hid hs; have m1 := hfp.cell HC1.out.1 HKW.out; have m2 := hfp.cell HC1.out.2 HKW.out; have cn := cell_ints hs.n3 (i := bn) (by rw [HB8.out]; exact hb8); have fn := free_block hs.n3 bn none; clear ha hs hfp)
            | (go_at_call 26; (with_reducible refine useC (in2_is bn _ _ true _ e1) ?_); rintro e w5 ⟨rfl, rfl⟩))
          generalize nth d.blk bn = y at *
          (refine wp_region_mixq 7 [(true, 0), (true, 1), (true, 2), (true, 3), (true, 4), (true, 5), (true, 6)] (by kernel_rfl) (by kernel_rfl) ?_; simp only [pickOps, List.map_cons, List.map_nil, List.getD_cons_zero, List.getD_cons_succ, List.drop_succ_cons, List.drop_zero]; (iterate 7 (first | (refine wpMix_take (v := ?_) (by rfl) ?_ ?_; rotate_left; (focus (intro W hW; subst hW; go_simp; (try with_reducible rfl); done)); try simp only [Act.put, List.setIfInBounds_toArray, List.set_cons_zero, List.set_cons_succ]) | (refine wpMix_leave (by rfl) ?_; try simp only [Act.put, List.setIfInBounds_toArray, List.set_cons_zero, List.set_cons_succ]))); refine wpMix_nil ?_)
          go_wp2
          have H5 : Hid (UnWn w ((w5.setCell ⟨n, bn, none⟩ (.int .i64 x2)).drew) P' b m n (Un.write d x0 bn x2) (Un.un Un.all (Un.write d x0 bn x2).was (Un.write d x0 bn x2).blk) (Un.write d x0 bn x2).blk) := by
            have h := (H4.out.putNow bn x2).step ((Fr.refl [] _).drew)
            rw [← HCW.out, ← HBL.out] at h
            exact h
          go_roundw
          case rel => exact ⟨k + 1, by omega, by omega, by go_num, _, _, H5.out⟩
          case measure => simp [intOf]; omega
        · have HE := Lib.hid (errV_no hw)
          have hS4 : Un.write d x0 x1 x2 = d := by unfold Un.write; rw [if_neg hw]
          rw [hS4, HE.out] at HC
          clear hw hS4
          go_wp2
          (refine wp_region_mixq 15 [(true, 0), (true, 1), (true, 2), (true, 3), (true, 4), (true, 5), (true, 6), (true, 7), (true, 8), (true, 9), (true, 10), (true, 11), (true, 12), (true, 13), (true, 14)] (by kernel_rfl) (by kernel_rfl) ?_; simp only [pickOps, List.map_cons, List.map_nil, List.getD_cons_zero, List.getD_cons_succ, List.drop_succ_cons, List.drop_zero]; (iterate 15 (first | (refine wpMix_take (v := ?_) (by rfl) ?_ ?_; rotate_left; (focus (intro W hW; subst hW; go_simp; (try with_reducible rfl); done)); try simp only [Act.put, List.setIfInBounds_toArray, List.set_cons_zero, List.set_cons_succ]) | (refine wpMix_leave (by rfl) ?_; try simp only [Act.put, List.setIfInBounds_toArray, List.set_cons_zero, List.set_cons_succ]))); refine wpMix_nil ?_)
          go_wp2_with (go_at_call 24; (with_reducible refine useC HC.out ?_); rintro e w4 ha; obtain ⟨rfl, -, P', hs⟩ := HKD.out.turn ha; have H4 := Lib.hid hs; clear ha hs)
          go_roundw
          case rel => exact ⟨k + 1, by omega, by omega, by go_num, _, _, H4.out⟩
          case measure => simp [intOf]; omega
      · have b3 : (((nthR ls k).length : Int) == 3) = false := beq_eq_false_iff_ne.2 (by omega)
        by_cases hl1 : (nthR ls k).length = 1
        · obtain rfl := hA' (by omega)
          have c0 := hc' 0 (by omega)
          rw [Nat.add_zero] at c0
          rw [hl1] at hcell
          have HKW := Lib.hid (hkw (fun e => by rw [e] at hl1; cases hl1))
          have hkb2 : kb < w.heap.size := by
            rcases hkb with h | h
            · exact h
            · rw [h] at hl1; cases hl1
          have HKB := Lib.hid hkb2
          clear hc' hA' hl3 hl1 hkb hkw hkb2
          generalize nth (nthR ls k) 0 = x0 at *
          have HWE := Lib.hid (Un.wantTo_end HO.out x0)
          have HWL := Lib.hid (fun j => Un.wantTo_len d x0 (Un.un Un.all d.was d.blk) j)
          have HW8 := Lib.hid (show (Un.un Un.all d.was d.blk).length = 8 by rw [Un.un_len]; exact HO.out.blk)
          generalize Un.un Un.all d.was d.blk = want at *
          have HCELL := Lib.hid (And.intro c0 HK.out.s.fr)
          obtain ⟨wA, hwA⟩ : ∃ wA, wA = wr := ⟨_, rfl⟩
          subst hwA
          go_wp2
          (refine wp_region_mixq 15 [(true, 0), (true, 1), (true, 2), (true, 3), (true, 4), (true, 5), (true, 6), (true, 7), (true, 8), (true, 9), (true, 10), (true, 11), (true, 12), (true, 13), (true, 14)] (by kernel_rfl) (by kernel_rfl) ?_; simp only [pickOps, List.map_cons, List.map_nil, List.getD_cons_zero, List.getD_cons_succ, List.drop_succ_cons, List.drop_zero]; (iterate 15 (first | (refine wpMix_take (v := ?_) (by rfl) ?_ ?_; rotate_left; (focus (intro W hW; subst hW; go_simp; (try with_reducible rfl); done)); try simp only [Act.put, List.setIfInBounds_toArray, List.set_cons_zero, List.set_cons_succ]) | (refine wpMix_leave (by rfl) ?_; try simp only [Act.put, List.setIfInBounds_toArray, List.set_cons_zero, List.set_cons_succ]))); refine wpMix_nil ?_)
          go_wp2
          go_loopw [9] (fun i wr => ∃ j : Nat, j ≤ 8 ∧ i = .int .i64 j ∧ Hid (UnWn w wr P b m n d (Un.wantTo d x0 want j) d.blk) ∧ Hid (wr.cell? ⟨kb, o', none⟩ = some (.int .i64 x0))) (fun i _ => 8 - (intOf i).toNat)
          case atStart => exact ⟨0, Nat.zero_le _, rfl, HKD, c0⟩
          case round =>
            clear HK HKD c0 hcell HCELL
            obtain ⟨j, hj, rfl, hW, hcc⟩ := hrel
            have c0 := hcc.out
            by_cases hlj : j < 8
            · have hjI : (j : Int) < 8 := by omega
              have HB := Lib.hid (un_Busy wr.drew P b d j (hW.out.step ((Fr.refl [] wr).drew)).s.file)
              rw [show Un.busyAt d j = nth d.busy j by unfold Un.busyAt; rw [if_pos (by omega), Int.toNat_natCast]] at HB
              have HST := Lib.hid (show Un.wantTo d x0 want (j + 1) = if nth d.busy j = x0 ∧ 0 ≤ x0 then (Un.wantTo d x0 want j).set j (nth d.blk j) else Un.wantTo d x0 want j from rfl)
              have HWD := Lib.hid (hW.out.step ((Fr.refl [] wr).drew))
              by_cases hy : nth d.busy j = x0
              · have hyb : (nth d.busy j == x0) = true := by simpa using hy
                by_cases h0 : 0 ≤ x0
                · have HS2 := Lib.hid (HST.out.trans (if_pos ⟨hy, h0⟩))
                  have cn := cell_ints hW.out.n3 (i := j) (by rw [HO.out.blk]; exact hlj)
                  have cm := cell_ints hW.out.m3 (i := j) (by rw [HWL.out, HW8.out]; exact hlj)
                  have fm := free_block hW.out.m3 j none
                  have HW5 := Lib.hid ((hW.out.putWant j (nth d.blk j)).step ((Fr.refl [] _).drew))
                  have HC5 : Hid ((wr.setCell ⟨m, j, none⟩ (.int .i64 (nth d.blk j))).drew.cell? ⟨kb, o', none⟩ = some (.int .i64 x0)) := ((UnB.one wr m j (.int .i64 (nth d.blk j))).drew).cell hcc.out (by simp; have := hW.out.m2; have := HKB.out; omega)
                  rw [← HS2.out] at HW5
                  clear hy HST hcc HS2
                  generalize nth d.busy j = y at *
                  generalize nth d.blk j = z at *
                  generalize nth (Un.wantTo d x0 want j) j = z2 at *
                  go_wp2
                  (refine wp_region_mix (· = wr.drew) 6 [(true, 0), (true, 1), (true, 3), (true, 4), (true, 5), (false, 2)] (by kernel_rfl) (by kernel_rfl) (rfl) ?_; simp only [pickOps, List.map_cons, List.map_nil, List.getD_cons_zero, List.getD_cons_succ, List.drop_succ_cons, List.drop_zero])
                  (iterate 5 (first | (refine wpMix_take (v := ?_) (by rfl) ?_ ?_; rotate_left; (focus (intro W hW; subst hW; go_simp; (try with_reducible rfl); done)); try simp only [Act.put, List.setIfInBounds_toArray, List.set_cons_zero, List.set_cons_succ]) | (refine wpMix_leave (by rfl) ?_; try simp only [Act.put, List.setIfInBounds_toArray, List.set_cons_zero, List.set_cons_succ])))
                  refine wpMix_walk ?_
                  go_wp2_with (go_at_call 38; (with_reducible refine useC HB.out ?_); rintro e w5 ⟨rfl, rfl⟩)
                  refine MixQ.mk (rfl) ?_
                  refine wpMix_nil ?_
                  go_wp2
                  go_roundw
                  case rel => exact ⟨j + 1, by omega, by go_num, HW5, HC5⟩
                  case measure => simp [intOf]; omega
                · have h0' : x0 < 0 := by omega
                  have HS2 := Lib.hid (HST.out.trans (if_neg (fun h => h0 h.2)))
                  rw [← HS2.out] at HWD
                  clear hy HST HS2
                  generalize nth d.busy j = y at *
                  go_wp2
                  (refine wp_region_mix (· = wr.drew) 6 [(true, 0), (true, 1), (true, 3), (true, 4), (true, 5), (false, 2)] (by kernel_rfl) (by kernel_rfl) (rfl) ?_; simp only [pickOps, List.map_cons, List.map_nil, List.getD_cons_zero, List.getD_cons_succ, List.drop_succ_cons, List.drop_zero])
                  (iterate 5 (first | (refine wpMix_take (v := ?_) (by rfl) ?_ ?_; rotate_left; (focus (intro W hW; subst hW; go_simp; (try with_reducible rfl); done)); try simp only [Act.put, List.setIfInBounds_toArray, List.set_cons_zero, List.set_cons_succ]) | (refine wpMix_leave (by rfl) ?_; try simp only [Act.put, List.setIfInBounds_toArray, List.set_cons_zero, List.set_cons_succ])))
                  refine wpMix_walk ?_
                  go_wp2_with (go_at_call 38; (with_reducible refine useC HB.out ?_); rintro e w5 ⟨rfl, rfl⟩)
                  refine MixQ.mk (rfl) ?_
                  refine wpMix_nil ?_
                  go_wp2
                  go_roundw
                  case rel => exact ⟨j + 1, by omega, by go_num, HWD, hcc⟩
                  case measure => simp [intOf]; omega
              · have hyb : (nth d.busy j == x0) = false := by simpa using hy
                have HS2 := Lib.hid (HST.out.trans (if_neg (fun h => hy h.1)))
                rw [← HS2.out] at HWD
                clear hy HST HS2
                generalize nth d.busy j = y at *
                go_wp2
                (refine wp_region_mix (· = wr.drew) 6 [(true, 0), (true, 1), (true, 3), (true, 4), (true, 5), (false, 2)] (by kernel_rfl) (by kernel_rfl) (rfl) ?_; simp only [pickOps, List.map_cons, List.map_nil, List.getD_cons_zero, List.getD_cons_succ, List.drop_succ_cons, List.drop_zero])
                (iterate 5 (first | (refine wpMix_take (v := ?_) (by rfl) ?_ ?_; rotate_left; (focus (intro W hW; subst hW; go_simp; (try with_reducible rfl); done)); try simp only [Act.put, List.setIfInBounds_toArray, List.set_cons_zero, List.set_cons_succ]) | (refine wpMix_leave (by rfl) ?_; try simp only [Act.put, List.setIfInBounds_toArray, List.set_cons_zero, List.set_cons_succ])))
                refine wpMix_walk ?_
                go_wp2_with (go_at_call 38; (with_reducible refine useC HB.out ?_); rintro e w5 ⟨rfl, rfl⟩)
                refine MixQ.mk (rfl) ?_
                refine wpMix_nil ?_
                go_wp2
                go_roundw
                case rel => exact ⟨j + 1, by omega, by go_num, HWD, hcc⟩
                case measure => simp [intOf]; omega
            · have hje : j = 8 := by omega
              have hjI : ¬ (j : Int) < 8 := by omega
              have HE : Hid (UnWn w wr P b m n d (Un.un Un.all (Un.end_ d x0).was (Un.end_ d x0).blk) d.blk) := by
                have h := hW.out
                rw [hje, HWE.out] at h
                exact h
              have HBL := Lib.hid (show (Un.end_ d x0).blk = d.blk by unfold Un.end_; split <;> rfl)
              have HC := Lib.hid (un_End wr P b d x0 HE.out.s.file)
              clear hje hlj hW hcc
              go_wp2_with (go_at_call 23; (with_reducible refine useC HC.out ?_); rintro e w6 ha; obtain ⟨rfl, -, P6, hs⟩ := HE.out.turn ha; rw [← HBL.out] at hs; have H6 := Lib.hid hs; clear ha hs)
              go_roundw
              case rel => exact ⟨k + 1, by omega, by omega, by go_num, _, _, H6.out⟩
              case measure => simp [intOf]; omega
        · have b1 : (((nthR ls k).length : Int) == 1) = false := beq_eq_false_iff_ne.2 (by omega)
          clear hc' hA' hl1 hl3 hkb hkw
          go_wp2
          (refine wp_region_mixq 15 [(true, 0), (true, 1), (true, 2), (true, 3), (true, 4), (true, 5), (true, 6), (true, 7), (true, 8), (true, 9), (true, 10), (true, 11), (true, 12), (true, 13), (true, 14)] (by kernel_rfl) (by kernel_rfl) ?_; simp only [pickOps, List.map_cons, List.map_nil, List.getD_cons_zero, List.getD_cons_succ, List.drop_succ_cons, List.drop_zero]; (iterate 15 (first | (refine wpMix_take (v := ?_) (by rfl) ?_ ?_; rotate_left; (focus (intro W hW; subst hW; go_simp; (try with_reducible rfl); done)); try simp only [Act.put, List.setIfInBounds_toArray, List.set_cons_zero, List.set_cons_succ]) | (refine wpMix_leave (by rfl) ?_; try simp only [Act.put, List.setIfInBounds_toArray, List.set_cons_zero, List.set_cons_succ]))); refine wpMix_nil ?_)
          go_wp2
          go_roundw
          case rel => exact ⟨k + 1, by omega, by omega, by go_num, _, _, HKD.out⟩
          case measure => simp [intOf]; omega
    · have hout : ¬ (k : Int) < ls.length ∨ ((k : Int) < ls.length ∧ ¬ (k : Int) < 80) := by omega
      obtain ⟨P, d, hK⟩ := hS.out
      have HK := Lib.hid hK
      have HO := Lib.hid hK.s.ok
      have HCR := Lib.hid (un_Crash wr P b d hK.s.file)
      have HW8 := Lib.hid (show (Un.un Un.all d.was d.blk).length = 8 by rw [Un.un_len]; exact HO.out.blk)
      have HEQ := Lib.hid (show (Un.crash d).blk = Un.un Un.all d.was d.blk from rfl)
      have HBU := Lib.hid (show (Un.crash d).busy = List.replicate 8 (-1) from rfl)
      have HC0 := Lib.hid (show Un.cnt (Un.crash d).was = 0 from rfl)
      clear hS hK HF
      generalize Un.crash d = d2 at *
      generalize Un.un Un.all d.was d.blk = want at *
      rcases hout with hout | ⟨hout, hout'⟩
      all_goals
        go_wp2_with (go_at_call 39; (with_reducible refine useC HCR.out ?_); rintro e w4 ha; obtain ⟨rfl, -, P', hs⟩ := HK.out.turn ha; have H4 := Lib.hid hs; clear ha hs)
        go_loop [10] (fun i => ∃ k : Nat, k ≤ 8 ∧ i = .int .i64 k) (fun i => 8 - (intOf i).toNat)
        case atStart => exact ⟨0, Nat.zero_le _, rfl⟩
        case round =>
          obtain ⟨j, hj, rfl⟩ := hrel
          by_cases hlt : j < 8
          · have hjI : (j : Int) < 8 := by omega
            have HB := Lib.hid (un_Busy w4 P' b d2 j H4.out.s.file)
            rw [show Un.busyAt d2 j = -1 by unfold Un.busyAt; rw [if_pos (by omega), HBU.out, Int.toNat_natCast, Un.nth_rep 8 j _ hlt]] at HB
            go_wp2_with (go_at_call 38; (with_reducible refine useC HB.out ?_); rintro e w5 ⟨rfl, rfl⟩)
            go_round
            case rel => exact ⟨j + 1, by omega, by go_num⟩
            case measure => simp [intOf]; omega
          · have hjI : ¬ (j : Int) < 8 := by omega
            have HV := Lib.hid (un_Values w4 P' b d2 H4.out.s.file)
            rw [HEQ.out] at HV
            go_wp2_with (first
              | (go_at_call 27; (with_reducible refine useC HV.out ?_); rintro e w5 hn; obtain ⟨v5, rfl, hr, hf⟩ := RowO.ofU H4.out.s hn; have H5 := Lib.hid (H4.out.step hf); obtain ⟨g5, -, hs5⟩ := hr; have hw5 := sl_new want H5.out.m3 (by rw [HW8.out]; decide); rw [HW8.out] at hw5; have HI := Lib.hid (ints_same w5 _ _ _ _ _ hs5 hw5); clear hn hs5 hf hw5)
              | (go_at_call 16; (with_reducible refine useC HI.out ?_); rintro e w6 ⟨rfl, hf⟩; have H6 := Lib.hid (H5.out.step (hf.fr [])); have HC6 := Lib.hid (un_Crash w6 P' b d2 H6.out.s.file); rw [HC0.out] at HC6; clear hf)
              | (go_at_call 39; (with_reducible refine useC HC6.out ?_); rintro e w7 ha; obtain ⟨rfl, -, P7, hs⟩ := H6.out.turn ha; have H7 := Lib.hid hs; clear ha hs))
            go_ret
            exact ⟨rfl, H7.out.s.fr⟩
end Go.Proofs.Ytmhmbgkpojgbbaa
