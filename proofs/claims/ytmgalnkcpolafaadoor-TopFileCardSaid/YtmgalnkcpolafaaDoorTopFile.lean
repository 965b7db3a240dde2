/- TopFile: a file with holes has ways to all its blocks. -/
import Derived.Test.YtmgalnkcpolafaaDoorTfPlace
import Derived.Test.YtmgalnkcpolafaaDoorSpFacts
import Derived.Test.YtmgalnkcpolafaaDoorSpWrite
import Derived.Test.YtmgalnkcpolafaaDoorFdLaw
import Derived.Test.YtmgalnkcpolafaaDoorErr2
namespace Go.Proofs.YtmgalnkcpolafaaDoor
open Go.RowKit

theorem tf_w1 : Sp.wrong 4 [9] = 0 := by decide
theorem tf_s1 : (Sp.wr Sp.new 4 [9]).size = 5 := by decide
theorem error_same' (c : Int) (w : World) (hg : ErrType w) : Calls Tryd.prog 12 #[.iface 69 (.int .i64 c), .int .i64 c] w (OkT w) :=
  (error_at c c w hg).mono fun _ _ ⟨h1, h2⟩ => ⟨by rw [h1]; simp, h2⟩
/-- A table with one file of size s, in block o; then its place at the end. -/
def tfT0 (s o : Nat) : Fd.T := ⟨Fd.new.sl.set 0 (some o), Fd.upd Fd.new.f o ((s : Int), 0)⟩
def tfT1 (s o : Nat) : Fd.T := ⟨Fd.new.sl.set 0 (some o), Fd.upd (tfT0 s o).f o ((s : Int), (s : Int))⟩
theorem tf_open (s : Nat) (hs : s ≤ 64) (o : Nat) : Fd.opn Fd.new (s : Int) o = (tfT0 s o, 0, 0) := by
  unfold Fd.opn
  rw [if_pos (by omega)]
  rfl
theorem tf_ok0 (s : Nat) (hs : s ≤ 64) (o : Nat) : Fd.OK (tfT0 s o) := by
  have h := Fd.opn_ok Fd.new_ok (s : Int) (o := o) (fun i => by
    have : Fd.nthO Fd.new.sl i = none := by
      unfold Fd.nthO Fd.new
      simp only [List.getD_eq_getElem?_getD, List.getElem?_replicate]
      split <;> rfl
    rw [this]; exact fun e => by cases e)
  rw [tf_open s hs] at h
  exact h
theorem tf_move1 (s o : Nat) : Fd.move (tfT0 s o) 0 (s : Int) = (tfT1 s o, (s : Int), 0) := by
  have e0 : (tfT0 s o).f o = ((s : Int), 0) := by simp [tfT0, Fd.upd]
  rw [Fd.move_of (t := tfT0 s o) (o := o) (by decide) rfl (by rw [e0]; simp)]
  rw [e0]
  simp [tfT1, tfT0]
theorem tf_ok1 (s : Nat) (hs : s ≤ 64) (o : Nat) : Fd.OK (tfT1 s o) := by
  have h := Fd.move_ok (tf_ok0 s hs o) 0 (s : Int)
  rw [tf_move1] at h
  exact h
theorem tf_move2 (s o : Nat) : Fd.move (tfT1 s o) 0 1 = (tfT1 s o, 0, 1) := by
  have hw := Fd.wrong_of (t := tfT1 s o) (fd := 0) (o := o) (by decide) rfl
  have e0 : (tfT1 s o).f o = ((s : Int), (s : Int)) := by simp [tfT1, Fd.upd]
  unfold Fd.move
  rw [if_pos hw.1]
  simp only [hw.2, e0]
  rw [if_neg (by omega)]
set_option maxRecDepth 100000 in
set_option maxHeartbeats 8000000 in
theorem tf_any (w : World) (x1 : Int) (vl : Value) (gl : Nat) (l : List Int) (hl : Sl w vl gl l) (hg : gl < w.heap.size ∨ l = []) (hE : ErrType w) :
    Calls Tryd.prog 6 #[.int .i64 x1, vl] w (OkT w) := by
  have HLS := Lib.hid (fun W (hW : Fr [] w W) => hl.fr hW (by simp))
  have HG := Lib.hid hg
  have HE := Lib.hid (fun W (hW : Fr [] w W) => hE.fr hW (by simp))
  obtain ⟨Al, ol, cl, rfl, -, -, -⟩ := hl.form
  have a1 := Lib.hid tf_w1
  have a3 := Lib.hid tf_s1
  have HOA := Lib.hid (Sp.wr_ok Sp.new_ok (a := 4) (l := [9]) (by decide))
  clear hl hg hE
  generalize hf : Sp.wr Sp.new 4 [9] = fA at *
  have Hf := Lib.hid hf
  clear hf
  go_enter Tryd.func6, Tryd.ntmps6
  go_wp2_with (go_at_call 23; (with_reducible refine useC (sp_new w) ?_); rintro e w0 ⟨rfl, hs, hf⟩; have HS0 := Lib.hid hs; have HF0 := Lib.hid hf; clear hs hf)
  generalize w.heap.size + 1 = b at *
  have HWR : Hid (Calls Tryd.prog 28 #[.pointer (some ⟨b, 0, none⟩), .int .i64 4, .slice (some ⟨w0.heap.size, 0, none⟩) 1 1] (w0.alloc (.cells #[.int .i64 9] 3)) (SpWr (fun k => w.heap.size ≤ k ∧ k < w0.heap.size) b 64 fA 0 (w0.alloc (.cells #[.int .i64 9] 3)))) := by
    have h := sp_Write _ _ b 0 Sp.new 4 _ w0.heap.size [9] (HS0.out.tight.keep ((Fr.refl [] w0).alloc (.cells #[.int .i64 9] 3))) Sp.new_ok (sl_lit1 w0 9) (.inr (by omega)) (by decide)
    rw [a1.out] at h
    have e1 : Sp.write Sp.new 4 [9] = fA := by unfold Sp.write; rw [if_pos a1.out]; exact Hf.out
    rw [e1] at h
    exact h
  go_wp2_with (first
    | (go_at_call 28; (with_reducible refine useC HWR.out ?_); rintro e w1 ⟨rfl, hs, hb⟩; rw [errV_zero]; have HS1 := Lib.hid hs; have HF1 := Lib.hid (hb.fr (HF0.out.alloc (.cells #[.int .i64 9] 3)) (fun _ h => h.1)); clear hs hb)
    | (go_at_call 30; (with_reducible refine useC (sp_Size w1 _ _ _ fA HS1.out) ?_); rw [a3.out]; rintro e w1 ⟨rfl, rfl⟩)
    | (go_at_call 23; (with_reducible refine useC (sp_new w1) ?_); rintro e w2 ⟨rfl, hs, hf⟩; have HS2 := Lib.hid hs; have HF2 := Lib.hid (HF1.out.trans hf); have hz2 := hf.size; clear hs hf))
  have hz1 := HF1.out.size
  generalize w1.heap.size + 1 = b2 at *
  have HWR2 := Lib.hid (sp_Write w2 _ b2 0 Sp.new x1 _ gl l HS2.out Sp.new_ok (HLS.out _ HF2.out) (HG.out.elim (fun h => .inr (by omega)) .inl) (by decide))
  clear HWR HS0 HF0 HS1
  by_cases hw : Sp.wrong x1 l = 0
  · obtain ⟨_, _, hx0, hxl⟩ := Sp.wrong_zero hw
    obtain ⟨a, rfl⟩ : ∃ a : Nat, x1 = a := ⟨x1.toNat, by omega⟩
    have HWE : Hid (Sp.write Sp.new a l = Sp.wr Sp.new a l) := by show _ = _; unfold Sp.write; rw [if_pos hw, Int.toNat_natCast]
    have HEZ := Lib.hid (show errV (Sp.wrong a l) = .nilIface from by rw [hw]; rfl)
    have HO := Lib.hid (Sp.wr_ok Sp.new_ok (a := a) (l := l) (by omega))
    rw [HWE.out] at HWR2
    clear hw hx0 hxl HWE HOA
    generalize Sp.wr Sp.new a l = f at *
    have hs64 := HO.out.size
    go_wp2_with (first
      | (go_at_call 28; (with_reducible refine useC HWR2.out ?_); rintro e w3 ⟨rfl, hs, hb⟩; rw [HEZ.out]; have HS3 := Lib.hid hs; have HF3 := Lib.hid (hb.fr HF2.out (fun _ h => by omega)); clear hs hb)
      | (go_at_call 32; (with_reducible refine useC (sp_Blocks w3 _ _ _ f HS3.out) ?_); rintro e w4 ⟨vb, rfl, hob, hf⟩; obtain ⟨gb, hgb, hsb⟩ := hob.sl; obtain ⟨Ab, ob, cb, rfl, -, hAb, hcb⟩ := hsb.form; have HAB := Lib.hid hAb; have HCB := Lib.hid hcb; have HS4 := Lib.hid (HS3.out.keep hf); have HF4 := Lib.hid (HF3.out.trans hf); have hbl := Sp.blocks_len f.blk 16; clear hf hgb hsb hAb hcb hob))
    have HBA := Lib.hid (fun k hk => Sp.block_at HO.out (k := k) hk)
    go_loopw [7] (fun i wr => ∃ k : Nat, k ≤ (Sp.blocks f.blk 16).length ∧ i = .int .i64 k ∧ Hid (Fr [] w4 wr)) (fun i _ => (Sp.blocks f.blk 16).length - (intOf i).toNat)
    case atStart => exact ⟨0, Nat.zero_le _, rfl, Fr.refl _ _⟩
    case round =>
      obtain ⟨k, hk, rfl, hF⟩ := hrel
      by_cases hlt : k < (Sp.blocks f.blk 16).length
      · obtain rfl := HAB.out (by omega)
        have HCK := Lib.hid (fun W (hW : Fr [] w4 W) => hW.cell (HCB.out k hlt) (by simp))
        obtain ⟨i, hi, hi16, _⟩ := HBA.out k hlt
        rw [hi] at HCK
        have hck := HCK.out wr hF.out
        have k1 : (k : Int) < (Sp.blocks f.blk 16).length := by omega
        have k0 : (0 : Int) ≤ (k : Int) := by omega
        clear hi
        rcases (show i < 4 ∨ (4 ≤ i ∧ i < 8) ∨ 8 ≤ i by omega) with h4 | ⟨h4, h8⟩ | h8
        · go_wp2_with (first
            | (go_at_call 33; (with_reducible refine useC (tf_Of1 wr (i : Int) (by omega) (by omega)) ?_); rintro e w5 ⟨rfl, rfl⟩; have HBX := Lib.hid (heap_alloc_new wr (.cells #[.int .i64 (i : Int)] 3)))
            | (go_at_call 34; (with_reducible refine useC (tf_Block1 _ _ (i : Int) HBX.out (by omega) (by omega)) ?_); rintro e w6 ⟨rfl, hf⟩; have HF6 := Lib.hid ((hF.out.alloc _).trans hf); have hck := HCK.out w6 HF6.out; clear hf))
          go_roundw
          case rel => exact ⟨k + 1, by omega, by go_num, HF6⟩
          case measure => simp [intOf]; omega
        · obtain ⟨q, hq, hq'⟩ : ∃ q : Nat, i ≤ 4 + q ∧ 4 + q ≤ i := ⟨i - 4, by omega, by omega⟩
          go_wp2_with (first
            | (go_at_call 33; (with_reducible refine useC (tf_Of2 wr (i : Int) (q : Int) (by omega) (by omega) (by omega)) ?_); rintro e w5 ⟨rfl, rfl⟩; have HBX := Lib.hid (heap_alloc_new wr (.cells #[.int .i64 4, .int .i64 (q : Int)] 3)))
            | (go_at_call 34; (with_reducible refine useC (tf_Block2 _ _ (q : Int) HBX.out (by omega) (by omega) (i : Int) (by omega)) ?_); rintro e w6 ⟨rfl, hf⟩; have HF6 := Lib.hid ((hF.out.alloc _).trans hf); have hck := HCK.out w6 HF6.out; clear hf))
          go_roundw
          case rel => exact ⟨k + 1, by omega, by go_num, HF6⟩
          case measure => simp [intOf]; omega
        · obtain ⟨j, hj, hj'⟩ : ∃ j : Nat, i ≤ 4 + j ∧ 4 + j ≤ i := ⟨i - 4, by omega, by omega⟩
          obtain ⟨m, hm, hm'⟩ : ∃ m : Nat, j ≤ 4 + m ∧ 4 + m ≤ j := ⟨j - 4, by omega, by omega⟩
          obtain ⟨q, r, hq, hq', hr4⟩ : ∃ q r : Nat, m ≤ 4 * q + r ∧ 4 * q + r ≤ m ∧ r < 4 := ⟨m / 4, m % 4, by omega, by omega, by omega⟩
          go_wp2_with (first
            | (go_at_call 33; (with_reducible refine useC (tf_Of3 wr (i : Int) (j : Int) (m : Int) (q : Int) (r : Int) (by omega) (by omega) (by omega) (by omega) (by omega) (by omega)) ?_); rintro e w5 ⟨rfl, rfl⟩; have HBX := Lib.hid (heap_alloc_new wr (.cells #[.int .i64 5, .int .i64 (q : Int), .int .i64 (r : Int)] 3)))
            | (go_at_call 34; (with_reducible refine useC (tf_Block3 _ _ (q : Int) (r : Int) HBX.out (by omega) (by omega) (by omega) (by omega) (i : Int) (by omega)) ?_); rintro e w6 ⟨rfl, hf⟩; have HF6 := Lib.hid ((hF.out.alloc _).trans hf); have hck := HCK.out w6 HF6.out; clear hf))
          go_roundw
          case rel => exact ⟨k + 1, by omega, by go_num, HF6⟩
          case measure => simp [intOf]; omega
      · have k1 : ¬ (k : Int) < (Sp.blocks f.blk 16).length := by omega
        have HFF := Lib.hid (HF4.out.trans hF.out)
        have HSF := Lib.hid (HS4.out.keep hF.out)
        obtain ⟨wA, hwA⟩ : ∃ x, x = wr := ⟨_, rfl⟩
        subst hwA
        have HOP := Lib.hid (tf_open f.size hs64)
        have HOK := Lib.hid (tf_ok0 f.size hs64)
        have HM1 := Lib.hid (tf_move1 f.size)
        have HOK2 := Lib.hid (tf_ok1 f.size hs64)
        have HM2 := Lib.hid (tf_move2 f.size)
        clear HAB HCB HBA
        go_wp2_with (first
          | (go_at_call 14; (with_reducible refine useC (fd_new wA wA.heap.size (Nat.le_refl _)) ?_); rintro e w5 ⟨rfl, hT, hf⟩; have HT5 := Lib.hid hT; have HB5 := Lib.hid hf.below; have hs5 := hf.size; have HS5 := Lib.hid (HSF.out.keep hf); clear hT hf)
          | (go_at_call 30; (with_reducible refine useC (sp_Size w5 _ _ _ f HS5.out) ?_); rintro e w5 ⟨rfl, rfl⟩)
          | (go_at_call 10; (with_reducible refine useC (fd_open w5 wA.heap.size _ _ f.size HT5.out hs5) ?_); rintro e w6 h6; obtain ⟨rfl, hT, hb, hz⟩ := h6.ok (HOP.out w5.heap.size); have HT6 := Lib.hid hT; have HB6 := Lib.hid (HB5.out.trans hb); have hs6 := Nat.le_trans hs5 hz; have HS6 := Lib.hid (HSF.out.keep (Fr.of_below HB6.out)); clear hT hb hz h6)
          | (go_at_call 30; (with_reducible refine useC (sp_Size w6 _ _ _ f HS6.out) ?_); rintro e w6 ⟨rfl, rfl⟩)
          | (go_at_call 22; (with_reducible refine useC (fd_move w6 wA.heap.size _ _ 0 f.size HT6.out (HOK.out _)) ?_); rintro e w7 h7; obtain ⟨rfl, hT, hb, hz⟩ := h7.ok (HM1.out w5.heap.size); have HT7 := Lib.hid hT; have HB7 := Lib.hid (HB6.out.trans hb); clear hT hb hz h7)
          | (go_at_call 22; (with_reducible refine useC (fd_move w7 wA.heap.size _ _ 0 1 HT7.out (HOK2.out _)) ?_); rintro e w8 h8; obtain ⟨rfl, hT, hb, hz⟩ := h8.no (HM2.out w5.heap.size) (by decide); have HB8 := Lib.hid (HB7.out.trans hb); have HS8 := Lib.hid (HSF.out.keep (Fr.of_below HB8.out)); have HF8 := Lib.hid (HFF.out.trans (Fr.of_below HB8.out)); have HE8 := Lib.hid (HE.out w8 HF8.out); clear hT hb hz h8)
          | (go_at_call 30; (with_reducible refine useC (sp_Size w8 _ _ _ f HS8.out) ?_); rintro e w8 ⟨rfl, rfl⟩)
          | (go_at_call 12; (with_reducible refine useC (error_same' 1 w8 HE8.out) ?_); rintro e w9 ⟨rfl, hf⟩; have HF9 := Lib.hid (HF8.out.trans hf); clear hf))
        go_ret
        exact ⟨rfl, HF9.out⟩
  · have HEZ := Lib.hid (errV_no hw)
    have HWE : Hid (Sp.write Sp.new x1 l = Sp.new) := by show _ = _; unfold Sp.write; rw [if_neg hw]
    have HNZ : Hid ((Sp.new.size : Nat) = 0) := rfl
    rw [HWE.out] at HWR2
    clear hw
    go_wp2_with (first
      | (go_at_call 28; (with_reducible refine useC HWR2.out ?_); rintro e w3 ⟨rfl, hs, hb⟩; rw [HEZ.out]; have HS3 := Lib.hid hs; have HF3 := Lib.hid (hb.fr HF2.out (fun _ h => by omega)); clear hs hb)
      | (go_at_call 30; (with_reducible refine useC (sp_Size w3 _ _ _ Sp.new HS3.out) ?_); rw [HNZ.out]; rintro e w3 ⟨rfl, rfl⟩))
    go_ret
    exact ⟨rfl, HF3.out⟩
end Go.Proofs.YtmgalnkcpolafaaDoor
