/- The contract of package sparse's Cut: a range over the map of blocks, in an order that is not known. -/
import Derived.Test.YtmgalnkcpolafaaDoorSpWalk
namespace Go.Proofs.YtmgalnkcpolafaaDoor
open Go.RowKit

/-- Which blocks are still to come. -/
def natL (left : Int → Bool) (i : Nat) : Bool := left i
theorem natL_step {left : Int → Bool} {i : Nat} (z : Nat) : natL (fun z : Int => left z && !(z == (i : Int))) z = (natL left z && !(z == i)) := by
  have e2 : ((z : Int) == (i : Int)) = (z == i) := by
    rw [Bool.eq_iff_iff, beq_iff_eq, beq_iff_eq]
    omega
  show (left z && !((z : Int) == (i : Int))) = (left z && !(z == i))
  rw [e2]
theorem twice_step {left : Int → Bool} (x : Int) : (fun z => (fun z => left z && !(z == x)) z && !(z == x)) = fun z => left z && !(z == x) := by
  funext z
  show (left z && !(z == x) && !(z == x)) = (left z && !(z == x))
  cases left z <;> cases (z == x) <;> rfl
section
variable {P : Nat → Prop} {w w' : World} {b mb : Nat} {s : Int} {byt byt' blk : List Int} {o : Nat → Nat}
theorem SpB.congr (h : SpB P w b mb s byt blk o) (hb : ∀ i, i < 16 → nth blk i = 1 → Sp.cutOut byt' (4 * i) 4 = Sp.cutOut byt (4 * i) 4) : SpB P w b mb s byt' blk o :=
  ⟨h.gb, h.gm, h.ne, h.mlt, h.file, fun i hi h1 => by
    obtain ⟨q1, q2, q3, q4⟩ := h.arr i hi h1
    exact ⟨q1, q2, q3, by rw [hb i hi h1]; exact q4⟩, h.inj⟩
end
/-- What the rounds of Cut know: r the iterator's block. -/
structure SpC (P : Nat → Prop) (w wr : World) (b mb r n : Nat) (s : Int) (byt blk : List Int) (o : Nat → Nat) (left : Int → Bool) (cnt : Nat) : Prop where
  parts : SpB P wr b mb s byt blk o
  rng : PRange Tryd.prog 3 wr mb r n (spM blk o) left cnt
  fr : FrP P w wr
  hb : b < r
  hm : mb < r
  ho : ∀ i, i < 16 → nth blk i = 1 → o i < r
  hr : w.heap.size ≤ r
section
variable {P : Nat → Prop} {w wr w' : World} {b mb r n cnt cnt' : Nat} {s : Int} {byt blk : List Int} {o : Nat → Nat} {left left' : Int → Bool}
theorem SpC.next (h : SpC P w wr b mb r n s byt blk o left cnt) (hr : PRange Tryd.prog 3 w' mb r n (spM blk o) left' cnt') (hf : Fr [r] wr w') : SpC P w w' b mb r n s byt blk o left' cnt' :=
  ⟨h.parts.fr hf (by have := h.hb; simp; omega) (fun i hi h1 => by have := h.ho i hi h1; simp; omega), hr, h.fr.step hf (by simp only [List.mem_singleton]; rintro y rfl; exact .inr h.hr), h.hb, h.hm, h.ho, h.hr⟩
theorem SpC.put (h : SpC P w wr b mb r n s byt blk o left cnt) (hl : byt.length = 64) {i j : Nat} (hi : i < 16) (hj : j < 4) (h1 : nth blk i = 1) (x : Int) : SpC P w (wr.setCell ⟨o i, j, none⟩ (.int .i64 x)) b mb r n s (byt.set (4 * i + j) x) blk o left cnt := by
  have hf : Fr [o i] wr (wr.setCell ⟨o i, j, none⟩ (.int .i64 x)) := (Fr.refl _ wr).setCell (.inl (by simp)) _
  have ha := h.parts.arr i hi h1
  have := h.ho i hi h1
  exact ⟨h.parts.put hl hi hj h1 x, h.rng.fr hf (by simp only [List.mem_singleton]; exact fun e => ha.2.2.1 e.symm) (by simp only [List.mem_singleton]; omega), h.fr.step hf (by simp only [List.mem_singleton]; rintro y rfl; exact .inl ha.1), h.hb, h.hm, h.ho, h.hr⟩
theorem SpC.del (h : SpC P w wr b mb r n s byt blk o left cnt) (hk : blk.length = 16) {i : Nat} (hi : i < 16) (hr : PRange Tryd.prog 3 w' mb r n (fun z : Int => if z = (i : Int) then none else spM blk o z) left' cnt') (hf : Fr [mb] wr w') :
    SpC P w w' b mb r n s byt (blk.set i 0) o left' cnt' := by
  have h1 := h.parts.fr hf (by have := h.parts.ne; simp only [List.mem_singleton]; omega) (fun i hi h1 => by have := (h.parts.arr i hi h1).2.2.1; simp only [List.mem_singleton]; omega)
  refine ⟨h1.del hk hi, by rw [← spM_del blk hk hi]; exact hr, h.fr.step hf (by simp only [List.mem_singleton]; rintro y rfl; exact .inl h.parts.gm), h.hb, h.hm, fun j hj hj1 => ?_, h.hr⟩
  rw [Sp.nth_set _ _ _ _ (by omega)] at hj1
  split at hj1
  · cases hj1
  · exact h.ho j hj hj1
end
/-- What Cut leaves. -/
def SpCt (P : Nat → Prop) (b N : Nat) (f : Sp.F) (c : Int) (w : World) (e : Ending) (w' : World) : Prop := e = .returned (errV c) ∧ SpF P w' b N f ∧ FrP P w w'
def Sp.cutErr (s : Int) : Int := if 0 ≤ s ∧ s ≤ 64 then 0 else 1
theorem sp_Cut_no (w : World) (P : Nat → Prop) (b N : Nat) (f : Sp.F) (s : Int) (h : SpF P w b N f) (hs : ¬ (0 ≤ s ∧ s ≤ 64)) :
    Calls Tryd.prog 26 #[.pointer (some ⟨b, 0, none⟩), .int .i64 s] w (SpCt P b N f 1 w) := by
  have HH := Lib.hid h
  have e1 : decide (0 ≤ s ∧ s ≤ 64) = false := decide_eq_false hs
  clear h hs
  go_enter Tryd.func26, Tryd.ntmps26
  go_wp2_with (go_at_call 36; (with_reducible refine useC (within_is s _ _ false _ e1) ?_); rintro e w ⟨rfl, rfl⟩)
  go_ret
  exact ⟨rfl, HH.out, FrP.refl _ _⟩
set_option maxRecDepth 100000 in
set_option maxHeartbeats 4000000 in
theorem sp_Cut_ok (w : World) (P : Nat → Prop) (b N : Nat) (f : Sp.F) (s : Nat) (h : SpF P w b N f) (hO : Sp.OK f) (hs : s ≤ 64) :
    Calls Tryd.prog 26 #[.pointer (some ⟨b, 0, none⟩), .int .i64 s] w (SpCt P b N (Sp.ct f s) 0 w) := by
  obtain ⟨mb, n, o, hn, h1, h2⟩ := h
  have e1 : decide ((0 : Int) ≤ s ∧ (s : Int) ≤ 64) = true := decide_eq_true (by omega)
  obtain ⟨c0, c1⟩ := file_cells h1.file
  have H1 := Lib.hid h1
  have H2 := Lib.hid h2
  have HO := Lib.hid hO
  clear h1 h2 hO
  go_enter Tryd.func26, Tryd.ntmps26
  go_wp2_with (first
    | (go_at_call 36; (with_reducible refine useC (within_is s _ _ true _ e1) ?_); rintro e w ⟨rfl, rfl⟩)
    | (at_range; refine wpList_range_ptr rfl _ rfl H2.out Tryd.underlying3 Tryd.underlying75 rfl ?_; intro w1 left0 cnt0 hr0 hl0 hf0 hs0; have HR0 := Lib.hid hr0; have HL0 := Lib.hid hl0; have HF0 := Lib.hid hf0; clear hr0 hl0 hf0))
  go_frame
  have HS0 : Hid (SpC P w w1 b mb w.heap.size n f.size (Sp.pcB f.byt s (natL left0)) (Sp.pcK f.blk s (natL left0)) o left0 cnt0) := by
    obtain ⟨p1, p2⟩ := Sp.pc_start HO.out s (L := natL left0) (fun i hi h1 h2 => by
      have := HL0.out (i : Int) h1
      rw [spM_yes o hi h2] at this
      cases this)
    have hb := lt_of_heap H1.out.file
    show SpC _ _ _ _ _ _ _ _ _ _ _ _ _
    rw [p1, p2]
    exact ⟨H1.out.keep HF0.out, HR0.out, (FrP.refl P w).step HF0.out (by simp), hb, H1.out.mlt, fun i hi h1 => H1.out.lt hi h1, Nat.le_refl _⟩
  have hsz1 := HF0.out.size
  revert HS0
  generalize hrr : w.heap.size = r at *
  intro HS0
  clear hrr
  clear HR0 HL0 H1 H2 c0 c1
  go_loopw [5] (fun _ wr => ∃ left cnt, Hid (SpC P w wr b mb r n f.size (Sp.pcB f.byt s (natL left)) (Sp.pcK f.blk s (natL left)) o left cnt)) (fun _ wr => wr.rangeLeft mb r)
  case atStart => exact ⟨_, _, HS0⟩
  case round =>
    clear HS0
    obtain ⟨left, cnt, hS⟩ := hrel
    obtain ⟨c0, c1⟩ := file_cells hS.out.parts.file
    have HM0 := Lib.hid hS.out.rng.left_eq
    go_wp2_with (at_next; refine wpList_next_ptr rfl _ rfl Tryd.underlying3 rfl hS.out.rng ?_ ?_)
    · intro hl0
      obtain ⟨p1, p2⟩ := Sp.pc_end f s (L := natL left) (fun i => hl0 i)
      have HE : Hid (SpF P (wr.setCell ⟨b, 0, none⟩ (.int .i64 s)) b N (Sp.ct f s) ∧ FrP P w (wr.setCell ⟨b, 0, none⟩ (.int .i64 s))) := by
        have h := hS.out
        rw [p1, p2] at h
        have hf : Fr [b] wr (wr.setCell ⟨b, 0, none⟩ (.int .i64 s)) := (Fr.refl _ wr).setCell (.inl (by simp)) _
        exact ⟨⟨mb, n, o, hn, h.parts.size s, h.rng.map.fr hf (by have := h.parts.ne; simp only [List.mem_singleton]; omega)⟩, h.fr.step hf (by simp only [List.mem_singleton]; rintro y rfl; exact .inl h.parts.gb)⟩
      have hfree := free_block hS.out.parts.file 0 none
      clear hl0 p1 p2
      go_wp2
      go_ret
      exact ⟨rfl, HE.out.1, HE.out.2⟩
    · intro x q w2 cnt2 hx hlx hmx hr2 hlt2 hf2 hsz2 hen
      obtain ⟨i, rfl, hi, hki, rfl⟩ := spM_some hmx
      have HX := Lib.hid hx
      have hS2 := hS.out.next hr2 hf2
      have HL1 := Lib.hid (show natL left i = true from hlx)
      have HLS := Lib.hid (fun z => natL_step (left := left) (i := i) z)
      clear hx hlx hmx hr2 hf2 c0 c1
      obtain ⟨c0, c1⟩ := file_cells hS2.parts.file
      have HS2 := Lib.hid hS2
      have HKI := Lib.hid hki
      clear hS2 hki
      have HLT := Lib.hid hlt2
      clear hlt2
      by_cases hs4 : (s : Int) ≤ (i : Int) * 4
      · have hs4' : s ≤ 4 * i := by omega
        have HP1 := Lib.hid (Sp.pcK_drop f.blk s i hi hs4' HLS.out)
        have HP2 := Lib.hid (fun q hq hqi => Sp.pcB_other f.byt s i q hq hqi HLS.out)
        clear hs4'
        go_wp2_with (at_delete; refine wpList_delete_ptr rfl _ _ rfl Tryd.underlying3 Tryd.underlying75 rfl HS2.out.rng _ rfl HX.out ?_; intro w3 cnt3 hr3 hle3 hf3; have HS3 := Lib.hid (HS2.out.del (Sp.pcK_len _ _ _) hi hr3 hf3); have HLE := Lib.hid hle3; clear hr3 hf3 hle3; go_frame)
        go_roundw
        case rel =>
          refine ⟨(fun z => left z && !(z == (i : Int))), cnt3, ?_⟩
          show SpC _ _ _ _ _ _ _ _ _ _ _ _ _
          rw [HP1.out]
          have h := HS3.out
          rw [twice_step] at h
          exact ⟨h.parts.congr (fun q hq hq1 => by
            by_cases e : q = i
            · subst e; rw [Sp.nth_set _ _ _ _ (by rw [Sp.pcK_len]; exact hi), if_pos rfl] at hq1; cases hq1
            · exact HP2.out q hq e), h.rng, h.fr, h.hb, h.hm, h.ho, h.hr⟩
        case measure => rw [HS3.out.rng.left_eq, HM0.out]; have := HLE.out; have := HLT.out; omega
      · have hs4' : 4 * i < s := by omega
        have HP1 := Lib.hid (Sp.pcK_keep f.blk s i hs4' HLS.out)
        have HP2 := Lib.hid (Sp.pcB_step f.byt s i hi HL1.out HLS.out)
        have HZL : Hid (∀ k, (Sp.zI (Sp.pcB f.byt s (natL left)) i s k).length = 64) := fun k => by rw [Sp.zI_len, Sp.pcB_len]
        have hI16 : (i : Int) < 16 := by omega
        clear hs4'
        have H20 : Hid (SpC P w w2 b mb r n f.size (Sp.zI (Sp.pcB f.byt s (natL left)) i s 0) (Sp.pcK f.blk s (natL left)) o (fun z => left z && !(z == (i : Int))) cnt2) := HS2.out
        have HZS : Hid (∀ k, Sp.zI (Sp.pcB f.byt s (natL left)) i s (k + 1) = if s ≤ 4 * i + k then (Sp.zI (Sp.pcB f.byt s (natL left)) i s k).set (4 * i + k) 0 else Sp.zI (Sp.pcB f.byt s (natL left)) i s k) := fun k => rfl
        obtain ⟨wA, hwA⟩ : ∃ x, x = wr := ⟨_, rfl⟩
        subst hwA
        clear HS2
        go_wp2
        clear hen c0 c1
        go_loopw [31] (fun c wr => ∃ k : Nat, k ≤ 4 ∧ c = .int .i64 k ∧ Hid (SpC P w wr b mb r n f.size (Sp.zI (Sp.pcB f.byt s (natL left)) i s k) (Sp.pcK f.blk s (natL left)) o (fun z => left z && !(z == (i : Int))) cnt2)) (fun c _ => 4 - (intOf c).toNat)
        case atStart => exact ⟨0, Nat.zero_le _, rfl, H20⟩
        case round =>
          clear H20
          obtain ⟨k, hk, rfl, hK⟩ := hrel
          by_cases hk4 : k < 4
          · have hkk : (k : Int) < 4 := by omega
            have HS1 := Lib.hid (HZS.out k)
            have hcell := hK.out.parts.byte (HZL.out k) hi hk4 HKI.out
            have hfree := hK.out.parts.free k hi HKI.out
            by_cases hz : s ≤ 4 * i + k
            · have hz2 : (s : Int) ≤ (i : Int) * 4 + k := by omega
              have HSS := Lib.hid (show Sp.zI (Sp.pcB f.byt s (natL left)) i s (k + 1) = (Sp.zI (Sp.pcB f.byt s (natL left)) i s k).set (4 * i + k) 0 from by rw [HS1.out, if_pos hz])
              have HPP := Lib.hid (hK.out.put (HZL.out k) hi hk4 HKI.out 0)
              clear hz HS1
              generalize nth (Sp.zI (Sp.pcB f.byt s (natL left)) i s k) (4 * i + k) = y at *
              go_wp2
              go_roundw
              case rel => exact ⟨k + 1, by omega, by go_num, by show SpC _ _ _ _ _ _ _ _ _ _ _ _ _; rw [HSS.out]; exact HPP.out⟩
              case measure => simp [intOf]; omega
            · have hz2 : ¬ (s : Int) ≤ (i : Int) * 4 + k := by omega
              have HSS := Lib.hid (show Sp.zI (Sp.pcB f.byt s (natL left)) i s (k + 1) = Sp.zI (Sp.pcB f.byt s (natL left)) i s k from by rw [HS1.out, if_neg hz])
              clear hz HS1 hcell hfree
              go_wp2
              go_roundw
              case rel => exact ⟨k + 1, by omega, by go_num, by show SpC _ _ _ _ _ _ _ _ _ _ _ _ _; rw [HSS.out]; exact hK.out⟩
              case measure => simp [intOf]; omega
          · have hk44 : k = 4 := by omega
            rw [hk44] at hK
            clear hk4
            go_wp2
            go_roundw
            case rel =>
              refine ⟨(fun z => left z && !(z == (i : Int))), cnt2, ?_⟩
              show SpC _ _ _ _ _ _ _ _ _ _ _ _ _
              rw [HP1.out, ← HP2.out]
              exact hK.out
            case measure => rw [hK.out.rng.left_eq, HM0.out]; have := HLT.out; omega
theorem sp_Cut (w : World) (P : Nat → Prop) (b N : Nat) (f : Sp.F) (s : Int) (h : SpF P w b N f) (hO : Sp.OK f) :
    Calls Tryd.prog 26 #[.pointer (some ⟨b, 0, none⟩), .int .i64 s] w (SpCt P b N (Sp.cut f s) (Sp.cutErr s) w) := by
  by_cases hs : 0 ≤ s ∧ s ≤ 64
  · obtain ⟨k, rfl⟩ : ∃ k : Nat, s = k := ⟨s.toNat, by omega⟩
    unfold Sp.cut Sp.cutErr
    rw [if_pos hs, if_pos hs, Int.toNat_natCast]
    exact sp_Cut_ok w P b N f k h hO (by omega)
  · unfold Sp.cut Sp.cutErr
    rw [if_neg hs, if_neg hs]
    exact sp_Cut_no w P b N f s h hs
end Go.Proofs.YtmgalnkcpolafaaDoor
