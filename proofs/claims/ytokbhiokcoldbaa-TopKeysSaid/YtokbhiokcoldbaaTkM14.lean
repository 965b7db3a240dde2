/- New, Flush, down, Put, Drop of package lsm. -/
import Derived.Handy
import Derived.Laws.ResultCell
import Derived.Test.YtokbhiokcoldbaaTkM02
import Derived.Test.YtokbhiokcoldbaaTkM07
import Derived.Test.YtokbhiokcoldbaaTkM10
import Derived.Test.YtokbhiokcoldbaaTkM13
namespace Go.Proofs.Ytokbhiokcoldbaa
open Go.RowKit

theorem ls_New (w : World) : Calls Try.prog 24 #[] w fun e w' => e = .returned (.pointer (some ⟨w.heap.size, 0, none⟩)) ∧ LsF (w.heap.size ≤ ·) w' w.heap.size Ls.new ∧ Fr [] w w' := by
  have HF : Hid (∀ W, W = w.alloc (.cells #[.slice none 0 0, .slice none 0 0, .int .i64 0] 74) → LsF (w.heap.size ≤ ·) W w.heap.size Ls.new ∧ Fr [] w W) := fun W hW => by
    subst hW
    exact ⟨⟨_, _, [], ⟨Nat.le_refl _, fun g hg => (by cases hg), fun g hg => (by cases hg), heap_alloc_new w _, OwnR.nil, OwnR.nil, rfl, fun i hi => (by simp at hi)⟩⟩, (Fr.refl _ _).alloc _⟩
  go_enter Try.func24, Try.ntmps24
  go_wp2
  go_ret
  exact ⟨rfl, HF.out _ rfl⟩
set_option maxRecDepth 100000 in
set_option maxHeartbeats 4000000 in
theorem ls_Flush (w : World) (P : Nat → Prop) (b : Nat) (m : Ls.M) (h : LsF P w b m) (hl : m.runs.length ≤ 1000) (hml : m.mem.length ≤ 1000) :
    Calls Try.prog 38 #[.pointer (some ⟨b, 0, none⟩)] w (LsAns P b (.tuple #[]) (Ls.flush m) w) := by
  obtain ⟨vm, vr, vs, hS⟩ := h
  have HS := Lib.hid hS
  obtain ⟨c0, c1, c2, cf⟩ := hS.cells
  obtain ⟨A, c, rfl⟩ := hS.mem.form
  obtain ⟨A2, k2, rfl⟩ := hS.runs.form
  have hvl := hS.len
  by_cases hm : m.mem = []
  · have HE : Hid (LsAns P b (.tuple #[]) (Ls.flush m) w (.returned (.tuple #[])) w) := by
      unfold Ls.flush
      rw [if_pos hm]
      exact LsAns.none ⟨_, _, _, hS⟩ rfl (Fr.refl _ _)
    have hz : m.mem.length = 0 := by rw [hm]; rfl
    rw [hz] at c0
    clear hS hm HS
    go_enter Try.func38, Try.ntmps38
    go_wp2
    go_returns
    exact HE.out
  · have hp := List.length_pos_iff.2 hm
    have hpI : (0 : Int) < m.mem.length := by omega
    have hEq : Hid (Ls.flush m = ⟨[], m.mem :: m.runs, m.many⟩) := by unfold Ls.flush; exact if_neg hm
    have HCE : Hid (∀ W, Fr (Value.slice A2 vs.length k2).ownBlock.toList w W → W.cell? ⟨b, 0, none⟩ = some (.slice A m.mem.length c) ∧ W.cell? ⟨b, 1, none⟩ = some (.slice A2 vs.length k2) ∧ ∀ i, W.frozen? ⟨b, i, none⟩ = false) := fun W hW => by
      have hb := hW.get hS.file (by simpa using hS.ne.2.1)
      refine ⟨?_, ?_, fun i => free_block hb i none⟩ <;> (rw [cell_of_row W b _ _ _ _ hb]; rfl)
    obtain ⟨w1, hw1⟩ : ∃ w1, (w.alloc (.cells #[.slice A m.mem.length c] 71)).drew = w1 := ⟨_, rfl⟩
    have hf1 : Fr [] w w1 := by rw [← hw1]; exact ((Fr.refl [] w).alloc _).drew
    have HI := Lib.hid (insT w1 0 (.slice A2 vs.length k2) 0 vs ⟨A, m.mem.length, c⟩ w.heap.size (hS.runs.kept hf1 (by simp)) (Nat.zero_le _) (by rw [← hw1]; exact heap_alloc_new w _) (fun e => by have := (hS.runs.ge _ e).2; omega) (by omega) (Nat.zero_le _))
    have HF1 := Lib.hid hf1
    have HW1 := Lib.hid hw1
    clear hS hm hw1 hf1 hvl
    go_enter Try.func38, Try.ntmps38
    go_wp2_with fail
    (refine wp_region_mix (Fr (Value.slice A2 vs.length k2).ownBlock.toList w ·) 11 [(true, 0), (true, 1), (true, 2), (true, 3), (true, 4), (true, 5), (true, 6), (true, 7), (true, 8), (false, 9), (false, 10)] (by kernel_rfl) (by kernel_rfl) ((Fr.refl _ _).drew) ?_; simp only [pickOps, List.map_cons, List.map_nil, List.getD_cons_zero, List.getD_cons_succ, List.drop_succ_cons, List.drop_zero])
    (iterate 9 (first | (refine wpMix_take (v := ?_) (by rfl) ?_ ?_; rotate_left; (focus (intro W hW; obtain ⟨q0, q1, q3⟩ := HCE.out W hW; go_simp; (try with_reducible rfl); done)); try simp only [Act.put, List.setIfInBounds_toArray, List.set_cons_zero, List.set_cons_succ]) | (refine wpMix_leave (by rfl) ?_; try simp only [Act.put, List.setIfInBounds_toArray, List.set_cons_zero, List.set_cons_succ])))
    refine wpMix_walk ?_
    go_wp2
    rw [HW1.out]
    refine MixQ.mk (HF1.out.nil) ?_
    refine wpMix_walk ?_
    go_wp2_with (go_at_call 56; (with_reducible refine useC HI.out ?_); intro e2 w2 h2; have HA := Lib.hid (h2.of HF1.out); obtain ⟨⟨v', rfl, _, _⟩, _⟩ := h2)
    obtain ⟨⟨v2, e2, hr, hv⟩, hg⟩ := HA.out
    injection e2 with e2
    subst e2
    obtain ⟨A3, k3, rfl⟩ := hr.form
    have hF := fr_own hg
    have HFL := Lib.hid (HS.out.flush hF hr hv)
    have HF2 := Lib.hid hF
    clear hr hv hg hF
    refine MixQ.mk (HF2.out) ?_
    refine wpMix_nil ?_
    obtain ⟨q0, q1, q3⟩ := HCE.out w2 HF2.out
    clear HA
    go_wp2
    go_returns
    rw [hEq.out]
    exact ⟨rfl, ⟨_, _, _, HFL.out.1⟩, HFL.out.2⟩
/-- The error that a number stands for (0: none). -/
theorem down_codes (m : Ls.M) (e : Ls.E) : Ls.downErr m e = 0 ∨ Ls.downErr m e = 1 ∨ Ls.downErr m e = 4 := by
  unfold Ls.downErr
  split
  · split
    · exact .inr (.inr rfl)
    · exact .inl rfl
  · exact .inr (.inl rfl)
end Go.Proofs.Ytokbhiokcoldbaa
/- down, Put, Drop of package lsm. -/
namespace Go.Proofs.Ytokbhiokcoldbaa
open Go.RowKit

theorem LsAns.of {P : Nat → Prop} {w w1 w' : World} {b : Nat} {v : Value} {m : Ls.M} {e : Ending} (hf : FrP P w w1) (h : LsAns (OrNew P w) b v m w1 e w') : LsAns P b v m w e w' := by
  obtain ⟨h1, h2, h3⟩ := h
  refine ⟨h1, h2.imp (fun k hk => ?_), hf.trans h3 (fun x hx => hx)⟩
  rcases hk with hk | hk
  · exact hk
  · exact .inr (Nat.le_trans hf.size hk)
theorem LsAns.from {P : Nat → Prop} {w w1 w' : World} {b : Nat} {v : Value} {m : Ls.M} {e : Ending} (hf : FrP P w w1) (h : LsAns P b v m w1 e w') : LsAns P b v m w e w' := by
  obtain ⟨h1, h2, h3⟩ := h
  refine ⟨h1, h2.imp (fun k hk => ?_), hf.trans h3 (fun x hx => .inl hx)⟩
  rcases hk with hk | hk
  · exact .inl hk
  · exact .inr (Nat.le_trans hf.size hk)
set_option maxRecDepth 100000 in
set_option maxHeartbeats 4000000 in
theorem ls_down (w : World) (P : Nat → Prop) (b : Nat) (m : Ls.M) (k x : Int) (h : LsF P w b m) (hO : Ls.OK m) :
    Calls Try.prog 44 #[.pointer (some ⟨b, 0, none⟩), .agg #[.int .i64 k, .int .i64 x]] w (LsAns P b (errV (Ls.downErr m (k, x))) (Ls.down m (k, x)) w) := by
  have HH := Lib.hid h
  obtain ⟨w1, hw1⟩ : ∃ w1, w.alloc (.cells #[.int .i64 k, .int .i64 x] 79) = w1 := ⟨_, rfl⟩
  have hbx : w1.heap[w.heap.size]? = some (.cells #[.int .i64 k, .int .i64 x] 79 (0, 0)) := by rw [← hw1]; exact heap_alloc_new w _
  have hf1 : Fr [] w w1 := by rw [← hw1]; exact (Fr.refl _ _).alloc _
  have b0 : w1.cell? ⟨w.heap.size, 0, none⟩ = some (.int .i64 k) := by rw [cell_of_row _ _ _ _ _ _ hbx]; rfl
  have b1 : w1.cell? ⟨w.heap.size, 1, none⟩ = some (.int .i64 x) := by rw [cell_of_row _ _ _ _ _ _ hbx]; rfl
  have HF1 := Lib.hid hf1
  by_cases hk : 0 ≤ k ∧ k ≤ 1000
  · have hkd := decide_eq_true hk
    obtain ⟨vm, vr, vs, hS⟩ := h
    have hS1 := hS.keep hf1
    obtain ⟨c0, c1, c2, cf⟩ := hS1.cells
    have hmn := hO.many
    by_cases hm : m.many = 60
    · have he : Ls.downErr m (k, x) = 4 := by unfold Ls.downErr; rw [if_pos hk, if_pos hm]
      have hd : Ls.down m (k, x) = m := by unfold Ls.down; rw [if_neg (by rw [he]; decide)]
      rw [he, hd, errV_no (by decide)]
      have hmI : ((m.many : Int) == 60) = true := by rw [hm]; rfl
      rw [hm] at c2
      clear hS hS1 hO hbx hf1 hmI hm hk
      go_enter Try.func44, Try.ntmps44
      go_wp2_with (first | rw [hw1] | (go_at_call 36; (with_reducible refine useC (within_is k _ _ true _ hkd) ?_); rintro e w1 ⟨rfl, rfl⟩))
      go_ret
      exact LsAns.none HH.out rfl HF1.out
    · have he : Ls.downErr m (k, x) = 0 := by unfold Ls.downErr; rw [if_pos hk, if_neg hm]
      have hd : Ls.down m (k, x) = if (Ls.set m.mem (k, x)).length = 4 then Ls.flush (Ls.put1 m (k, x)) else Ls.put1 m (k, x) := by unfold Ls.down; rw [if_pos he]
      have HCUT : Hid ((Ls.set m.mem (k, x)).length = 4 → Ls.down m (k, x) = Ls.flush (Ls.put1 m (k, x))) := fun h4 => by rw [hd, if_pos h4]
      have HNOT : Hid ((Ls.set m.mem (k, x)).length ≠ 4 → Ls.down m (k, x) = Ls.put1 m (k, x)) := fun h4 => by rw [hd, if_neg h4]
      clear hd
      rw [he, show errV 0 = .nilIface from rfl]
      generalize Ls.down m (k, x) = R at *
      have hmI : ¬ ((m.many : Int) = 60) := by omega
      have hmb : ((m.many : Int) == 60) = false := beq_eq_false_iff_ne.2 hmI
      have hw : IntKind.i64.wrap ((m.many : Int) + 1) = (m.many : Int) + 1 := by rw [IntKind.wrap_i64]; omega
      obtain ⟨A, c, rfl⟩ := hS.mem.form
      have hS2 := hS1.count (m.many + 1)
      obtain ⟨w2, hw2⟩ : ∃ w2, w1.setCell ⟨b, 2, none⟩ (.int .i64 ((m.many : Int) + 1)) = w2 := ⟨_, rfl⟩
      rw [show ((m.many + 1 : Nat) : Int) = (m.many : Int) + 1 from by omega, hw2] at hS2
      obtain ⟨hS2, hf2⟩ := hS2
      have hbw := hS.lt
      have hbx2 := hf2.get hbx (by simp; omega)
      have HCE : Hid (∀ W, Fr (Value.slice A m.mem.length c).ownBlock.toList w2 W → W.cell? ⟨b, 0, none⟩ = some (.slice A m.mem.length c) ∧ (W.cell? ⟨w.heap.size, 0, none⟩ = some (.int .i64 k) ∧ W.cell? ⟨w.heap.size, 1, none⟩ = some (.int .i64 x)) ∧ ∀ i, W.frozen? ⟨b, i, none⟩ = false) := fun W hW => by
        have hb := hW.get hS2.file (by simpa using hS2.ne.1)
        have hx := hW.get hbx2 (fun hm => by have h3 := (hS.mem.ge _ (mem_own hm)).2; omega)
        refine ⟨?_, ⟨?_, ?_⟩, fun i => free_block hb i none⟩
        · rw [cell_of_row W b _ _ _ _ hb]; rfl
        · rw [cell_of_row W _ _ _ _ _ hx]; rfl
        · rw [cell_of_row W _ _ _ _ _ hx]; rfl
      have hup := hO.up m.mem (by simp)
      have hml := hO.mem
      have HSET := Lib.hid (ls_set w2.drew 0 (.slice A m.mem.length c) m.mem k x (hS2.mem.kept ((Fr.refl [] w2).drew) (by simp)) hup (by omega) (Nat.zero_le _))
      have HS2 := Lib.hid hS2
      have HP2 : Hid (FrP P w w2) := ((FrP.refl P w).step hf1 (by simp)).step hf2 (fun y hy => by simp only [List.mem_singleton] at hy; subst hy; exact .inl hS.gb)
      have HW2 := Lib.hid hw2
      have hSL := (Ls.set_len (k, x) m.mem).2.1
      have hOL := hO.len
      clear hS hS1 hS2 hO hbx hbx2 hf1 hf2 hw2 hm hk hup
      go_enter Try.func44, Try.ntmps44
      go_wp2_with (first | rw [hw1] | (go_at_call 36; (with_reducible refine useC (within_is k _ _ true _ hkd) ?_); rintro e w1 ⟨rfl, rfl⟩))
      rw [HW2.out]
      (refine wp_region_mix (Fr (Value.slice A m.mem.length c).ownBlock.toList w2 ·) 7 [(true, 0), (true, 1), (true, 2), (true, 3), (true, 4), (true, 5), (false, 6)] (by kernel_rfl) (by kernel_rfl) ((Fr.refl _ _).drew) ?_; simp only [pickOps, List.map_cons, List.map_nil, List.getD_cons_zero, List.getD_cons_succ, List.drop_succ_cons, List.drop_zero])
      (iterate 6 (first | (refine wpMix_take (v := ?_) (by rfl) ?_ ?_; rotate_left; (focus (intro W hW; obtain ⟨q0, ⟨q1, q2⟩, q3⟩ := HCE.out W hW; go_simp; (try with_reducible rfl); done)); try simp only [Act.put, List.setIfInBounds_toArray, List.set_cons_zero, List.set_cons_succ]) | (refine wpMix_leave (by rfl) ?_; try simp only [Act.put, List.setIfInBounds_toArray, List.set_cons_zero, List.set_cons_succ])))
      refine wpMix_walk ?_
      go_wp2_with (go_at_call 57; (with_reducible refine useC HSET.out ?_); intro e3 w3 h3; have HA := Lib.hid (h3.of ((Fr.refl [] w2).drew)); obtain ⟨⟨v', rfl, _, _⟩, _⟩ := h3)
      obtain ⟨⟨v3, e2, hr, hv⟩, hg⟩ := HA.out
      injection e2 with e2
      subst e2
      obtain ⟨A3, k3, rfl⟩ := hr.form
      have hF := fr_own hg
      have HNM := Lib.hid (HS2.out.newMem hF hr hv)
      have HF3 := Lib.hid hF
      clear hr hv hg hF
      refine MixQ.mk (HF3.out) ?_
      refine wpMix_nil ?_
      obtain ⟨q0, -, q3⟩ := HCE.out w3 HF3.out
      have q4 := HNM.out.1.cells.1
      obtain ⟨w4, hw4⟩ : ∃ w4, w3.setCell ⟨b, 0, none⟩ (.slice A3 (Ls.set m.mem (k, x)).length k3) = w4 := ⟨_, rfl⟩
      rw [hw4] at HNM q4
      clear HA
      by_cases h4 : (Ls.set m.mem (k, x)).length = 4
      · have h4b : (((Ls.set m.mem (k, x)).length : Int) == 4) = true := by rw [h4]; rfl
        have HFL := Lib.hid (ls_Flush w4 (OrNew P w2) b (Ls.put1 m (k, x)) ⟨_, _, _, HNM.out.1⟩ (by show m.runs.length ≤ 1000; omega) (by show (Ls.set m.mem (k, x)).length ≤ 1000; omega))
        rw [h4] at q4 hw4
        rw [h4]
        go_wp2_with (first | rw [hw4] | (go_at_call 38; (with_reducible refine useC HFL.out ?_); intro e5 w5 h5; have HA5 := Lib.hid h5; obtain ⟨rfl, -, -⟩ := h5))
        go_ret
        rw [HCUT.out h4]
        obtain ⟨-, h6, h7⟩ := LsAns.of HNM.out.2 HA5.out
        exact LsAns.from HP2.out ⟨rfl, h6, h7⟩
      · have h4b : (((Ls.set m.mem (k, x)).length : Int) == 4) = false := beq_eq_false_iff_ne.2 (by omega)
        have h4n := HNOT.out h4
        generalize (Ls.set m.mem (k, x)).length = L at *
        go_wp2_with (rw [hw4])
        go_ret
        exact LsAns.from HP2.out ⟨rfl, ⟨_, _, _, HNM.out.1⟩, HNM.out.2⟩
  · have hkd := decide_eq_false hk
    have he : Ls.downErr m (k, x) = 1 := by unfold Ls.downErr; rw [if_neg hk]
    have hd : Ls.down m (k, x) = m := by unfold Ls.down; rw [if_neg (by rw [he]; decide)]
    rw [he, hd, errV_no (by decide)]
    clear h hO hbx hf1 hk
    go_enter Try.func44, Try.ntmps44
    go_wp2_with (first | rw [hw1] | (go_at_call 36; (with_reducible refine useC (within_is k _ _ false _ hkd) ?_); rintro e w1 ⟨rfl, rfl⟩))
    go_ret
    exact LsAns.none HH.out rfl HF1.out
set_option maxRecDepth 100000 in
theorem ls_Drop (w : World) (P : Nat → Prop) (b : Nat) (m : Ls.M) (k : Int) (h : LsF P w b m) (hO : Ls.OK m) :
    Calls Try.prog 39 #[.pointer (some ⟨b, 0, none⟩), .int .i64 k] w (LsAns P b (errV (Ls.downErr m (k, -1))) (Ls.down m (k, -1)) w) := by
  have HD := Lib.hid (ls_down w P b m k (-1) h hO)
  clear h hO
  go_enter Try.func39, Try.ntmps39
  go_wp2_with (go_at_call 44; (with_reducible refine useC HD.out ?_); intro e3 w3 h3; have HA := Lib.hid h3; obtain ⟨rfl, -, -⟩ := h3)
  go_ret
  exact HA.out
/-- What Put answers. -/
def Ls.putErr (m : Ls.M) (k v : Int) : Int := if 0 ≤ v ∧ v ≤ 1000 then Ls.downErr m (k, v) else 1
def Ls.put (m : Ls.M) (k v : Int) : Ls.M := if 0 ≤ v ∧ v ≤ 1000 then Ls.down m (k, v) else m
set_option maxRecDepth 100000 in
theorem ls_Put (w : World) (P : Nat → Prop) (b : Nat) (m : Ls.M) (k v : Int) (h : LsF P w b m) (hO : Ls.OK m) :
    Calls Try.prog 27 #[.pointer (some ⟨b, 0, none⟩), .int .i64 k, .int .i64 v] w (LsAns P b (errV (Ls.putErr m k v)) (Ls.put m k v) w) := by
  have HD := Lib.hid (ls_down w P b m k v h hO)
  have HH := Lib.hid h
  clear h hO
  unfold Ls.putErr Ls.put
  by_cases hv : 0 ≤ v ∧ v ≤ 1000
  · have hvd := decide_eq_true hv
    rw [if_pos hv, if_pos hv]
    clear hv
    go_enter Try.func27, Try.ntmps27
    go_wp2_with (first
      | (go_at_call 36; (with_reducible refine useC (within_is v _ _ true _ hvd) ?_); rintro e w ⟨rfl, rfl⟩)
      | (go_at_call 44; (with_reducible refine useC HD.out ?_); intro e3 w3 h3; have HA := Lib.hid h3; obtain ⟨rfl, -, -⟩ := h3))
    go_ret
    exact HA.out
  · have hvd := decide_eq_false hv
    rw [if_neg hv, if_neg hv, errV_no (by decide)]
    clear hv
    go_enter Try.func27, Try.ntmps27
    go_wp2_with (go_at_call 36; (with_reducible refine useC (within_is v _ _ false _ hvd) ?_); rintro e w ⟨rfl, rfl⟩)
    go_ret
    exact LsAns.none HH.out rfl (Fr.refl _ _)
end Go.Proofs.Ytokbhiokcoldbaa

/- Three stores of the same keys: what is put into each of them. No program in sight. -/
namespace Go.Proofs.Ytokbhiokcoldbaa
namespace Tk

/-- The three stores hold the same; so many times was put. -/
structure R (m : Ls.M) (T : Ct) (s : Bt.Tree) (n : Nat) : Prop where
  lok : Ls.OK m
  up : Co.Up T
  sok : s.OK
  get : ∀ k, Ls.get m k = Co.get T k
  dom : ∀ k, (Co.get T k).isSome = true ↔ k ∈ s.keys
  keys : ∀ k, k ∈ Co.keys T ↔ k ∈ s.keys
  many : m.many = n
  le : s.many ≤ n
theorem R.start : R Ls.new .nil Bt.new 0 :=
  ⟨Ls.new_ok, List.Pairwise.nil, Bt.new_ok, fun _ => rfl, fun k => by simp [Co.get, Bt.new, Bt.Tree.keys, Bt.all], fun k => by simp [Co.keys, Co.nodes, Bt.new, Bt.Tree.keys, Bt.all], rfl, Nat.le_refl _⟩
theorem R.cow {m : Ls.M} {T : Ct} {s : Bt.Tree} {n : Nat} (h : R m T s n) : Co.keys T = s.keys := Co.up_eq _ _ h.up h.sok.up h.keys
theorem R.lsm {m : Ls.M} {T : Ct} {s : Bt.Tree} {n : Nat} (h : R m T s n) : Ls.keys m = s.keys :=
  Ls.up_unique (Ls.keys_up m) h.sok.up (fun k => by rw [Ls.keys_mem, h.get, h.dom])
theorem R.has {m : Ls.M} {T : Ct} {s : Bt.Tree} {n : Nat} (h : R m T s n) (k : Int) : Bt.has s.d s.t k = (Co.get T k).isSome := by
  rw [h.sok.has]
  cases hg : (Co.get T k).isSome
  · exact decide_eq_false (fun hm => by rw [(h.dom k).2 hm] at hg; cases hg)
  · exact decide_eq_true ((h.dom k).1 hg)
/-- The tree's answer: it errs just where it has the key. -/
theorem R.addErr {m : Ls.M} {T : Ct} {s : Bt.Tree} {n : Nat} (h : R m T s n) {k : Int} (hk : 0 ≤ k ∧ k ≤ 1000) (hn : n < 60) : Bt.addErr s k = if Bt.has s.d s.t k = true then 6 else 0 := by
  have h1 := h.le
  unfold Bt.addErr
  rw [if_pos hk, if_neg (show ¬ s.many = 60 by omega)]
theorem R.step {m : Ls.M} {T : Ct} {s : Bt.Tree} {n : Nat} (h : R m T s n) {k x : Int} (hk : 0 ≤ k ∧ k ≤ 1000) (hx : 0 ≤ x ∧ x ≤ 1000) (hn : n < 60) (b : Nat) : R (Ls.down m (k, x)) (Co.put T b k x) (Bt.put s k) (n + 1) := by
  have hd : Ls.downErr m (k, x) = 0 := by
    have h1 := h.many
    unfold Ls.downErr
    rw [if_pos hk, if_neg (by omega)]
  have hin : ∀ y, y ∈ (Bt.put s k).keys ↔ y = k ∨ y ∈ s.keys := fun y => by
    by_cases he : Bt.addErr s k = 0
    · rw [(Bt.put_keys h.sok he).1, Bt.mem_insS]
    · have h1 : Bt.put s k = s := if_neg he
      rw [h1]
      refine ⟨.inr, fun hy => hy.elim (fun e => ?_) id⟩
      rw [h.addErr hk hn] at he
      by_cases hh : Bt.has s.d s.t k = true
      · rw [h.sok.has] at hh
        rw [e]
        exact of_decide_eq_true hh
      · rw [if_neg hh] at he
        exact absurd rfl he
  refine ⟨h.lok.down ⟨by show -1 ≤ x; omega, by show x ≤ 1000; omega⟩, Co.up_put k x T b h.up, h.sok.put k, fun y => ?_, fun y => ?_, fun y => ?_, ?_, ?_⟩
  · rw [Ls.get_down, Co.get_put, h.get]
    by_cases e : y = k
    · rw [if_pos e, if_pos ⟨hd, e.symm⟩]
      show (if x < 0 then none else some x) = some x
      rw [if_neg (by omega)]
    · rw [if_neg e, if_neg (fun hh => e hh.2.symm)]
  · rw [Co.get_put, hin]
    by_cases e : y = k
    · rw [if_pos e]; simp [e]
    · rw [if_neg e, h.dom]; simp [e]
  · rw [Co.mem_keys_put, hin, h.keys]
  · unfold Ls.down
    rw [if_pos hd]
    have h1 := h.many
    split
    · have h2 : (Ls.flush (Ls.put1 m (k, x))).many = (Ls.put1 m (k, x)).many := by unfold Ls.flush; split <;> rfl
      rw [h2]
      show m.many + 1 = n + 1
      omega
    · show m.many + 1 = n + 1
      omega
  · have h1 := h.le
    by_cases he : Bt.addErr s k = 0
    · have h2 : (Bt.put s k).many = s.many + 1 := by
        unfold Bt.put
        rw [if_pos he]
        rcases Bt.add s.d s.t k with ⟨a, o⟩
        cases o <;> rfl
      omega
    · have h2 : Bt.put s k = s := if_neg he
      rw [h2]; omega
/-- What all three take. -/
def Fit (k x : Int) : Prop := (0 ≤ k ∧ k ≤ 1000) ∧ (0 ≤ x ∧ x ≤ 1000)
theorem R.lsErr {m : Ls.M} {T : Ct} {s : Bt.Tree} {n : Nat} (h : R m T s n) (hn : n < 60) (k x : Int) : Ls.putErr m k x = 0 ↔ Fit k x := by
  have h1 := h.many
  unfold Ls.putErr Ls.downErr Fit
  by_cases hx : 0 ≤ x ∧ x ≤ 1000
  · rw [if_pos hx]
    by_cases hk : 0 ≤ k ∧ k ≤ 1000
    · rw [if_pos hk, if_neg (by omega)]
      exact ⟨fun _ => ⟨hk, hx⟩, fun _ => rfl⟩
    · rw [if_neg hk]
      exact ⟨fun e => absurd e (by decide), fun hf => absurd hf.1 hk⟩
  · rw [if_neg hx]
    exact ⟨fun e => absurd e (by decide), fun hf => absurd hf.2 hx⟩
theorem coErr {st : List Ct} {v k x : Int} (hv : Co.has st v) (hl : st.length ≤ 20) : Co.putErr st v k x = 0 ↔ Fit k x := by
  unfold Co.putErr Fit
  rw [if_pos hv]
  by_cases hf : (0 ≤ k ∧ k ≤ 1000) ∧ (0 ≤ x ∧ x ≤ 1000)
  · rw [if_pos hf, if_neg (by omega)]
    exact ⟨fun _ => hf, fun _ => rfl⟩
  · rw [if_neg hf]
    exact ⟨fun e => absurd e (by decide), fun h => absurd h hf⟩
end Tk
end Go.Proofs.Ytokbhiokcoldbaa

/- find of package lsm. -/
namespace Go.Proofs.Ytokbhiokcoldbaa
open Go.RowKit

/-- What find hands back. -/
def LsFd (l : List (Int × Int)) (k : Int) : Int × Int × Bool := match Ls.find k l with | some x => (k, x, true) | none => (0, 0, false)
theorem find_lb (k : Int) : ∀ (l : List (Int × Int)), Ls.Up l → (∀ h : Ls.lb k l < l.length, l[Ls.lb k l].1 = k → Ls.find k l = some l[Ls.lb k l].2) ∧ ((¬ ∃ h : Ls.lb k l < l.length, l[Ls.lb k l].1 = k) → Ls.find k l = none)
  | [], _ => ⟨fun h => by simp at h, fun _ => rfl⟩
  | x :: r, hu => by
    rw [Ls.Up, List.map_cons, List.pairwise_cons] at hu
    obtain ⟨h1, h2⟩ := find_lb k r hu.2
    by_cases hx : x.1 < k
    · have e1 : Ls.lb k (x :: r) = Ls.lb k r + 1 := by rw [Ls.lb, if_pos hx]
      have e2 : Ls.find k (x :: r) = Ls.find k r := by rw [Ls.find, if_neg (by omega)]
      rw [e2]
      refine ⟨fun h he => ?_, fun hn => h2 (fun ⟨h, he⟩ => hn ⟨by rw [e1]; simpa using h, by simpa [e1] using he⟩)⟩
      have := h1 (by rw [e1] at h; simpa using h) (by simpa [e1] using he)
      rw [this]
      simp [e1]
    · have e1 : Ls.lb k (x :: r) = 0 := by rw [Ls.lb, if_neg hx]
      refine ⟨fun h he => ?_, fun hn => ?_⟩
      · have : x.1 = k := by simpa [e1] using he
        rw [Ls.find, if_pos this]
        simp [e1]
      · have hne : x.1 ≠ k := fun he => hn ⟨by rw [e1]; simp, by simpa [e1] using he⟩
        rw [Ls.find, if_neg hne]
        have : ∀ (m : List (Int × Int)), (∀ y ∈ m, k < y.1) → Ls.find k m = none := fun m hm => by
          induction m with
          | nil => rfl
          | cons y t ih =>
            rw [Ls.find, if_neg (by have := hm y (by simp); omega)]
            exact ih (fun z hz => hm z (by simp [hz]))
        exact this r (fun y hy => by have := hu.1 y.1 (List.mem_map.2 ⟨y, hy, rfl⟩); omega)
set_option maxRecDepth 100000 in
set_option maxHeartbeats 2000000 in
theorem ls_find (w : World) (v : Value) (g : Nat) (l : List (Int × Int)) (k : Int) (h : SlR entE w v g l) (hu : Ls.Up l) (hl : l.length ≤ 100000) :
    Calls Try.prog 48 #[v, .int .i64 k] w fun e' w' => e' = .returned (.tuple #[.agg #[.int .i64 (LsFd l k).1, .int .i64 (LsFd l k).2.1], .bool (LsFd l k).2.2]) ∧ Fr [] w w' := by
  have HB := Lib.hid (fun W (hW : Fr [] w W) => ls_bs W v g l (k, 0) (h.fr hW (by simp)) hu hl)
  obtain ⟨hf1, hf2⟩ := find_lb k l hu
  obtain ⟨A, o, c, rfl, -, hA, hc⟩ := h.form
  have HA := Lib.hid hA
  have HC := Lib.hid (fun W (hW : Fr [] w W) i (hi : i < l.length) => And.intro (hW.cell (v := .int .i64 l[i].1) (by simpa [entE] using hc i hi 0 (by decide)) (by simp)) (hW.cell (v := .int .i64 l[i].2) (by simpa [entE] using hc i hi 1 (by decide)) (by simp)))
  have HLE := Lib.hid (Ls.lb_le k l)
  clear hA hc h hu
  dsimp only at HB
  have hbx := heap_alloc_new w (.cells #[.int .i64 0, .int .i64 0] 79)
  have hf0 : Fr [] w (w.alloc (.cells #[.int .i64 0, .int .i64 0] 79)) := (Fr.refl _ _).alloc _
  have HB1 := Lib.hid (HB.out _ hf0)
  have HX := Lib.hid hbx
  have HF0 := Lib.hid hf0
  clear HB hbx hf0
  go_enter Try.func48, Try.ntmps48
  go_wp2_with fail
  refine useC HB1.out ?_
  rintro e' w2 ⟨⟨b, rfl, hb⟩, hf⟩
  have hbx := hf.get HX.out (by simp)
  have c0 : w2.cell? ⟨w.heap.size, 0, none⟩ = some (.int .i64 0) := by rw [cell_of_row _ _ _ _ _ _ hbx]; rfl
  have c1 : w2.cell? ⟨w.heap.size, 1, none⟩ = some (.int .i64 0) := by rw [cell_of_row _ _ _ _ _ _ hbx]; rfl
  have z0 := fun i s => free_block hbx i s
  cases b with
  | true =>
    obtain ⟨hlt, he⟩ := hb.1 rfl
    have HFD := Lib.hid (hf1 hlt he)
    obtain rfl := HA.out (by omega)
    obtain ⟨q0, q1⟩ := HC.out w2 (HF0.out.trans hf) _ hlt
    rw [he] at q0
    have i0 : (0 : Int) ≤ (Ls.lb k l : Nat) := by omega
    have i1 : ((Ls.lb k l : Nat) : Int) < l.length := by omega
    generalize l[Ls.lb k l].2 = y at *
    have hpl : Ls.lb k l ≤ 100000 := by omega
    clear he hf1 hf2 hb hlt
    generalize Ls.lb k l = p at *
    go_wp2
    have hX := set_block (set_block hbx (.int .i64 k) (i := 0)) (.int .i64 y) (i := 1)
    have d0 : ((w2.setCell ⟨w.heap.size, 0, none⟩ (.int .i64 k)).setCell ⟨w.heap.size, 1, none⟩ (.int .i64 y)).cell? ⟨w.heap.size, 0, none⟩ = some (.int .i64 k) := by rw [cell_of_row _ _ _ _ _ _ hX]; rfl
    have d1 : ((w2.setCell ⟨w.heap.size, 0, none⟩ (.int .i64 k)).setCell ⟨w.heap.size, 1, none⟩ (.int .i64 y)).cell? ⟨w.heap.size, 1, none⟩ = some (.int .i64 y) := by rw [cell_of_row _ _ _ _ _ _ hX]; rfl
    have hFX : Fr [w.heap.size] w2 ((w2.setCell ⟨w.heap.size, 0, none⟩ (.int .i64 k)).setCell ⟨w.heap.size, 1, none⟩ (.int .i64 y)) := ((Fr.refl [w.heap.size] w2).setCell (.inl (by simp)) _).setCell (.inl (by simp)) _
    generalize (w2.setCell ⟨w.heap.size, 0, none⟩ (.int .i64 k)).setCell ⟨w.heap.size, 1, none⟩ (.int .i64 y) = X at *
    refine bodyPost_ret (v := .tuple #[.agg #[(.int .i64 k), (.int .i64 y)], .bool true]) (by rw [results_cell_tmp rfl]; go_simp) rfl ?_
    refine ⟨by unfold LsFd; rw [HFD.out], (HF0.out.trans hf).step hFX (fun q hq => .inr (by simp at hq; omega))⟩
  | false =>
    have HFD := Lib.hid (hf2 (fun hx => by have := hb.2 hx; cases this))
    clear hf1 hf2 hb
    generalize Ls.lb k l = p at *
    go_wp2
    have hX := set_block (set_block hbx (.int .i64 0) (i := 0)) (.int .i64 0) (i := 1)
    have d0 : ((w2.setCell ⟨w.heap.size, 0, none⟩ (.int .i64 0)).setCell ⟨w.heap.size, 1, none⟩ (.int .i64 0)).cell? ⟨w.heap.size, 0, none⟩ = some (.int .i64 0) := by rw [cell_of_row _ _ _ _ _ _ hX]; rfl
    have d1 : ((w2.setCell ⟨w.heap.size, 0, none⟩ (.int .i64 0)).setCell ⟨w.heap.size, 1, none⟩ (.int .i64 0)).cell? ⟨w.heap.size, 1, none⟩ = some (.int .i64 0) := by rw [cell_of_row _ _ _ _ _ _ hX]; rfl
    have hFX : Fr [w.heap.size] w2 ((w2.setCell ⟨w.heap.size, 0, none⟩ (.int .i64 0)).setCell ⟨w.heap.size, 1, none⟩ (.int .i64 0)) := ((Fr.refl [w.heap.size] w2).setCell (.inl (by simp)) _).setCell (.inl (by simp)) _
    generalize (w2.setCell ⟨w.heap.size, 0, none⟩ (.int .i64 0)).setCell ⟨w.heap.size, 1, none⟩ (.int .i64 0) = X at *
    refine bodyPost_ret (v := .tuple #[.agg #[(.int .i64 0), (.int .i64 0)], .bool false]) (by rw [results_cell_tmp rfl]; go_simp) rfl ?_
    refine ⟨by unfold LsFd; rw [HFD.out], (HF0.out.trans hf).step hFX (fun q hq => .inr (by simp at hq; omega))⟩
end Go.Proofs.Ytokbhiokcoldbaa

/- 'out = append(out, xs...)' for a row of structs that the call owns. No program in sight. -/
namespace Go.Proofs.Ytokbhiokcoldbaa
open Go.RowKit
section
variable {α : Type} {E : Enc α} {P : Program} {w : World} {e : TypeId}
theorem run_append_empty (base : Nat) (t ty : TypeId) (i : TypeInfo) (size : Nat) (ht : P.underlying t = some (.slice e)) (hi : P.info? e = some i)
    (v : Value) (n : Nat) (xs : List Value) (hown : w.ownsRow base e size v n xs) (A : Option Addr) (c : Nat) :
    (Builtin.append_ #[t, t] ty #[v, .slice A 0 c]).run P w = .ok v w := by
  rcases hown.2 with ⟨rfl, rfl⟩ | ⟨g, cap, cur, rfl, _, _, hnc, _⟩
  · cases A <;> simp [Builtin.append_, run_underlying ht, sizeOf, typeInfo, hi, Builtin.lenOf, Builtin.firstCells, loadCells, loadCellsFrom]
  · cases A <;> simp [Builtin.append_, run_underlying ht, sizeOf, typeInfo, hi, Builtin.lenOf, Builtin.firstCells, hnc, storeCells, loadCells, loadCellsFrom]
theorem wpList_spread_enc {ops : Array Oper} {rest : List Oper} {o : Oper} {a : Act} {Q : Exit → Act → World → Prop} {t : TypeId} {z : Value} {bytes : Nat} (ht : P.underlying t = some (.slice e))
    (hi : (P.info? e).map (fun i => (i.zero, i.size, i.bytes)) = some (some z, E.k, bytes)) (hz : z.cells.size = E.k) (hby : bytes ≤ 1000) (hgd : o.guard = none) (s x : Operand)
    (ho : o.op = .call { callee := .builtin .append, args := #[s, x], argTypes := #[t, t] })
    (B : Nat) (v u : Value) (l m : List α) (g : Nat) (hs : a.eval s = v) (hown : OwnR E w B e v l) (hx : a.eval x = u) (hm : SlR E w u g m) (hl : l.length + m.length < 1000000) (hB : B ≤ w.heap.size)
    (h : ∀ v' w', OwnR E w' B e v' (l ++ m) → w.grownBy w' v.ownBlock → Below B w w' → wpList P ops Q rest (a.put o.dst v') w') : wpList P ops Q (o :: rest) a w := by
  obtain ⟨i0, hi, hz0, hz1, hz2⟩ := info_parts hi
  rcases hm with ⟨rfl, A, c, rfl⟩ | ⟨oo, c, rfl, h1, h2, h3⟩
  · refine wpList_plain hgd fun _ hK => ?_
    have hr := run_append_empty (P := P) B t o.type i0 E.k ht hi v l.length _ hown A c
    unfold Oper.wp execOp
    simp only [ho, resolve, invoke, builtin, Sem.run_bind, Sem.run_pure, Result.andThen_ok, List.map_toArray, List.map_cons, List.map_nil, hs, hx, hr]
    refine hK _ _ (h v w (by rw [List.append_nil]; exact hown) ⟨rfl, rfl, rfl, Nat.le_refl _, fun _ _ _ => rfl⟩ (Below.refl _ _))
  · refine wpList_append_own _ hgd s x t ho B e i0 z E.k bytes ht hi hz0 hz1 hz2 hz E.pos v l.length _ hs hown ⟨g, oo, none⟩ m.length c (E.cells m) hx (E.cells_len m) ?_ ?_ (by unfold maxLen; omega) ?_ hB ?_
    · intro j y hj
      have hjl : j < m.length * E.k := by
        rw [← E.cells_len m]
        exact (List.getElem?_eq_some_iff.1 hj).1
      have hk := E.pos
      have hdiv : j / E.k < m.length := Nat.div_lt_of_lt_mul (by rw [Nat.mul_comm]; exact hjl)
      have hmod := Nat.mod_lt j hk
      have hdm : j / E.k * E.k + j % E.k = j := by rw [Nat.mul_comm]; exact Nat.div_add_mod j E.k
      have hc := h3 (j / E.k) hdiv (j % E.k) hmod
      rw [← E.cells_get m (j / E.k) (j % E.k) hdiv hmod, hdm, hj] at hc
      rw [← hc]
      have hadd : (⟨g, oo, none⟩ : Addr).add j = ⟨g, oo + j, none⟩ := by unfold Addr.add; split <;> simp_all
      rw [hadd, Nat.add_assoc, hdm]
    · intro y hy
      obtain ⟨x, hx, hy⟩ := List.mem_flatMap.1 hy
      exact E.one x y hy
    · have := Nat.mul_le_mul (show l.length + m.length ≤ 1000000 by omega) hby
      omega
    · intro v' w' h1 h2 _
      refine h v' w' ?_ h2 ⟨h2.os, h2.tape, h2.output, h2.size, fun k hk => h2.block k (by omega) (fun e => by have := hown.ge k e.symm; omega)⟩
      unfold OwnR
      rw [E.cells_append, List.length_append]
      exact h1
end
end Go.Proofs.Ytokbhiokcoldbaa
