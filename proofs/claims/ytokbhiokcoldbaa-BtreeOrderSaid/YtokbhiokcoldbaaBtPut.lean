/- Add of package btree. -/
import Derived.Test.YtokbhiokcoldbaaBtHas
namespace Go.Proofs.Ytokbhiokcoldbaa
open Go.RowKit

set_option maxRecDepth 100000 in
set_option maxHeartbeats 4000000 in
theorem bt_Add (w : World) (P : Nat → Prop) (p : Nat) (s : Bt.Tree) (x : Int) (h : BtF P w p s) (hO : s.OK) :
    Calls Try.prog 18 #[.pointer (some ⟨p, 0, none⟩), .int .i64 x] w (BtAns P p (errV (Bt.addErr s x)) (Bt.put s x) w) := by
  have HH := Lib.hid h
  have HHAS := Lib.hid (bt_Has w P p s x h hO)
  by_cases hx : 0 ≤ x ∧ x ≤ 1000
  · have hxd := decide_eq_true hx
    cases hb : Bt.has s.d s.t x with
    | true =>
      have he : Bt.addErr s x = 6 := by unfold Bt.addErr; rw [if_pos hx, if_pos hb]
      have hp : Bt.put s x = s := by unfold Bt.put; rw [if_neg (by rw [he]; decide)]
      rw [he, hp, errV_no (by decide)]
      rw [hb] at HHAS
      clear h hO hx he hp hb
      go_enter Try.func18, Try.ntmps18
      go_wp2_with (first
        | (go_at_call 36; (with_reducible refine useC (within_is x _ _ true _ hxd) ?_); rintro e w ⟨rfl, rfl⟩)
        | (go_at_call 15; (with_reducible refine useC HHAS.out ?_); rintro e w2 ⟨rfl, hf⟩; have HF2 := Lib.hid hf; clear hf))
      go_ret
      exact BtAns.none HH.out rfl HF2.out
    | false =>
      rw [hb] at HHAS
      by_cases hm : s.many = 60
      · have he : Bt.addErr s x = 4 := by unfold Bt.addErr; rw [if_pos hx, if_neg (by rw [hb]; decide), if_pos hm]
        have hp : Bt.put s x = s := by unfold Bt.put; rw [if_neg (by rw [he]; decide)]
        rw [he, hp, errV_no (by decide)]
        have HC : Hid (∀ W, Fr [] w W → W.cell? ⟨p, 1, none⟩ = some (.int .i64 60)) := fun W hW => by
          obtain ⟨r, F, hS⟩ := h
          have := (hS.keep hW).cells.2.1
          rw [hm] at this
          exact this
        clear h hO hx he hp hb hm
        go_enter Try.func18, Try.ntmps18
        go_wp2_with (first
          | (go_at_call 36; (with_reducible refine useC (within_is x _ _ true _ hxd) ?_); rintro e w ⟨rfl, rfl⟩)
          | (go_at_call 15; (with_reducible refine useC HHAS.out ?_); rintro e w2 ⟨rfl, hf⟩; have HF2 := Lib.hid hf; have c1 := HC.out w2 hf; clear hf))
        go_ret
        exact BtAns.none HH.out rfl HF2.out
      · have he : Bt.addErr s x = 0 := by unfold Bt.addErr; rw [if_pos hx, if_neg (by rw [hb]; decide), if_neg hm]
        rw [he, show errV 0 = .nilIface from rfl]
        obtain ⟨r, F, hS⟩ := h
        have hmn := hO.many
        have HS := Lib.hid hS
        have HC := Lib.hid (fun W (hW : Fr [] w W) => (hS.keep hW).cells)
        have HADD := Lib.hid (fun W (hW : Nd s.d W r s.t F) => bt_add s.d _ s.t hO.ok W r F x hW hS.nodup hO.up)
        have HE := Lib.hid he
        have hmb : ((s.many : Int) == 60) = false := beq_eq_false_iff_ne.2 (by omega)
        have hw : IntKind.i64.wrap ((s.many : Int) + 1) = (s.many : Int) + 1 := by rw [IntKind.wrap_i64]; omega
        have HR := Lib.hid (fun W (hW : Fr [] w W) w1 hw1 w2 e ha => bt_root (hS.keep hW) he hw1 (e := e) (w1 := w1) (w2 := w2) ha)
        have HND : Hid (∀ W, Fr [] w W → Nd s.d (W.setCell ⟨p, 1, none⟩ (.int .i64 ((s.many : Int) + 1))) r s.t F) := fun W hW => (hS.keep hW).nd.fr ((Fr.refl [p] W).setCell (.inl (by simp)) _) (fun y hy hm => by simp only [List.mem_singleton] at hy; subst hy; exact hS.np hm)
        have HFROM : Hid (∀ W w3, Fr [] w W → BtAns P p .nilIface (Bt.put s x) W (.returned .nilIface) w3 → BtAns P p .nilIface (Bt.put s x) w (.returned .nilIface) w3) := fun W w3 hW ⟨k1, k2, k3⟩ =>
          ⟨k1, k2.imp (fun y hy => hy.imp id (fun h => Nat.le_trans hW.size h)), ⟨k3.os.trans hW.os, k3.tape.trans hW.tape, k3.output.trans hW.output, Nat.le_trans hW.size k3.size, fun k hk hn => (k3.block k (Nat.lt_of_lt_of_le hk hW.size) hn).trans (hW.block k hk (by simp))⟩⟩
        clear hS hO hx he hb hm hmn HE
        generalize hmm : (s.many : Int) = M at *
        generalize Bt.put s x = R at *
        clear hmm
        go_enter Try.func18, Try.ntmps18
        go_wp2_with (first
          | (go_at_call 36; (with_reducible refine useC (within_is x _ _ true _ hxd) ?_); rintro e w ⟨rfl, rfl⟩)
          | (go_at_call 15; (with_reducible refine useC HHAS.out ?_); rintro e w2 ⟨rfl, hf⟩; have HF2 := Lib.hid hf; obtain ⟨c0, c1, cf⟩ := HC.out w2 hf; have hn2 := HND.out w2 hf; obtain ⟨w3, hw3⟩ : ∃ w3, w2.setCell ⟨p, 1, none⟩ (.int .i64 (M + 1)) = w3 := ⟨_, rfl⟩; rw [hw3] at hn2; have HA3 := Lib.hid (HADD.out w3 hn2); have HW3 := Lib.hid hw3; have c3 : w3.cell? ⟨p, 0, none⟩ = some (.pointer (some ⟨r, 0, none⟩)) := (by rw [← hw3]; simp [go_sem, c0]); clear hf hn2 hw3)
          | (have hi := HW3; rw [HW3.out]))
        refine useC HA3.out ?_
        intro e w4 ha
        rcases HR.out w2 HF2.out w3 HW3.out.symm w4 e ha with ⟨rfl, hA⟩ | ⟨u, b2, rfl, hp4, hA⟩
        · have HA := Lib.hid (HFROM.out _ _ HF2.out hA)
          clear ha hA
          go_wp2
          go_ret
          exact HA.out
        · have d0 : w4.cell? ⟨p, 0, none⟩ = some (.pointer (some ⟨r, 0, none⟩)) := by rw [cell_of_row w4 p _ _ _ _ hp4]; rfl
          have df := fun i => free_block hp4 i none
          have hpl := lt_of_heap hp4
          have hpl1 : p < w4.heap.size + 1 := by omega
          have hpl2 : p < w4.heap.size + 1 + 1 := by omega
          have HA := Lib.hid (fun w5 h5 => HFROM.out _ _ HF2.out (hA w5 h5))
          clear ha hA hp4
          go_wp2
          go_ret
          refine HA.out _ ?_
          rw [World.setCell_alloc_past, World.setCell_alloc_past, World.setCell_alloc_past]
          all_goals (first | exact hpl | (simp; omega))
  · have hxd := decide_eq_false hx
    have he : Bt.addErr s x = 1 := by unfold Bt.addErr; rw [if_neg hx]
    have hp : Bt.put s x = s := by unfold Bt.put; rw [if_neg (by rw [he]; decide)]
    rw [he, hp, errV_no (by decide)]
    clear h hO hx he hp
    go_enter Try.func18, Try.ntmps18
    go_wp2_with (go_at_call 36; (with_reducible refine useC (within_is x _ _ false _ hxd) ?_); rintro e w ⟨rfl, rfl⟩)
    go_ret
    exact BtAns.none HH.out rfl (Fr.refl _ _)
end Go.Proofs.Ytokbhiokcoldbaa
