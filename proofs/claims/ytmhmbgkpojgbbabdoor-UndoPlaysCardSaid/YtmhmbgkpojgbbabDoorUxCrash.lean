/- The document's answer for package undo: Crash, NewUndo. -/
import Derived.Test.YtmhmbgkpojgbbabDoorUxLeave
namespace Go.Proofs.YtmhmbgkpojgbbabDoor
open Go.RowKit

theorem UxV.form {G : Nat → Prop} {w : World} {v : Value} {d : Un.D} (hv : UxV G w v d) (hO : Un.OK d) : ∃ A1 c1 A2 c2 A3 c3, v = .agg #[.slice A1 8 c1, .slice A2 8 c2, .slice A3 d.was.length c3] := by
  obtain ⟨a, c, l, g1, g2, g3, rfl, -, h1, h2, h3⟩ := hv
  obtain ⟨A1, o1, c1, rfl, -, -, -⟩ := h1.form
  obtain ⟨A2, o2, c2, rfl, -, -, -⟩ := h2.form
  obtain ⟨A3, o3, c3, rfl, -⟩ := h3.form
  exact ⟨A1, c1, A2, c2, A3, c3, by rw [hO.blk, hO.busy]⟩
theorem Un.cntC_le (d : Un.D) : ∀ k, Un.cntC d k ≤ k
  | 0 => Nat.le_refl _
  | k + 1 => by
    have ih := Un.cntC_le d k
    unfold Un.cntC
    split <;> omega
theorem Un.runC_ok {d : Un.D} (h : Un.OK d) (k : Nat) (hk : k ≤ 20) : Un.OK (Un.runC d k) := (Un.crI h k hk).ok
set_option maxRecDepth 100000 in
set_option maxHeartbeats 1000000 in
theorem ux_Crash (w : World) (G : Nat → Prop) (v : Value) (d : Un.D) (hv : UxV G w v d) (hO : Un.OK d) (hG : ∀ k, w.heap.size ≤ k → G k) :
    Calls Tryd.prog 11 #[v] w (UxDn G (Un.crash d) (Un.cnt d.was) w) := by
  have hV := hv
  obtain ⟨A1, c1, A2, c2, A3, c3, rfl⟩ := hv.form hO
  obtain ⟨hsz, fA, y0, y1⟩ := ux_two w (.cells #[.slice A1 8 c1, .slice A2 8 c2, .slice A3 d.was.length c3] 28) (.cells #[.slice none 0 0, .slice none 0 0, .slice none 0 0] 28)
  have HCR := Lib.hid (Un.crash_run hO)
  have HOK := Lib.hid (Un.runC_ok hO)
  go_enter Tryd.func11, Tryd.ntmps11
  go_wp2_with fail
  generalize hW : ((w.alloc (.cells #[.slice A1 8 c1, .slice A2 8 c2, .slice A3 d.was.length c3] 28)).alloc (.cells #[.slice none 0 0, .slice none 0 0, .slice none 0 0] 28)) = W0 at *
  clear hW
  obtain ⟨X, hX⟩ : ∃ X, X = w.heap.size := ⟨_, rfl⟩
  rw [← hX] at hsz y0 y1 ⊢
  obtain ⟨X2, hX2⟩ : ∃ X2, X2 = X + 1 := ⟨_, rfl⟩
  rw [← hX2] at y1 ⊢
  have HU0 : Hid (UxW G w W0 X X2 (.slice A1 8 c1) (.slice A2 8 c2) (.slice A3 (Un.runC d 0).was.length c3) (Un.runC d 0)) := UxW.start hV hO hG fA y0 y1 (by omega) (by omega) (by omega)
  clear hX hX2 hV hv fA y0 y1 hsz hO hG
  go_loopw [4, 5] (fun n i wr => ∃ k : Nat, k ≤ 20 ∧ i = .int .i64 k ∧ n = .int .i64 (Un.cntC d k) ∧ ∃ A1 c1 A2 c2 A3 c3, Hid (UxW G w wr X X2 (.slice A1 8 c1) (.slice A2 8 c2) (.slice A3 (Un.runC d k).was.length c3) (Un.runC d k))) (fun _ i _ => 20 - (intOf i).toNat)
  case atStart => exact ⟨0, Nat.zero_le _, rfl, rfl, _, _, _, _, _, _, HU0⟩
  case round =>
    clear HU0
    obtain ⟨k, hk, rfl, rfl, A1, c1, A2, c2, A3, c3, hU⟩ := hrel
    obtain ⟨⟨b0, b1, b2⟩, hfx⟩ := hU.out.cells
    by_cases hlt : k < 20
    · have kI : (k : Int) < 20 := by omega
      have ht : Un.okT (k : Int) := by unfold Un.okT; omega
      have hrc : Un.lv true (Un.runC d k) k = Un.runC d (k + 1) := rfl
      have hcn : Un.cntC d (k + 1) = if (Un.runC d (k + 1)).was.length < (Un.runC d k).was.length then Un.cntC d k + 1 else Un.cntC d k := rfl
      have hlv := ux_Leave wr (fun g => G g ∧ g ≠ X ∧ g ≠ X2) _ (Un.runC d k) k true hU.out.val (HOK.out k hk) (fun g hg => hU.out.new hg)
      rw [hrc, show Un.turnErr (k : Int) = 0 from if_pos ht] at hlv
      have HLV := Lib.hid hlv
      have HO1 := Lib.hid (HOK.out (k + 1) hlt)
      have h60 := HO1.out.len
      have hcb : Un.cntC d k ≤ 20 := Nat.le_trans (Un.cntC_le d k) hk
      clear hlv ht hrc
      have hcl : (((Un.runC d (k + 1)).was.length : Int) < (Un.runC d k).was.length ∧ Hid (Un.cntC d (k + 1) = Un.cntC d k + 1)) ∨ (¬ ((Un.runC d (k + 1)).was.length : Int) < (Un.runC d k).was.length ∧ Hid (Un.cntC d (k + 1) = Un.cntC d k)) := by
        by_cases h : (Un.runC d (k + 1)).was.length < (Un.runC d k).was.length
        · exact .inl ⟨by omega, hcn.trans (if_pos h)⟩
        · exact .inr ⟨by omega, hcn.trans (if_neg h)⟩
      clear hcn
      generalize hy : Un.runC d (k + 1) = y at *
      generalize Un.runC d k = z at *
      generalize hm' : Un.cntC d (k + 1) = m' at *
      generalize Un.cntC d k = m at *
      have HY := Lib.hid hy
      have HM' := Lib.hid hm'
      clear hy hm'
      rcases hcl with ⟨hcl, HM⟩ | ⟨hcl, HM⟩
      all_goals
        go_wp2_with (first
          | (go_at_call 6; (with_reducible refine useC HLV.out ?_); rintro e w2 ⟨v2, rfl, hv2, hf2⟩; obtain ⟨A4, c4, A5, c5, A6, c6, rfl⟩ := hv2.form HO1.out; have HU2 := Lib.hid (hU.out.step hf2); have hu3 := hU.out.put hf2 hv2; obtain ⟨w3, hw3⟩ : ∃ x, x = (((w2.setCell ⟨X, 0, none⟩ (.slice A4 8 c4)).setCell ⟨X, 1, none⟩ (.slice A5 8 c5)).setCell ⟨X, 2, none⟩ (.slice A6 y.was.length c6)) := ⟨_, rfl⟩; rw [← hw3] at hu3; have HU3 := Lib.hid hu3; have HW3 := Lib.hid hw3; clear hv2 hf2 hw3 hu3 b0 b1 b2 hfx; obtain ⟨⟨b0, b1, b2⟩, hfx⟩ := HU2.out.cells)
          | (rw [← HW3.out]; clear HW3 b0 b1 b2 hfx; obtain ⟨⟨b0, b1, b2⟩, hfx⟩ := HU3.out.cells))
        go_roundw
        case rel => exact ⟨k + 1, by omega, by go_num, by rw [HM'.out, HM.out]; (try go_num), _, _, _, _, _, _, by rw [HY.out]; exact HU3⟩
        case measure => (simp [intOf]; try omega)
    · have kI : ¬ (k : Int) < 20 := by omega
      obtain rfl : k = 20 := by omega
      have HU8 := Lib.hid hU.out
      rw [HCR.out.1] at HU8
      rw [HCR.out.2]
      obtain ⟨o0, o1', o2'⟩ := UxX.cells HU8.out.out
      have hfo := fun i => free_block HU8.out.out i none
      clear hU hlt b0 b1 b2
      obtain ⟨⟨b0, b1, b2⟩, -⟩ := HU8.out.cells
      go_wp2
      exact bodyPost_ret (v := .tuple #[.agg #[.slice A1 8 c1, .slice A2 8 c2, .slice A3 (Un.crash d).was.length c3], .int .i64 (Un.cnt d.was)]) (ux_results Tryd.results11 rfl rfl (UxW.fin HU8.out).1) rfl ((UxW.fin HU8.out).2 _)
def reps (x : Int) (k : Nat) : List Int := List.replicate k x
theorem reps_succ (x : Int) (k : Nat) : reps x (k + 1) = reps x k ++ [x] := List.replicate_succ'
theorem ux_own_form {w : World} {B e : Nat} {v : Value} {xs : List Int} (h : Own w B e v xs) : ∃ A c, v = .slice A xs.length c := by
  obtain ⟨_, h2⟩ := h
  rcases h2 with ⟨rfl, hn⟩ | ⟨g, cap, cur, rfl, _⟩
  · exact ⟨none, 0, by rw [hn]⟩
  · exact ⟨_, cap, rfl⟩
/-- What the rounds of NewUndo know: the answer's place, the variable, two rows that grow. -/
structure UxN (w wr : World) (R X : Nat) (vo vn : Value) (a b : Nat) : Prop where
  res : UxX wr R (.slice none 0 0) (.slice none 0 0) (.slice none 0 0)
  box : UxX wr X vo vn (.slice none 0 0)
  rows : Rows_ wr (X + 1) [rI 3 vo (reps 0 a), rI 3 vn (reps (-1) b)]
  fr : Fr [] w wr
  ge : w.heap.size ≤ R
  rx : R < X
section
variable {w wr w' : World} {R X : Nat} {vo vn : Value} {a b : Nat}
theorem UxN.lt (h : UxN w wr R X vo vn a b) : X < wr.heap.size := lt_of_heap h.box
theorem UxN.pre0 (h : UxN w wr R X vo vn a b) {v' : Value} {n : Nat} (ho : Own w' (X + 1) 3 v' (reps 0 (a + 1))) (hg : wr.grownBy w' vo.ownBlock) (hm : Moved n vo v') (hn : wr.heap.size ≤ n) :
    UxX w' X vo vn (.slice none 0 0) ∧ UxN w (w'.setCell ⟨X, 0, none⟩ v') R X v' vn (a + 1) b := by
  have hge := h.ge
  have hrx := h.rx
  have hfg : Fr vo.ownBlock.toList wr w' := fr_grown hg
  have hno : ∀ x ∈ vo.ownBlock.toList, X + 1 ≤ x := fun x hx => by
    have := Row.ge (h.rows.p0) x (by simpa [rI] using hx)
    exact this.1
  have hn3 : ∀ x, x < X + 1 → x ∉ vo.ownBlock.toList := fun x hx hm => by have := hno x hm; omega
  have h1 := hfg.get h.box (hn3 _ (by omega))
  have hr := h.rows.push0 (r' := rI 3 v' (reps 0 (a + 1))) ho hg hm hn
  have hf : Fr [X] w' (w'.setCell ⟨X, 0, none⟩ v') := (Fr.refl _ _).setCell (.inl (by simp)) _
  exact ⟨h1, hf.get (hfg.get h.res (hn3 _ (by omega))) (by simp; omega), set_block h1 v', hr.fr hf (by simp), (h.fr.step hfg (fun x hx => .inr (by have := hno x hx; omega))).step hf (fun x hx => .inr (by simp only [List.mem_singleton] at hx; omega)), hge, hrx⟩
theorem UxN.pre1 (h : UxN w wr R X vo vn a b) {v' : Value} {n : Nat} (ho : Own w' (X + 1) 3 v' (reps (-1) (b + 1))) (hg : wr.grownBy w' vn.ownBlock) (hm : Moved n vn v') (hn : wr.heap.size ≤ n) :
    UxX w' X vo vn (.slice none 0 0) ∧ UxN w (w'.setCell ⟨X, 1, none⟩ v') R X vo v' a (b + 1) := by
  have hge := h.ge
  have hrx := h.rx
  have hfg : Fr vn.ownBlock.toList wr w' := fr_grown hg
  have hno : ∀ x ∈ vn.ownBlock.toList, X + 1 ≤ x := fun x hx => by
    have := Row.ge (h.rows.p1) x (by simpa [rI] using hx)
    exact this.1
  have hn3 : ∀ x, x < X + 1 → x ∉ vn.ownBlock.toList := fun x hx hm => by have := hno x hm; omega
  have h1 := hfg.get h.box (hn3 _ (by omega))
  have hr := h.rows.push1 (r' := rI 3 v' (reps (-1) (b + 1))) ho hg hm hn
  have hf : Fr [X] w' (w'.setCell ⟨X, 1, none⟩ v') := (Fr.refl _ _).setCell (.inl (by simp)) _
  exact ⟨h1, hf.get (hfg.get h.res (hn3 _ (by omega))) (by simp; omega), set_block h1 v', hr.fr hf (by simp), (h.fr.step hfg (fun x hx => .inr (by have := hno x hx; omega))).step hf (fun x hx => .inr (by simp only [List.mem_singleton] at hx; omega)), hge, hrx⟩
end
set_option maxRecDepth 100000 in
set_option maxHeartbeats 2000000 in
theorem ux_New (w : World) : Calls Tryd.prog 5 #[] w fun e w' => ∃ v, e = .returned v ∧ UxV (w.heap.size ≤ ·) w' v Un.new ∧ Fr [] w w' := by
  obtain ⟨hsz, fA, y0, y1⟩ := ux_two w (.cells #[.slice none 0 0, .slice none 0 0, .slice none 0 0] 28) (.cells #[.slice none 0 0, .slice none 0 0, .slice none 0 0] 28)
  have HN0 : Hid (UxN w ((w.alloc (.cells #[.slice none 0 0, .slice none 0 0, .slice none 0 0] 28)).alloc (.cells #[.slice none 0 0, .slice none 0 0, .slice none 0 0] 28)) w.heap.size (w.heap.size + 1) (.slice none 0 0) (.slice none 0 0) 0 0) :=
    ⟨y0, y1, ⟨fun r hr => by
      simp only [List.mem_cons, List.not_mem_nil, or_false] at hr
      rcases hr with rfl | rfl <;> exact World.ownsRow_nil _ _ _ _, by simp [rI, Apart.nil]⟩, fA, Nat.le_refl _, by omega⟩
  clear hsz fA y0 y1
  go_enter Tryd.func5, Tryd.ntmps5
  go_wp2_with fail
  revert HN0
  generalize ((w.alloc (.cells #[.slice none 0 0, .slice none 0 0, .slice none 0 0] 28)).alloc (.cells #[.slice none 0 0, .slice none 0 0, .slice none 0 0] 28)) = w1
  intro HN0
  have hXR : w.heap.size < w.heap.size + 1 := by omega
  generalize w.heap.size + 1 = X at *
  generalize w.heap.size = R at *
  go_loopw [2] (fun i wr => ∃ k : Nat, k ≤ 8 ∧ i = .int .i64 k ∧ ∃ vo vn, Hid (UxN w wr R X vo vn k k)) (fun i _ => 8 - (intOf i).toNat)
  case atStart => exact ⟨0, Nat.zero_le _, rfl, _, _, HN0⟩
  case round =>
    clear HN0
    obtain ⟨k, hk, rfl, vo, vn, hN⟩ := hrel
    obtain ⟨A2, c2, hvo⟩ := ux_own_form hN.out.rows.p0
    obtain ⟨A3, c3, hvn⟩ := ux_own_form hN.out.rows.p1
    have HO := Lib.hid hN.out.rows.p0
    have HLN : Hid (∀ x k, (reps x k).length = k) := fun x k => List.length_replicate
    rw [HLN.out] at hvo hvn
    subst hvo hvn
    obtain ⟨q0, q1, q2⟩ := hN.out.box.cells
    have hfz := free_block hN.out.box 0 none
    have hlt3 := hN.out.lt
    by_cases hlt : k < 8
    · have kI : (k : Int) < 8 := by omega
      have HNS := Lib.hid (reps_succ 0 k)
      have HNT := Lib.hid (reps_succ (-1) k)
      go_wp2_with (first
        | (at_builtin; refine wpList_push_int2 (wr := wr) Tryd.intT rfl _ _ rfl (X + 1) (.slice A2 k c2) (reps 0 k) rfl HO.out rfl (by rw [HLN.out]; omega) (by omega) ?_; intro v' w5 h1 h2 h3; rw [← HNS.out] at h1; obtain ⟨hx, hN2⟩ := hN.out.pre0 h1 h2 h3 (by omega); obtain ⟨A4, c4, hv4⟩ := ux_own_form h1; rw [HLN.out] at hv4; subst hv4; have HN2 := Lib.hid hN2; obtain ⟨p0, p1, p2⟩ := hx.cells; have hfz2 := free_block hx 0 none; have hl5 := lt_of_heap hx; clear h1 h2 h3 hN2 hx HO q0 q1 q2 hfz)
        | (refine wpList_store_one rfl 25 _ _ rfl X 0 _ _ rfl rfl (by kernel_rfl) rfl rfl p0 hfz2 ?_; intro w7 hw7; have HN4 : Hid (UxN w w7 R X (.slice A4 (k + 1) c4) (.slice A3 k c3) (k + 1) k) := (by rw [hw7]; exact HN2.out); clear hw7 p0 p1 p2 hfz2 hl5; obtain ⟨q0, q1, q2⟩ := HN4.out.box.cells; have hfz := fun i => free_block HN4.out.box i none; have hl5 := lt_of_heap HN4.out.box; have HO2 := Lib.hid HN4.out.rows.p1)
        | (at_builtin; refine wpList_push_int2 (wr := w7) Tryd.intT rfl _ _ rfl (X + 1) (.slice A3 k c3) (reps (-1) k) rfl HO2.out rfl (by rw [HLN.out]; omega) (by have := HN4.out.lt; omega) ?_; intro v' w6 h1 h2 h3; rw [← HNT.out] at h1; obtain ⟨hx, hN3⟩ := HN4.out.pre1 h1 h2 h3 (by omega); obtain ⟨A5, c5, hv5⟩ := ux_own_form h1; rw [HLN.out] at hv5; subst hv5; have HN3 := Lib.hid hN3; obtain ⟨p0', p1', p2'⟩ := hx.cells; have hfz3 := free_block hx 1 none; have hl6 := lt_of_heap hx; clear h1 h2 h3 hN3 hx HO2))
      go_roundw
      case rel => exact ⟨k + 1, by omega, by go_num, _, _, HN3⟩
      case measure => (simp [intOf]; try omega)
    · obtain rfl : k = 8 := by omega
      have kI : ¬ ((8 : Nat) : Int) < 8 := by decide
      have hfr := fun i => free_block hN.out.res i none
      obtain ⟨o0, o1, o2⟩ := hN.out.res.cells
      clear hlt
      go_wp2
      have hge := hN.out.ge
      have hrx := hN.out.rx
      have hf : Fr [R] wr (((wr.setCell ⟨R, 0, none⟩ (.slice A2 8 c2)).setCell ⟨R, 1, none⟩ (.slice A3 8 c3)).setCell ⟨R, 2, none⟩ (.slice none 0 0)) := (((Fr.refl _ wr).setCell (.inl (by simp)) _).setCell (.inl (by simp)) _).setCell (.inl (by simp)) _
      have hE : UxX (((wr.setCell ⟨R, 0, none⟩ (.slice A2 8 c2)).setCell ⟨R, 1, none⟩ (.slice A3 8 c3)).setCell ⟨R, 2, none⟩ (.slice none 0 0)) R (.slice A2 8 c2) (.slice A3 8 c3) (.slice none 0 0) := by
        have h1 : UxX (wr.setCell ⟨R, 0, none⟩ (.slice A2 8 c2)) R (.slice A2 8 c2) (.slice none 0 0) (.slice none 0 0) := set_block hN.out.res _
        have h2 : UxX ((wr.setCell ⟨R, 0, none⟩ (.slice A2 8 c2)).setCell ⟨R, 1, none⟩ (.slice A3 8 c3)) R (.slice A2 8 c2) (.slice A3 8 c3) (.slice none 0 0) := set_block h1 _
        exact set_block h2 _
      have r0 : Own wr (X + 1) 3 (.slice A2 8 c2) (reps 0 8) := by
        have := hN.out.rows.p0
        exact this
      have r1 : Own wr (X + 1) 3 (.slice A3 8 c3) (reps (-1) 8) := by
        have := hN.out.rows.p1
        exact this
      obtain ⟨g2, e2, s2⟩ := r0.sl
      obtain ⟨g3, e3, s3⟩ := r1.sl
      have e2 := e2.resolve_right (by decide)
      have e3 := e3.resolve_right (by decide)
      exact bodyPost_ret (v := .agg #[.slice A2 8 c2, .slice A3 8 c3, .slice none 0 0]) (by simp [results, Tryd.results5, asAddr, Sem.run_bind, hE.load]) rfl
        ⟨_, rfl, ⟨_, _, _, g2, g3, g2, rfl, ⟨by omega, by omega, by omega⟩, s2.fr hf (by simp; omega), s3.fr hf (by simp; omega), .inl ⟨rfl, _, _, rfl⟩⟩, hN.out.fr.step hf (fun x hx => .inr (by simp only [List.mem_singleton] at hx; omega))⟩
end Go.Proofs.YtmhmbgkpojgbbabDoor
