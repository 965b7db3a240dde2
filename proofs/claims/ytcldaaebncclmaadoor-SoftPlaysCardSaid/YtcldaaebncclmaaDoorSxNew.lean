/- The document's answer for package soft: NewSoft. -/
import Derived.Test.YtcldaaebncclmaaDoorSxRef
import Derived.Test.YtcldaaebncclmaaDoorOwn2
namespace Go.Proofs.YtcldaaebncclmaaDoor
open Go.RowKit

def sreps (x : Int) (k : Nat) : List Int := List.replicate k x
theorem sreps_succ (x : Int) (k : Nat) : sreps x (k + 1) = sreps x k ++ [x] := List.replicate_succ'
theorem sx_own_form {w : World} {B e : Nat} {v : Value} {xs : List Int} (h : Own w B e v xs) : ∃ A c, v = .slice A xs.length c := by
  obtain ⟨_, h2⟩ := h
  rcases h2 with ⟨rfl, hn⟩ | ⟨g, cap, cur, rfl, _⟩
  · exact ⟨none, 0, by rw [hn]⟩
  · exact ⟨_, cap, rfl⟩
/-- What the rounds of NewSoft know: the answer's place, the variable, two rows that grow. -/
structure SxN (w wr : World) (R X : Nat) (vo vn : Value) (a b : Nat) : Prop where
  res : SxX wr R (.slice none 0 0) (.slice none 0 0) (.slice none 0 0) (.slice none 0 0)
  box : SxX wr X vo vn (.slice none 0 0) (.slice none 0 0)
  rows : Rows_ wr (X + 1) [rI 3 vo (sreps 0 a), rI 3 vn (sreps (-1) b)]
  fr : Fr [] w wr
  ge : w.heap.size ≤ R
  rx : R < X
section
variable {w wr w' : World} {R X : Nat} {vo vn : Value} {a b : Nat}
theorem SxN.lt (h : SxN w wr R X vo vn a b) : X < wr.heap.size := lt_of_heap h.box
theorem SxN.pre0 (h : SxN w wr R X vo vn a b) {v' : Value} {n : Nat} (ho : Own w' (X + 1) 3 v' (sreps 0 (a + 1))) (hg : wr.grownBy w' vo.ownBlock) (hm : Moved n vo v') (hn : wr.heap.size ≤ n) :
    SxX w' X vo vn (.slice none 0 0) (.slice none 0 0) ∧ SxN w (w'.setCell ⟨X, 0, none⟩ v') R X v' vn (a + 1) b := by
  have hge := h.ge
  have hrx := h.rx
  have hfg : Fr vo.ownBlock.toList wr w' := fr_grown hg
  have hno : ∀ x ∈ vo.ownBlock.toList, X + 1 ≤ x := fun x hx => by
    have := Row.ge (h.rows.p0) x (by simpa [rI] using hx)
    exact this.1
  have hn3 : ∀ x, x < X + 1 → x ∉ vo.ownBlock.toList := fun x hx hm => by have := hno x hm; omega
  have h1 := hfg.get h.box (hn3 _ (by omega))
  have hr := h.rows.push0 (r' := rI 3 v' (sreps 0 (a + 1))) ho hg hm hn
  have hf : Fr [X] w' (w'.setCell ⟨X, 0, none⟩ v') := (Fr.refl _ _).setCell (.inl (by simp)) _
  exact ⟨h1, hf.get (hfg.get h.res (hn3 _ (by omega))) (by simp; omega), set_block h1 v', hr.fr hf (by simp), (h.fr.step hfg (fun x hx => .inr (by have := hno x hx; omega))).step hf (fun x hx => .inr (by simp only [List.mem_singleton] at hx; omega)), hge, hrx⟩
theorem SxN.pre1 (h : SxN w wr R X vo vn a b) {v' : Value} {n : Nat} (ho : Own w' (X + 1) 3 v' (sreps (-1) (b + 1))) (hg : wr.grownBy w' vn.ownBlock) (hm : Moved n vn v') (hn : wr.heap.size ≤ n) :
    SxX w' X vo vn (.slice none 0 0) (.slice none 0 0) ∧ SxN w (w'.setCell ⟨X, 1, none⟩ v') R X vo v' a (b + 1) := by
  have hge := h.ge
  have hrx := h.rx
  have hfg : Fr vn.ownBlock.toList wr w' := fr_grown hg
  have hno : ∀ x ∈ vn.ownBlock.toList, X + 1 ≤ x := fun x hx => by
    have := Row.ge (h.rows.p1) x (by simpa [rI] using hx)
    exact this.1
  have hn3 : ∀ x, x < X + 1 → x ∉ vn.ownBlock.toList := fun x hx hm => by have := hno x hm; omega
  have h1 := hfg.get h.box (hn3 _ (by omega))
  have hr := h.rows.push1 (r' := rI 3 v' (sreps (-1) (b + 1))) ho hg hm hn
  have hf : Fr [X] w' (w'.setCell ⟨X, 1, none⟩ v') := (Fr.refl _ _).setCell (.inl (by simp)) _
  exact ⟨h1, hf.get (hfg.get h.res (hn3 _ (by omega))) (by simp; omega), set_block h1 v', hr.fr hf (by simp), (h.fr.step hfg (fun x hx => .inr (by have := hno x hx; omega))).step hf (fun x hx => .inr (by simp only [List.mem_singleton] at hx; omega)), hge, hrx⟩
end
set_option maxRecDepth 100000 in
set_option maxHeartbeats 2000000 in
theorem sx_New (w : World) : Calls Tryd.prog 19 #[] w fun e w' => ∃ v, e = .returned v ∧ SxV (w.heap.size ≤ ·) w' v (So4.of So.new) ∧ Fr [] w w' := by
  obtain ⟨hsz, fA, y0, y1⟩ := sx_two w (.cells #[.slice none 0 0, .slice none 0 0, .slice none 0 0, .slice none 0 0] 50) (.cells #[.slice none 0 0, .slice none 0 0, .slice none 0 0, .slice none 0 0] 50)
  have HN0 : Hid (SxN w ((w.alloc (.cells #[.slice none 0 0, .slice none 0 0, .slice none 0 0, .slice none 0 0] 50)).alloc (.cells #[.slice none 0 0, .slice none 0 0, .slice none 0 0, .slice none 0 0] 50)) w.heap.size (w.heap.size + 1) (.slice none 0 0) (.slice none 0 0) 0 0) :=
    ⟨y0, y1, ⟨fun r hr => by
      simp only [List.mem_cons, List.not_mem_nil, or_false] at hr
      rcases hr with rfl | rfl <;> exact World.ownsRow_nil _ _ _ _, by simp [rI, Apart.nil]⟩, fA, Nat.le_refl _, by omega⟩
  have HSN : Hid (So4.of So.new = ⟨sreps 0 8, sreps (-1) 12, sreps 0 8, sreps (-1) 12⟩) := rfl
  generalize So.new = Z at *
  clear hsz fA y0 y1
  go_enter Tryd.func19, Tryd.ntmps19
  go_wp2_with fail
  revert HN0
  generalize ((w.alloc (.cells #[.slice none 0 0, .slice none 0 0, .slice none 0 0, .slice none 0 0] 50)).alloc (.cells #[.slice none 0 0, .slice none 0 0, .slice none 0 0, .slice none 0 0] 50)) = w1
  intro HN0
  have hXR : w.heap.size < w.heap.size + 1 := by omega
  generalize w.heap.size + 1 = X at *
  generalize w.heap.size = R at *
  have HLN : Hid (∀ x k, (sreps x k).length = k) := fun x k => List.length_replicate
  go_loopw [2] (fun i wr => ∃ k : Nat, k ≤ 8 ∧ i = .int .i64 k ∧ ∃ vo, Hid (SxN w wr R X vo (.slice none 0 0) k 0)) (fun i _ => 8 - (intOf i).toNat)
  case atStart => exact ⟨0, Nat.zero_le _, rfl, _, HN0⟩
  case round =>
    clear HN0
    obtain ⟨k, hk, rfl, vo, hN⟩ := hrel
    obtain ⟨A2, c2, hvo⟩ := sx_own_form hN.out.rows.p0
    have HO := Lib.hid hN.out.rows.p0
    rw [HLN.out] at hvo
    subst hvo
    obtain ⟨q0, q1, q2, q3⟩ := hN.out.box.cells
    have hfz := free_block hN.out.box 0 none
    have hlt3 := hN.out.lt
    by_cases hlt : k < 8
    · have kI : (k : Int) < 8 := by omega
      have HNS := Lib.hid (sreps_succ 0 k)
      go_wp2_with (first
        | (at_builtin; refine wpList_push_int2 (wr := wr) Tryd.intT rfl _ _ rfl (X + 1) (.slice A2 k c2) (sreps 0 k) rfl HO.out rfl (by rw [HLN.out]; omega) (by omega) ?_; intro v' w5 h1 h2 h3; rw [← HNS.out] at h1; obtain ⟨hx, hN2⟩ := hN.out.pre0 h1 h2 h3 (by omega); obtain ⟨A4, c4, hv4⟩ := sx_own_form h1; rw [HLN.out] at hv4; subst hv4; have HN2 := Lib.hid hN2; obtain ⟨p0, p1, p2, p3⟩ := hx.cells; have hfz2 := fun i => free_block hx i none; have hl5 := lt_of_heap hx; clear h1 h2 h3 hN2 hx HO q0 q1 q2 q3 hfz))
      go_roundw
      case rel => exact ⟨k + 1, by omega, by go_num, _, HN2⟩
      case measure => (simp [intOf]; try omega)
    · obtain rfl : k = 8 := by omega
      have kI : ¬ ((8 : Nat) : Int) < 8 := by decide
      have HV : Hid (SxN w wr R X (.slice A2 8 c2) (.slice none 0 0) 8 0) := hN
      clear hN hlt hfz HO
      go_wp2_with fail
      go_loopw [3] (fun i wr => ∃ k : Nat, k ≤ 12 ∧ i = .int .i64 k ∧ ∃ vn, Hid (SxN w wr R X (.slice A2 8 c2) vn 8 k)) (fun i _ => 12 - (intOf i).toNat)
      case atStart => exact ⟨0, Nat.zero_le _, rfl, _, HV⟩
      case round =>
        clear HV q0 q1 q2 q3 hlt3
        obtain ⟨k, hk, rfl, vn, hN⟩ := hrel
        obtain ⟨A3, c3, hvn⟩ := sx_own_form hN.out.rows.p1
        have HO := Lib.hid hN.out.rows.p1
        rw [HLN.out] at hvn
        subst hvn
        obtain ⟨q0, q1, q2, q3⟩ := hN.out.box.cells
        have hlt3 := hN.out.lt
        by_cases hlt : k < 12
        · have kI : (k : Int) < 12 := by omega
          have HNS := Lib.hid (sreps_succ (-1) k)
          have hfz := free_block hN.out.box 1 none
          go_wp2_with (first
            | (at_builtin; refine wpList_push_int2 (wr := wr) Tryd.intT rfl _ _ rfl (X + 1) (.slice A3 k c3) (sreps (-1) k) rfl HO.out rfl (by rw [HLN.out]; omega) (by omega) ?_; intro v' w5 h1 h2 h3; rw [← HNS.out] at h1; obtain ⟨hx, hN2⟩ := hN.out.pre1 h1 h2 h3 (by omega); obtain ⟨A4, c4, hv4⟩ := sx_own_form h1; rw [HLN.out] at hv4; subst hv4; have HN2 := Lib.hid hN2; obtain ⟨p0, p1, p2, p3⟩ := hx.cells; have hfz2 := fun i => free_block hx i none; have hl5 := lt_of_heap hx; clear h1 h2 h3 hN2 hx HO q0 q1 q2 q3 hfz))
          go_roundw
          case rel => exact ⟨k + 1, by omega, by go_num, _, HN2⟩
          case measure => (simp [intOf]; try omega)
        · obtain rfl : k = 12 := by omega
          have kI : ¬ ((12 : Nat) : Int) < 12 := by decide
          have hfz := fun i => free_block hN.out.box i none
          have hge := hN.out.ge
          have hrx := hN.out.rx
          have r0 : Own wr (X + 1) 3 (.slice A2 8 c2) (sreps 0 8) := hN.out.rows.p0
          have r1 : Own wr (X + 1) 3 (.slice A3 12 c3) (sreps (-1) 12) := hN.out.rows.p1
          obtain ⟨g2, e2, s2⟩ := r0.sl
          obtain ⟨g3, e3, s3⟩ := r1.sl
          clear r0 r1
          have e2 := e2.resolve_right (by decide)
          have e3 := e3.resolve_right (by decide)
          have hx1 : SxX (wr.setCell ⟨X, 2, none⟩ (.slice A2 8 c2)) X (.slice A2 8 c2) (.slice A3 12 c3) (.slice A2 8 c2) (.slice none 0 0) := set_block hN.out.box _
          have hf1 : Fr [X] wr (wr.setCell ⟨X, 2, none⟩ (.slice A2 8 c2)) := (Fr.refl _ _).setCell (.inl (by simp)) _
          obtain ⟨w5, hw5⟩ : ∃ z, z = wr.setCell ⟨X, 2, none⟩ (.slice A2 8 c2) := ⟨_, rfl⟩
          rw [← hw5] at hx1 hf1
          have hx2 : SxX (w5.setCell ⟨X, 3, none⟩ (.slice A3 12 c3)) X (.slice A2 8 c2) (.slice A3 12 c3) (.slice A2 8 c2) (.slice A3 12 c3) := set_block hx1 _
          have hf2 : Fr [X] wr (w5.setCell ⟨X, 3, none⟩ (.slice A3 12 c3)) := hf1.setCell (.inl (by simp)) _
          obtain ⟨w6, hw6⟩ : ∃ z, z = w5.setCell ⟨X, 3, none⟩ (.slice A3 12 c3) := ⟨_, rfl⟩
          rw [← hw6] at hx2 hf2
          have hr6 : SxX w6 R (.slice none 0 0) (.slice none 0 0) (.slice none 0 0) (.slice none 0 0) := hf2.get hN.out.res (by simp; omega)
          obtain ⟨k1, k2⟩ := sx_store w6 R (.slice A2 8 c2) (.slice A3 12 c3) (.slice A2 8 c2) (.slice A3 12 c3) _ _ _ _ hr6
          have HX1 := Lib.hid hx1
          have HX2 := Lib.hid hx2
          have HR6 := Lib.hid hr6
          have HF2 := Lib.hid hf2
          have HK1 := Lib.hid k1
          have HK2 := Lib.hid k2
          have HW5 := Lib.hid hw5
          have HW6 := Lib.hid hw6
          have HS2 : Hid (Sl wr (.slice A2 8 c2) g2 (sreps 0 8)) := s2
          have HS3 : Hid (Sl wr (.slice A3 12 c3) g3 (sreps (-1) 12)) := s3
          clear hx1 hx2 hr6 hf1 hf2 k1 k2 hw5 hw6 s2 s3 HO hlt
          go_wp2_with (first
            | (rw [← HW5.out]; clear HW5 q0 q1 q2 q3 hfz; obtain ⟨q0, q1, q2, q3⟩ := HX1.out.cells; have hfz := fun i => free_block HX1.out i none)
            | (rw [← HW6.out]; clear HW6 q0 q1 q2 q3 hfz; obtain ⟨q0, q1, q2, q3⟩ := HX2.out.cells; have hfz := fun i => free_block HX2.out i none; obtain ⟨o0, o1, o2, o3⟩ := HR6.out.cells; have hfr := fun i => free_block HR6.out i none))
          rw [HSN.out]
          have t2 := (HS2.out.fr HF2.out (by simp; omega)).fr HK2.out (by simp; omega)
          have t3 := (HS3.out.fr HF2.out (by simp; omega)).fr HK2.out (by simp; omega)
          have hE := HK1.out
          exact bodyPost_ret (v := .agg #[.slice A2 8 c2, .slice A3 12 c3, .slice A2 8 c2, .slice A3 12 c3]) (by simp [results, Tryd.results19, asAddr, Sem.run_bind, hE.load]) rfl
            ⟨_, rfl, ⟨_, _, _, _, g2, g3, g2, g3, rfl, ⟨by omega, by omega, by omega, by omega⟩, t2, t3, t2, t3⟩, (hN.out.fr.step HF2.out (fun x hx => .inr (by simp only [List.mem_singleton] at hx; omega))).step HK2.out (fun x hx => .inr (by simp only [List.mem_singleton] at hx; omega))⟩
end Go.Proofs.YtcldaaebncclmaaDoor
