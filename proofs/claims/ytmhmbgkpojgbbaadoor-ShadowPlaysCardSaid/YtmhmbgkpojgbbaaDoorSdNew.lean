/- The document's answer for package shadow: NewShadow. -/
import Derived.Test.YtmhmbgkpojgbbaaDoorSdWrite
namespace Go.Proofs.YtmhmbgkpojgbbaaDoor
open Go.RowKit

def negs (k : Nat) : List Int := List.replicate k (-1)
theorem negs_succ (k : Nat) : negs (k + 1) = negs k ++ [-1] := List.replicate_succ'
/-- What the rounds know: the answer's place, the struct behind it, its slots, two rows that grow. -/
structure SdN (w wr : World) (R S1 X : Nat) (vo vn : Value) (a b : Nat) : Prop where
  res : SdX wr R (.slice none 0 0) (.slice none 0 0) (.slice none 0 0)
  box : SdX wr X (.slice (some ⟨S1, 0, none⟩) 16 16) vo vn
  slot : Sl wr (.slice (some ⟨S1, 0, none⟩) 16 16) S1 (List.replicate 16 0)
  rows : Rows_ wr (X + 1) [rI 3 vo (negs a), rI 3 vn (negs b)]
  fr : Fr [] w wr
  ge : w.heap.size ≤ R
  rs : R < S1
  sx : S1 < X
section
variable {w wr w' : World} {R S1 X : Nat} {vo vn : Value} {a b : Nat}
theorem SdN.lt (h : SdN w wr R S1 X vo vn a b) : X < wr.heap.size := lt_of_heap h.box
theorem SdN.step (h : SdN w wr R S1 X vo vn a b) (hf : Fr [] wr w') : SdN w w' R S1 X vo vn a b :=
  ⟨hf.get h.res (by simp), hf.get h.box (by simp), h.slot.fr hf (by simp), h.rows.fr hf (by simp), h.fr.trans hf, h.ge, h.rs, h.sx⟩
theorem SdN.pre0 (h : SdN w wr R S1 X vo vn a b) {v' : Value} {n : Nat} (ho : Own w' (X + 1) 3 v' (negs (a + 1))) (hg : wr.grownBy w' vo.ownBlock) (hm : Moved n vo v') (hn : wr.heap.size ≤ n) :
    SdX w' X (.slice (some ⟨S1, 0, none⟩) 16 16) vo vn ∧ SdN w (w'.setCell ⟨X, 1, none⟩ v') R S1 X v' vn (a + 1) b := by
  have hge := h.ge
  have hrs := h.rs
  have hsx := h.sx
  have hfg : Fr vo.ownBlock.toList wr w' := fr_grown hg
  have hno : ∀ x ∈ vo.ownBlock.toList, X + 1 ≤ x := fun x hx => by
    have := Row.ge (h.rows.p0) x (by simpa [rI] using hx)
    exact this.1
  have hn3 : ∀ x, x < X + 1 → x ∉ vo.ownBlock.toList := fun x hx hm => by have := hno x hm; omega
  have h1 := hfg.get h.box (hn3 _ (by omega))
  have hr := h.rows.push0 (r' := rI 3 v' (negs (a + 1))) ho hg hm hn
  have hf : Fr [X] w' (w'.setCell ⟨X, 1, none⟩ v') := (Fr.refl _ _).setCell (.inl (by simp)) _
  exact ⟨h1, hf.get (hfg.get h.res (hn3 _ (by omega))) (by simp; omega), set_block h1 v', (h.slot.fr hfg (hn3 _ (by omega))).fr hf (by simp; omega), hr.fr hf (by simp), (h.fr.step hfg (fun x hx => .inr (by have := hno x hx; omega))).step hf (fun x hx => .inr (by simp only [List.mem_singleton] at hx; omega)), hge, hrs, hsx⟩
theorem SdN.pre1 (h : SdN w wr R S1 X vo vn a b) {v' : Value} {n : Nat} (ho : Own w' (X + 1) 3 v' (negs (b + 1))) (hg : wr.grownBy w' vn.ownBlock) (hm : Moved n vn v') (hn : wr.heap.size ≤ n) :
    SdX w' X (.slice (some ⟨S1, 0, none⟩) 16 16) vo vn ∧ SdN w (w'.setCell ⟨X, 2, none⟩ v') R S1 X vo v' a (b + 1) := by
  have hge := h.ge
  have hrs := h.rs
  have hsx := h.sx
  have hfg : Fr vn.ownBlock.toList wr w' := fr_grown hg
  have hno : ∀ x ∈ vn.ownBlock.toList, X + 1 ≤ x := fun x hx => by
    have := Row.ge (h.rows.p1) x (by simpa [rI] using hx)
    exact this.1
  have hn3 : ∀ x, x < X + 1 → x ∉ vn.ownBlock.toList := fun x hx hm => by have := hno x hm; omega
  have h1 := hfg.get h.box (hn3 _ (by omega))
  have hr := h.rows.push1 (r' := rI 3 v' (negs (b + 1))) ho hg hm hn
  have hf : Fr [X] w' (w'.setCell ⟨X, 2, none⟩ v') := (Fr.refl _ _).setCell (.inl (by simp)) _
  exact ⟨h1, hf.get (hfg.get h.res (hn3 _ (by omega))) (by simp; omega), set_block h1 v', (h.slot.fr hfg (hn3 _ (by omega))).fr hf (by simp; omega), hr.fr hf (by simp), (h.fr.step hfg (fun x hx => .inr (by have := hno x hx; omega))).step hf (fun x hx => .inr (by simp only [List.mem_singleton] at hx; omega)), hge, hrs, hsx⟩
end
theorem own_form {w : World} {B e : Nat} {v : Value} {xs : List Int} (h : Own w B e v xs) : ∃ A c, v = .slice A xs.length c := by
  obtain ⟨_, h2⟩ := h
  rcases h2 with ⟨rfl, hn⟩ | ⟨g, cap, cur, rfl, _⟩
  · exact ⟨none, 0, by rw [hn]⟩
  · exact ⟨_, cap, rfl⟩
set_option maxRecDepth 100000 in
set_option maxHeartbeats 2000000 in
theorem sd_New (w : World) : Calls Tryd.prog 7 #[] w fun e w' => ∃ v, e = .returned v ∧ SdV (w.heap.size ≤ ·) w' v Sh.new ∧ Fr [] w w' := by
  have h16 := mk_z 16 (by decide) 16 rfl
  have HN0 : Hid (SdN w (((w.alloc (.cells #[.slice none 0 0, .slice none 0 0, .slice none 0 0] 27)).alloc (.cells (mkz 16) 3)).alloc (.cells #[.slice (some ⟨w.heap.size + 1, 0, none⟩) 16 16, .slice none 0 0, .slice none 0 0] 27)) w.heap.size (w.heap.size + 1) (w.heap.size + 1 + 1) (.slice none 0 0) (.slice none 0 0) 0 0) := by
    have s1 : (w.alloc (.cells #[.slice none 0 0, .slice none 0 0, .slice none 0 0] 27)).heap.size = w.heap.size + 1 := by simp
    have s2 : ((w.alloc (.cells #[.slice none 0 0, .slice none 0 0, .slice none 0 0] 27)).alloc (.cells (mkz 16) 3)).heap.size = w.heap.size + 1 + 1 := by simp
    have h1 := heap_alloc_new ((w.alloc (.cells #[.slice none 0 0, .slice none 0 0, .slice none 0 0] 27)).alloc (.cells (mkz 16) 3)) (.cells #[.slice (some ⟨w.heap.size + 1, 0, none⟩) 16 16, .slice none 0 0, .slice none 0 0] 27)
    rw [s2] at h1
    have h2 := mkz_sl (w.alloc (.cells #[.slice none 0 0, .slice none 0 0, .slice none 0 0] 27)) 16 (by decide) ((Fr.refl [] _).alloc (.cells #[.slice (some ⟨w.heap.size + 1, 0, none⟩) 16 16, .slice none 0 0, .slice none 0 0] 27))
    rw [s1] at h2
    exact ⟨(((Fr.refl [] _).alloc _).alloc _).get (heap_alloc_new w _) (by simp), h1, h2, ⟨fun r hr => by
      simp only [List.mem_cons, List.not_mem_nil, or_false] at hr
      rcases hr with rfl | rfl <;> exact World.ownsRow_nil _ _ _ _, by simp [rI, Apart.nil]⟩, (((Fr.refl _ _).alloc _).alloc _).alloc _, Nat.le_refl _, by omega, by omega⟩
  go_enter Tryd.func7, Tryd.ntmps7
  go_wp2
  revert HN0
  generalize (((w.alloc (.cells #[.slice none 0 0, .slice none 0 0, .slice none 0 0] 27)).alloc (.cells (mkz 16) 3)).alloc (.cells #[.slice (some ⟨w.heap.size + 1, 0, none⟩) 16 16, .slice none 0 0, .slice none 0 0] 27)) = w1
  intro HN0
  have hXR : w.heap.size < w.heap.size + 1 + 1 := by omega
  generalize w.heap.size + 1 + 1 = X at *
  generalize w.heap.size + 1 = S1 at *
  generalize w.heap.size = R at *
  go_loopw [2] (fun i wr => ∃ k : Nat, k ≤ 8 ∧ i = .int .i64 k ∧ ∃ vo vn, Hid (SdN w wr R S1 X vo vn k k)) (fun i _ => 8 - (intOf i).toNat)
  case atStart => exact ⟨0, Nat.zero_le _, rfl, _, _, HN0⟩
  case round =>
    clear HN0
    obtain ⟨k, hk, rfl, vo, vn, hN⟩ := hrel
    obtain ⟨A2, c2, hvo⟩ := own_form hN.out.rows.p0
    obtain ⟨A3, c3, hvn⟩ := own_form hN.out.rows.p1
    have HO := Lib.hid hN.out.rows.p0
    have HLN : Hid (∀ k, (negs k).length = k) := fun k => List.length_replicate
    rw [HLN.out] at hvo hvn
    subst hvo hvn
    obtain ⟨q0, q1, q2⟩ := hN.out.box.cells
    have hfz := fun i => free_block hN.out.box i none
    have hlt3 := hN.out.lt
    by_cases hlt : k < 8
    · have kI : (k : Int) < 8 := by omega
      have HNS := Lib.hid (negs_succ k)
      go_wp2_with (first
        | (at_builtin; refine wpList_push_int2 (wr := wr) Tryd.intT rfl _ _ rfl (X + 1) (.slice A2 k c2) (negs k) rfl HO.out rfl (by rw [HLN.out]; omega) (by omega) ?_; intro v' w5 h1 h2 h3; rw [← HNS.out] at h1; obtain ⟨hx, hN2⟩ := hN.out.pre0 h1 h2 h3 (by omega); obtain ⟨A4, c4, hv4⟩ := own_form h1; rw [HLN.out] at hv4; subst hv4; have HN2 := Lib.hid hN2; obtain ⟨p0, p1, p2⟩ := hx.cells; have hfz2 := free_block hx 1 none; have hl5 := lt_of_heap hx; clear h1 h2 h3 hN2 hx HO q0 q1 q2 hfz)
        | (refine wpList_store_one rfl 25 _ _ rfl X 1 _ _ rfl rfl (by kernel_rfl) rfl rfl p1 hfz2 ?_; intro w7 hw7; have HN4 : Hid (SdN w w7 R S1 X (.slice A4 (k + 1) c4) (.slice A3 k c3) (k + 1) k) := (by rw [hw7]; exact HN2.out); clear hw7 p0 p1 p2 hfz2 hl5; obtain ⟨q0, q1, q2⟩ := HN4.out.box.cells; have hfz := fun i => free_block HN4.out.box i none; have hl5 := lt_of_heap HN4.out.box; have HO2 := Lib.hid HN4.out.rows.p1)
        | (at_builtin; refine wpList_push_int2 (wr := w7) Tryd.intT rfl _ _ rfl (X + 1) (.slice A3 k c3) (negs k) rfl HO2.out rfl (by rw [HLN.out]; omega) (by have := HN4.out.lt; omega) ?_; intro v' w6 h1 h2 h3; rw [← HNS.out] at h1; obtain ⟨hx, hN3⟩ := HN4.out.pre1 h1 h2 h3 (by omega); obtain ⟨A5, c5, hv5⟩ := own_form h1; rw [HLN.out] at hv5; subst hv5; have HN3 := Lib.hid hN3; obtain ⟨p0', p1', p2'⟩ := hx.cells; have hfz3 := free_block hx 2 none; have hl6 := lt_of_heap hx; clear h1 h2 h3 hN3 hx HO2))
      go_roundw
      case rel => exact ⟨k + 1, by omega, by go_num, _, _, HN3⟩
      case measure => simp [intOf]; omega
    · have hke : k = 8 := by omega
      have kI : ¬ (k : Int) < 8 := by omega
      have hfr := fun i => free_block hN.out.res i none
      obtain ⟨o0, o1, o2⟩ := hN.out.res.cells
      clear hlt
      go_wp2
      have hE : SdX (((wr.setCell ⟨R, 0, none⟩ (.slice (some ⟨S1, 0, none⟩) 16 16)).setCell ⟨R, 1, none⟩ (.slice A2 8 c2)).setCell ⟨R, 2, none⟩ (.slice A3 8 c3)) R (.slice (some ⟨S1, 0, none⟩) 16 16) (.slice A2 8 c2) (.slice A3 8 c3) := by
        have h1 : SdX (wr.setCell ⟨R, 0, none⟩ (.slice (some ⟨S1, 0, none⟩) 16 16)) R (.slice (some ⟨S1, 0, none⟩) 16 16) (.slice none 0 0) (.slice none 0 0) := set_block hN.out.res _
        have h2 : SdX ((wr.setCell ⟨R, 0, none⟩ (.slice (some ⟨S1, 0, none⟩) 16 16)).setCell ⟨R, 1, none⟩ (.slice A2 8 c2)) R (.slice (some ⟨S1, 0, none⟩) 16 16) (.slice A2 8 c2) (.slice none 0 0) := set_block h1 _
        exact set_block h2 _
      have hf : Fr [R] wr (((wr.setCell ⟨R, 0, none⟩ (.slice (some ⟨S1, 0, none⟩) 16 16)).setCell ⟨R, 1, none⟩ (.slice A2 8 c2)).setCell ⟨R, 2, none⟩ (.slice A3 8 c3)) := (((Fr.refl _ wr).setCell (.inl (by simp)) _).setCell (.inl (by simp)) _).setCell (.inl (by simp)) _
      have hge := hN.out.ge
      have hrs := hN.out.rs
      have hsx := hN.out.sx
      have r0 : Own wr (X + 1) 3 (.slice A2 8 c2) (negs 8) := by
        have := hN.out.rows.p0
        rw [hke] at this
        exact this
      have r1 : Own wr (X + 1) 3 (.slice A3 8 c3) (negs 8) := by
        have := hN.out.rows.p1
        rw [hke] at this
        exact this
      obtain ⟨g2, e2, s2⟩ := r0.sl
      obtain ⟨g3, e3, s3⟩ := r1.sl
      have e2 := e2.resolve_right (by decide)
      have e3 := e3.resolve_right (by decide)
      exact bodyPost_ret (v := .agg #[.slice (some ⟨S1, 0, none⟩) 16 16, .slice A2 8 c2, .slice A3 8 c3]) (by simp [results, Tryd.results7, asAddr, Sem.run_bind, hE.load]) rfl
        ⟨_, rfl, ⟨_, _, _, S1, g2, g3, rfl, ⟨by omega, by omega, by omega⟩, hN.out.slot.fr hf (by simp; omega), s2.fr hf (by simp; omega), s3.fr hf (by simp; omega)⟩, hN.out.fr.step hf (fun x hx => .inr (by simp only [List.mem_singleton] at hx; omega))⟩
end Go.Proofs.YtmhmbgkpojgbbaaDoor
