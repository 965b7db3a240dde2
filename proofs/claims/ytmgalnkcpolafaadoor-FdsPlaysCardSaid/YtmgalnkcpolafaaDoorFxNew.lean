/- The contract of the reference's NewFds. -/
import Derived.Test.YtmgalnkcpolafaaDoorFxRef2
namespace Go.Proofs.YtmgalnkcpolafaaDoor
open Go.RowKit

/-- The rounds: block B + 1 holds the struct that grows, block B the answer. -/
structure FxN (w wr : World) (B : Nat) (v : Value) (k : Nat) : Prop where
  box : FxX wr (B + 1) v (.slice none 0 0) (.slice none 0 0)
  out : FxX wr B (.slice none 0 0) (.slice none 0 0) (.slice none 0 0)
  own : Own wr (B + 2) 3 v (List.replicate k (-1))
  fr : Fr [] w wr
  ge : w.heap.size ≤ B
theorem FxN.push {w wr w' : World} {B k : Nat} {v v' : Value} (h : FxN w wr B v k) (h1 : Own w' (B + 2) 3 v' (List.replicate k (-1) ++ [-1])) (h3 : Below (B + 2) wr w') : FxN w (w'.setCell ⟨B + 1, 0, none⟩ v') B v' (k + 1) ∧ FxX w' (B + 1) v (.slice none 0 0) (.slice none 0 0) := by
  have q1 : FxX w' (B + 1) v (.slice none 0 0) (.slice none 0 0) := (h3.block (B + 1) (by omega)).trans h.box
  have q2 : FxX w' B (.slice none 0 0) (.slice none 0 0) (.slice none 0 0) := (h3.block B (by omega)).trans h.out
  have hf : Fr [B + 1] w' (w'.setCell ⟨B + 1, 0, none⟩ v') := (Fr.refl _ w').setCell (.inl (by simp)) _
  have hge := h.ge
  rw [← List.replicate_succ'] at h1
  refine ⟨⟨set_block q1 v', hf.get q2 (by simp), Own.kept h1 hf (fun g hg e => ?_), ((h.fr.below_step h3 (by omega))).step hf (fun y hy => .inr (by simp at hy; omega)), h.ge⟩, q1⟩
  have := (h1.ge g e).1
  simp at hg
  omega
set_option maxRecDepth 100000 in
theorem fx_New (w : World) : Calls Tryd.prog 15 #[] w fun e w' => ∃ v, e = .returned v ∧ FxV (w.heap.size ≤ ·) w' v Fx.new ∧ Fr [] w w' := by
  have HS : Hid (FxN w ((w.alloc (.cells #[.slice none 0 0, .slice none 0 0, .slice none 0 0] 38)).alloc (.cells #[.slice none 0 0, .slice none 0 0, .slice none 0 0] 38)) w.heap.size (.slice none 0 0) 0) := by
    have h2 := heap_alloc_new (w.alloc (.cells #[.slice none 0 0, .slice none 0 0, .slice none 0 0] 38)) (.cells #[.slice none 0 0, .slice none 0 0, .slice none 0 0] 38)
    rw [show (w.alloc (.cells #[.slice none 0 0, .slice none 0 0, .slice none 0 0] 38)).heap.size = w.heap.size + 1 by simp] at h2
    exact ⟨h2, ((Fr.refl [] _).alloc _).get (heap_alloc_new w _) (by simp), Own.nil _ _ _, ((Fr.refl _ _).alloc _).alloc _, Nat.le_refl _⟩
  go_enter Tryd.func15, Tryd.ntmps15
  go_wp2_with fail
  revert HS
  generalize (w.alloc (.cells #[.slice none 0 0, .slice none 0 0, .slice none 0 0] 38)).alloc (.cells #[.slice none 0 0, .slice none 0 0, .slice none 0 0] 38) = w1
  intro HS
  generalize hB : w.heap.size = B at *
  have HBE := Lib.hid hB
  clear hB
  go_loopw [2] (fun i wr => ∃ k : Nat, k ≤ 8 ∧ i = .int .i64 k ∧ ∃ v, Hid (FxN w wr B v k)) (fun i _ => 8 - (intOf i).toNat)
  case atStart => exact ⟨0, Nat.zero_le _, rfl, _, HS⟩
  case round =>
    clear HS
    obtain ⟨k, hk, rfl, v, hS⟩ := hrel
    obtain ⟨x0, x1, x2⟩ := hS.out.box.cells
    have hsz : B + 2 ≤ wr.heap.size := lt_of_heap hS.out.box
    by_cases hlt : k < 8
    · have HL : Hid ((List.replicate k (-1 : Int)).length < 1000000) := by
        show _ < _
        rw [List.length_replicate]; omega
      have HLK : Hid ((List.replicate k (-1 : Int) ++ ([-1] : List Int)).length = k + 1) := by
        show _ = _
        simp
      go_wp2_with (at_builtin; (refine wpList_push_int Tryd.intT rfl _ _ rfl (B + 2) _ _ rfl hS.out.own rfl HL.out hsz ?_; intro v' w5 h1 _ h3; obtain ⟨q5, q6⟩ := hS.out.push h1 h3; have HQ5 := Lib.hid q5; obtain ⟨A5, c5, hv5⟩ := h1.slice'; rw [HLK.out] at hv5; subst hv5; clear x0 x1 x2; obtain ⟨x0, x1, x2⟩ := q6.cells; have hfb := free_block q6 0 none; clear h1 h3 q5 q6))
      go_roundw
      case rel => exact ⟨k + 1, by omega, by go_num, _, HQ5⟩
      case measure => simp [intOf]; omega
    · obtain rfl : k = 8 := by omega
      obtain ⟨A5, c5, rfl⟩ := hS.out.own.slice'
      have HE : Hid (FxX (((wr.setCell ⟨B, 0, none⟩ (.slice A5 8 c5)).setCell ⟨B, 1, none⟩ (.slice none 0 0)).setCell ⟨B, 2, none⟩ (.slice none 0 0)) B (.slice A5 8 c5) (.slice none 0 0) (.slice none 0 0) ∧ Fr [B] wr (((wr.setCell ⟨B, 0, none⟩ (.slice A5 8 c5)).setCell ⟨B, 1, none⟩ (.slice none 0 0)).setCell ⟨B, 2, none⟩ (.slice none 0 0))) := by
        have h1 : FxX (wr.setCell ⟨B, 0, none⟩ (.slice A5 8 c5)) B (.slice A5 8 c5) (.slice none 0 0) (.slice none 0 0) := set_block hS.out.out _
        have h2 : FxX ((wr.setCell ⟨B, 0, none⟩ (.slice A5 8 c5)).setCell ⟨B, 1, none⟩ (.slice none 0 0)) B (.slice A5 8 c5) (.slice none 0 0) (.slice none 0 0) := set_block h1 _
        exact ⟨set_block h2 _, (((Fr.refl _ wr).setCell (.inl (by simp)) _).setCell (.inl (by simp)) _).setCell (.inl (by simp)) _⟩
      obtain ⟨o0, o1, o2⟩ := hS.out.out.cells
      have hfo := fun i => free_block hS.out.out i none
      have HRV : Hid (∀ W, Fr [B] wr W → FxV (w.heap.size ≤ ·) W (.agg #[.slice A5 8 c5, .slice none 0 0, .slice none 0 0]) Fx.new ∧ Fr [] w W) := fun W hW => by
        obtain ⟨g, hg, hs⟩ := hS.out.own.sl
        have hge := hS.out.ge
        have hg' : B + 2 ≤ g := hg.resolve_right (fun e => by cases e)
        exact ⟨⟨_, _, _, rfl, ⟨g, .inr ⟨by omega, by simp [Value.ownBlock], by simp [Value.ownBlock]⟩, hs.fr hW (by simp; omega)⟩, ⟨fun g h => (by cases h), Own.nil _ _ _⟩, ⟨fun g h => (by cases h), Own.nil _ _ _⟩, Apart.nil _ _ _⟩, hS.out.fr.step hW (fun y hy => .inr (by simp at hy; omega))⟩
      go_wp2
      refine bodyPost_ret (v := .agg #[.slice A5 8 c5, .slice none 0 0, .slice none 0 0]) ?_ rfl ⟨_, rfl, HRV.out _ HE.out.2⟩
      have hl := HE.out.1.load
      unfold results
      rw [Tryd.results15]
      simp [asAddr, hl]
end Go.Proofs.YtmgalnkcpolafaaDoor
