/- What the laws on package btree hold: a tree; rows of rows; the closed fact; grown. -/
import Derived.Test.YtokbhiokcoldbaaBtEvenP
import Derived.Test.YtokbhiokcoldbaaCInts
import Derived.Test.YtokbhiokcoldbaaFrP
namespace Go.Proofs.Ytokbhiokcoldbaa
open Go.RowKit

/-- Rows in memory. -/
def RR (w : World) (v : Value) (xs : List (List Int)) : Prop := ∃ A g c, v = .slice A xs.length c ∧ (0 < xs.length → A = some ⟨g, 0, none⟩) ∧
  ∀ j, j < xs.length → ∃ A' c' gj, w.cell? ⟨g, j, none⟩ = some (.slice A' (xs.getD j []).length c') ∧ Sl w (.slice A' (xs.getD j []).length c') gj (xs.getD j [])
theorem RR.keep {w w' : World} {v : Value} {xs : List (List Int)} (h : RR w v xs) (hf : Fr [] w w') : RR w' v xs := by
  obtain ⟨A, g, c, h1, h2, h3⟩ := h
  refine ⟨A, g, c, h1, h2, fun j hj => ?_⟩
  obtain ⟨A', c', gj, h4, h5⟩ := h3 j hj
  exact ⟨A', c', gj, hf.cell h4 (by simp), h5.fr hf (by simp)⟩
theorem BtLv.rr {xs : List (List Int)} {w w' : World} {e : Ending} (h : BtLv xs w e w') : ∃ v, e = .returned v ∧ RR w' v xs ∧ Fr [] w w' := by
  obtain ⟨v, vs, rfl, h1, h2, h3, h4⟩ := h
  refine ⟨v, rfl, ?_, h4⟩
  rcases h1.2 with ⟨rfl, hn⟩ | ⟨g, cap, cur, rfl, hb, hg, hc, hm, hs, ht⟩
  · have : xs = [] := List.eq_nil_of_length_eq_zero (by omega)
    subst this
    exact ⟨none, 0, 0, rfl, fun h => by simp at h, fun j hj => by simp at hj⟩
  · refine ⟨_, g, cap, by rw [h2], fun _ => rfl, fun j hj => ?_⟩
    have hjv : j < vs.length := by omega
    have hrow := h3 j hjv
    obtain ⟨A', c', hv, -⟩ := hrow.form'
    obtain ⟨gj, _, hsl⟩ := (own_inE.1 hrow).sl
    rw [hv] at hsl
    refine ⟨A', c', gj, ?_, hsl⟩
    rw [cell_of_row _ g j cur _ _ hg]
    have h5 := slE.cells_get vs j 0 hjv (by decide)
    rw [← ht, List.getElem?_take] at h5
    rw [show j * slE.k + 0 = j from by show j * 1 + 0 = j; omega] at h5
    split at h5
    · rw [← hv]
      simpa [slE] using h5
    · simp [slE] at h5
set_option maxRecDepth 100000 in
set_option maxHeartbeats 1000000 in
theorem rows_same (w : World) (v u : Value) (xs : List (List Int)) (h : RR w v xs) (h' : RR w u xs) (hl : xs.length ≤ 1000) :
    Calls Try.prog 32 #[v, u] w (OkT w) := by
  obtain ⟨A, g, c, rfl, hA, hc⟩ := h
  obtain ⟨A2, g2, c2, rfl, hA2, hc2⟩ := h'
  have HA := Lib.hid hA
  have HA2 := Lib.hid hA2
  have HC : Hid (∀ W, Fr [] w W → ∀ j, j < xs.length → ∃ A' c' gj, W.cell? ⟨g, j, none⟩ = some (.slice A' (xs.getD j []).length c') ∧ Sl W (.slice A' (xs.getD j []).length c') gj (xs.getD j [])) := fun W hW j hj => by
    obtain ⟨A', c', gj, h1, h2⟩ := hc j hj
    exact ⟨A', c', gj, hW.cell h1 (by simp), h2.fr hW (by simp)⟩
  have HC2 : Hid (∀ W, Fr [] w W → ∀ j, j < xs.length → ∃ A' c' gj, W.cell? ⟨g2, j, none⟩ = some (.slice A' (xs.getD j []).length c') ∧ Sl W (.slice A' (xs.getD j []).length c') gj (xs.getD j [])) := fun W hW j hj => by
    obtain ⟨A', c', gj, h1, h2⟩ := hc2 j hj
    exact ⟨A', c', gj, hW.cell h1 (by simp), h2.fr hW (by simp)⟩
  clear hA hc hA2 hc2
  go_enter Try.func32, Try.ntmps32
  go_wp2
  go_loopw [5] (fun i wr => ∃ k : Nat, k ≤ xs.length ∧ i = .int .i64 k ∧ Hid (Fr [] w wr)) (fun i _ => xs.length - (intOf i).toNat)
  case atStart => exact ⟨0, Nat.zero_le _, rfl, Fr.refl _ _⟩
  case round =>
    obtain ⟨k, hk, rfl, hF⟩ := hrel
    by_cases hlt : k < xs.length
    · obtain rfl := HA.out (by omega)
      obtain rfl := HA2.out (by omega)
      obtain ⟨A3, c3, g3, q1, s1⟩ := HC.out wr hF.out k hlt
      obtain ⟨A4, c4, g4, q2, s2⟩ := HC2.out wr hF.out k hlt
      have kI : (k : Int) < xs.length := by omega
      have k0 : (0 : Int) ≤ k := by omega
      have hd : Fr [] wr wr.drew := (Fr.refl [] wr).drew
      have HIN := Lib.hid (ints_same wr.drew _ _ g3 g4 _ (s1.fr hd (by simp)) (s2.fr hd (by simp)))
      generalize xs.getD k [] = X at *
      generalize X.length = L at *
      clear s1 s2
      go_wp2_with fail
      (refine wp_region_mixq 8 [(true, 0), (true, 1), (true, 2), (true, 3), (true, 4), (true, 5), (true, 6), (true, 7)] (by kernel_rfl) (by kernel_rfl) ?_; simp only [pickOps, List.map_cons, List.map_nil, List.getD_cons_zero, List.getD_cons_succ, List.drop_succ_cons, List.drop_zero]; (iterate 8 (first | (refine wpMix_take (v := ?_) (by rfl) ?_ ?_; rotate_left; (focus (intro W hW; subst hW; go_simp; (try with_reducible rfl); done)); try simp only [Act.put, List.setIfInBounds_toArray, List.set_cons_zero, List.set_cons_succ]) | (refine wpMix_leave (by rfl) ?_; try simp only [Act.put, List.setIfInBounds_toArray, List.set_cons_zero, List.set_cons_succ]))); refine wpMix_nil ?_)
      go_wp2_with (go_at_call 17; (with_reducible refine useC HIN.out ?_); rintro e w3 ⟨rfl, hdr⟩; have HF3 := Lib.hid ((hF.out.trans hd).trans (hdr.fr [])); clear hdr)
      go_roundw
      case rel => exact ⟨k + 1, by omega, by go_num, HF3.out⟩
      case measure => (simp [intOf]; try omega)
    · have kI : ¬ (k : Int) < xs.length := by omega
      go_wp2
      go_ret
      exact ⟨rfl, hF.out⟩
/-- The tree s (its block p) in the world wr of a call that began at w; its blocks are those of P. -/
structure BtI2 (w wr : World) (P : Nat → Prop) (p : Nat) (s : Bt.Tree) : Prop where
  file : BtF P wr p s
  ok : s.OK
  hP : ∀ k, P k → w.heap.size ≤ k ∧ k < wr.heap.size
  fr : Fr [] w wr
def Nxb (P : Nat → Prop) (wr w' : World) (k : Nat) : Prop := OrNew P wr k ∧ k < w'.heap.size
section
variable {w wr w' : World} {P : Nat → Prop} {p : Nat} {s s' : Bt.Tree} {v : Value}
theorem BtF.tight (h : BtF P w p s) : BtF (fun k => P k ∧ k < w.heap.size) w p s := by
  obtain ⟨r, F, h⟩ := h
  exact ⟨r, F, h.file, h.nd, h.nodup, ⟨h.gp, lt_of_heap h.file⟩, fun x hx => ⟨h.gF x hx, h.nd.lt x hx⟩, h.np⟩
theorem FrP.frB {P : Nat → Prop} {a w w' : World} (h0 : Fr [] a w) (h : FrP P w w') (hP : ∀ k, P k → a.heap.size ≤ k) : Fr [] a w' :=
  ⟨h.os.trans h0.os, h.tape.trans h0.tape, h.output.trans h0.output, Nat.le_trans h0.size h.size, fun k hk _ => (h.block k (Nat.lt_of_lt_of_le hk h0.size) (fun hp => by have := hP k hp; omega)).trans (h0.block k hk (by simp))⟩
theorem BtI2.step (h : BtI2 w wr P p s) (hf : Fr [] wr w') : BtI2 w w' P p s := ⟨h.file.keep hf, h.ok, fun k hk => ⟨(h.hP k hk).1, Nat.lt_of_lt_of_le (h.hP k hk).2 hf.size⟩, h.fr.trans hf⟩
theorem BtI2.turn (h : BtI2 w wr P p s) (hO : s'.OK) {e : Ending} (ha : BtAns P p v s' wr e w') : e = .returned v ∧ BtI2 w w' (Nxb P wr w') p s' ∧ FrP P wr w' := by
  obtain ⟨h1, h2, h3⟩ := ha
  exact ⟨h1, ⟨h2.tight, hO, fun k hk => ⟨hk.1.elim (fun hp => (h.hP k hp).1) (fun hp => Nat.le_trans h.fr.size hp), hk.2⟩, h3.frB h.fr (fun k hk => (h.hP k hk).1)⟩, h3⟩
end
theorem BtI2.made {w wr w' : World} {p : Nat} (h0 : Fr [] w wr) (h : BtF (wr.heap.size ≤ ·) w' p Bt.new) (hf : Fr [] wr w') : BtI2 w w' (fun k => wr.heap.size ≤ k ∧ k < w'.heap.size) p Bt.new :=
  ⟨h.tight, Bt.new_ok, fun _ hk => ⟨Nat.le_trans h0.size hk.1, hk.2⟩, h0.trans hf⟩
end Go.Proofs.Ytokbhiokcoldbaa
