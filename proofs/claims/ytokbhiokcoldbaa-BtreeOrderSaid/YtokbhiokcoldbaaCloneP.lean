/- slices.Clone at []*btree.node: a row that the call owns. -/
import Derived.Test.YtokbhiokcoldbaaInsP
namespace Go.Proofs.Ytokbhiokcoldbaa
open Go.RowKit

theorem cloneP (w : World) (v : Value) (g : Nat) (l : List Nat) (h : SlR pbE w v g l) (hb : l.length ≤ 100000) :
    Calls Try.prog 55 #[v] w fun e w' => ∃ v', e = .returned v' ∧ OwnR pbE w' w.heap.size 58 v' l ∧ Fr [] w w' := by
  obtain ⟨i0, hi, hz0, hz1, hz2⟩ := info_parts Try.info_insP
  obtain ⟨A, o, c, rfl, _, hA, hc⟩ := h.form
  clear h
  cases A with
  | none =>
    have hx : l = [] := by
      cases l with
      | nil => rfl
      | cons x xs => cases hA (by simp)
    subst hx
    have hnil := fun W => Lib.run_eql_slice_nil (P := Try.prog) W 61 58 none 0 c 0 0 Try.underlying61
    clear hA hc
    go_enter Try.func55, Try.ntmps55
    go_wp2
    all_goals (go_ret; exact ⟨_, rfl, OwnR.nil, Fr.refl _ _⟩)
  | some a =>
    have hnil := fun W => Lib.run_eql_slice_nil (P := Try.prog) W 61 58 (some a) l.length c 0 0 Try.underlying61
    have hown := World.ownsRow_made (base := w.heap.size) (e := 58) (size := pbE.k) w #[] 0 (Nat.le_refl _) (Nat.zero_le _) rfl
    have HA := Lib.hid hA
    have H3 := Lib.hid hc
    clear hA hc
    go_enter Try.func55, Try.ntmps55
    go_wp2_with (at_builtin; refine wpList_append_own _ rfl _ _ 61 rfl w.heap.size 58 i0 _ pbE.k 8 Try.underlying61 hi hz0 hz1 hz2 rfl (by decide) _ _ _ rfl hown a l.length c (pbE.cells l) rfl (pbE.cells_len l) ?c1 ?c2 ?c3 ?c4 ?c5 ?_)
    case c1 =>
      intro j u hu
      have hjl : j < l.length * pbE.k := by
        rw [← pbE.cells_len l]
        exact (List.getElem?_eq_some_iff.1 hu).1
      have hk := pbE.pos
      have hdiv : j / pbE.k < l.length := Nat.div_lt_of_lt_mul (by rw [Nat.mul_comm]; exact hjl)
      have hmod := Nat.mod_lt j hk
      have hdm : j / pbE.k * pbE.k + j % pbE.k = j := by rw [Nat.mul_comm]; exact Nat.div_add_mod j pbE.k
      obtain rfl : a = ⟨g, o, none⟩ := Option.some.inj (HA.out (Nat.lt_of_le_of_lt (Nat.zero_le _) hdiv))
      have hcl := H3.out (j / pbE.k) hdiv (j % pbE.k) hmod
      rw [← pbE.cells_get l (j / pbE.k) (j % pbE.k) hdiv hmod, hdm, hu] at hcl
      rw [Addr.add_lit]
      rw [Nat.add_assoc, hdm] at hcl
      exact cell?_alloc_old _ hcl
    case c2 => exact pbE.cells_one l
    case c3 => unfold maxLen; omega
    case c4 => omega
    case c5 => simp
    intro v' w1 hown1 hgr _
    have H4 : Hid (OwnR pbE w1 w.heap.size 58 v' l) := hown1
    have H5 := Lib.hid (((Fr.refl [] w).alloc (.cells #[] 58)).grown hgr (by simp [Value.ownBlock]))
    clear hown1 hgr hown hnil
    go_wp2
    go_ret
    exact ⟨_, rfl, H4.out, H5.out⟩
end Go.Proofs.Ytokbhiokcoldbaa
