/- The contract of slices.Clone at lists of ints. -/
import Derived.Test.YtokbhiokcoldbaaDoorCommon
namespace Go.Proofs.YtokbhiokcoldbaaDoor
open Go.RowKit

theorem clone_any (w : World) (v : Value) (g : Nat) (xs : List Int) (h : Sl w v g xs) (hb : xs.length ≤ 1000000) :
    Calls Tryd.prog 65 #[v] w (NewRow xs w) := by
  obtain ⟨i0, hi, hz0, hz1, hz2⟩ := info_parts Tryd.info_int
  obtain ⟨A, o, c, rfl, _, hA, hc⟩ := h.form
  clear h
  cases A with
  | none =>
    have hx : xs = [] := by
      cases xs with
      | nil => rfl
      | cons x xs => cases hA (by simp)
    subst hx
    have hnil := fun W => Lib.run_eql_slice_nil (P := Tryd.prog) W 25 3 none 0 c 0 0 Tryd.underlying25
    clear hA hc
    go_enter Tryd.func65, Tryd.ntmps65
    go_wp2
    all_goals (go_ret; exact ⟨_, 0, rfl, .inr rfl, .inl ⟨rfl, none, 0, rfl⟩, Fr.refl _ _⟩)
  | some a =>
    have hnil := fun W => Lib.run_eql_slice_nil (P := Tryd.prog) W 25 3 (some a) xs.length c 0 0 Tryd.underlying25
    have hown := World.ownsRow_made (base := w.heap.size) (e := 3) (size := 1) w #[] 0 (Nat.le_refl _) (Nat.zero_le _) rfl
    have HA := Lib.hid hA
    have H3 := Lib.hid hc
    clear hA hc
    go_enter Tryd.func65, Tryd.ntmps65
    go_wp2_with (at_builtin; refine wpList_append_own _ rfl _ _ 25 rfl w.heap.size 3 i0 (.int .i64 0) 1 8 Tryd.underlying25 hi hz0 hz1 hz2 rfl (by decide) _ _ _ rfl hown a xs.length c (xs.map (Value.int .i64)) rfl (by simp) ?c1 ?c2 ?c3 ?c4 ?c5 ?_)
    case c1 =>
      intro j u hu
      have hj : j < xs.length := by simpa using (List.getElem?_eq_some_iff.1 hu).1
      obtain rfl : a = ⟨g, o, none⟩ := Option.some.inj (HA.out (by omega))
      rw [Addr.add_lit]
      have := H3.out j hj
      simp [hj] at hu
      rw [cell?_alloc_old _ this, ← hu]
      simp [nth, List.getD, hj]
    case c2 => exact ints_one (l := xs)
    case c3 => unfold maxLen; omega
    case c4 => omega
    case c5 => simp
    intro v' w1 hown1 hgr _
    obtain ⟨g', hg1, _, hsl⟩ := Sl.of_owns (xs := xs) (by simpa using hown1)
    have H4 := Lib.hid hsl
    have H5 := Lib.hid (((Fr.refl [] w).alloc (.cells #[] 3)).grown hgr (by simp [Value.ownBlock]))
    clear hown1 hgr hsl hown hnil
    go_wp2
    go_ret
    exact ⟨_, g', rfl, hg1, H4.out, H5.out⟩
end Go.Proofs.YtokbhiokcoldbaaDoor
