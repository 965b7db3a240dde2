/- The contract of platterholdref1.Set: a copy, one number another. -/
import Derived.Test.YtbedfffmicbgmaaCommon
namespace Go.Proofs.Ytbedfffmicbgmaa
open Go.RowKit

set_option maxRecDepth 100000 in
theorem set_any (w : World) (v : Value) (g : Nat) (xs : List Int) (i : Nat) (x : Int) (h : Sl w v g xs) (hi : i < xs.length) (hb : xs.length ≤ 1000000) :
    Calls Try.prog 12 #[v, .int .i64 i, .int .i64 x] w (NewRow (xs.set i x) w) := by
  obtain ⟨i0, hi0, hz0, hz1, hz2⟩ := info_parts Try.info_int
  obtain ⟨A, o, c, rfl, _, hA, hc⟩ := h.form
  clear h
  obtain rfl := hA (by omega)
  have H3 := Lib.hid hc
  have hown := World.ownsRow_nil w w.heap.size 3 1
  have hi2 : (i : Int) < xs.length := by omega
  have hi3 : (0 : Int) ≤ i := by omega
  clear hc hA
  go_enter Try.func12, Try.ntmps12
  go_wp2_with (at_builtin; refine wpList_append_own _ rfl _ _ 30 rfl w.heap.size 3 i0 (.int .i64 0) 1 8 Try.underlying30 hi0 hz0 hz1 hz2 rfl (by decide) _ _ _ rfl hown ⟨g, o, none⟩ xs.length c (xs.map (Value.int .i64)) rfl (by simp) ?c1 ?c2 ?c3 ?c4 ?c5 ?_)
  case c1 =>
    intro j u hu
    have hj : j < xs.length := by simpa using (List.getElem?_eq_some_iff.1 hu).1
    rw [Addr.add_lit]
    have := H3.out j hj
    simp [hj] at hu
    rw [this, ← hu]
    simp [nth, List.getD, hj]
  case c2 => exact ints_one (l := xs)
  case c3 => unfold maxLen; omega
  case c4 => omega
  case c5 => simp
  intro v' w1 hown1 hgr _
  have hO : Hid (Own w1 w.heap.size 3 v' xs) := by
    show World.ownsRow _ _ _ _ _ _ _
    simpa using hown1
  have hF : Hid (Fr [] w w1) := (Fr.refl [] w).grown hgr (by simp [Value.ownBlock])
  clear hown1 hgr hown
  have hrow : ∃ gg cap cur, v' = .slice (some ⟨gg, 0, none⟩) xs.length cap ∧ w.heap.size ≤ gg ∧ w1.heap[gg]? = some (.cells cur 3 (0, 0)) ∧ xs.length ≤ cap ∧ cap ≤ maxLen ∧ cur.toList.take xs.length = xs.map (Value.int .i64) := by
    obtain ⟨hl, hh⟩ := hO.out
    rcases hh with ⟨_, hn⟩ | ⟨gg, cap, cur, rfl, hb, hg, hc, hm, hs, ht⟩
    · omega
    · exact ⟨gg, cap, cur, rfl, hb, hg, hc, hm, by simpa using ht⟩
  obtain ⟨gg, cap, cur, rfl, hgg, hblk, hcap, hmax, hcur⟩ := hrow
  have hsz : xs.length ≤ cur.size := by
    have := congrArg List.length hcur
    simp at this
    omega
  have hfz := free_block hblk i none
  have hcell : w1.cell? ⟨gg, i, none⟩ = some (.int .i64 (nth xs i)) := by
    rw [cell_of_row w1 gg i cur _ _ hblk]
    have h1 : cur.toList[i]? = (xs.map (Value.int .i64))[i]? := by rw [← hcur, List.getElem?_take, if_pos hi]
    simpa [hi, nth, List.getD] using h1
  have HB := Lib.hid hblk
  have HC := Lib.hid hcur
  have HX := Lib.hid (And.intro hgg (And.intro hcap hmax))
  clear hblk hcur hO hgg hcap hmax
  go_wp2
  go_ret
  refine ⟨_, gg, rfl, .inl HX.out.1, .inr ⟨0, cap, by simp, by simpa using HX.out.2.1, HX.out.2.2, fun j hj => ?_⟩, hF.out.step ((Fr.refl [gg] w1).setCell (.inl (by simp)) _) (fun y hy => .inr (by simp only [List.mem_singleton] at hy; subst hy; exact HX.out.1))⟩
  rw [List.length_set] at hj
  rw [Nat.zero_add, cell_of_row _ gg j _ _ _ (set_block HB.out _), Array.getElem?_setIfInBounds]
  by_cases e : i = j
  · subst e
    rw [if_pos rfl, if_pos (by omega)]
    simp [nth, List.getD, hi]
  · rw [if_neg e]
    have h1 : cur.toList[j]? = (xs.map (Value.int .i64))[j]? := by rw [← HC.out, List.getElem?_take, if_pos hj]
    simp [nth, List.getD, hj, e] at h1 ⊢
    simpa [List.getElem?_set, e] using h1
end Go.Proofs.Ytbedfffmicbgmaa
