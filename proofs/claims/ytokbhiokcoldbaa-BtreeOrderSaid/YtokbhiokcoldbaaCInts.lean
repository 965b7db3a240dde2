/- The contract of Ints: two lists held against each other. -/
import Derived.Test.YtokbhiokcoldbaaCommon
namespace Go.Proofs.Ytokbhiokcoldbaa
open Go.RowKit

theorem ints_any (w : World) (v u : Value) (g k0 : Nat) (xs ys : List Int) (h : Sl w v g xs) (h' : Sl w u k0 ys) :
    Calls Try.prog 17 #[v, u] w (SameAs (decide (xs = ys)) w) := by
  obtain ⟨A, o, c, rfl, hm, hA, hc⟩ := h.form
  obtain ⟨A', o', c', rfl, hm', hA', hc'⟩ := h'.form
  clear h h'
  have HA := Lib.hid hA
  have HC := Lib.hid hc
  have HA' := Lib.hid hA'
  have HC' := Lib.hid hc'
  clear hA hc hA' hc'
  by_cases hl : xs.length = ys.length
  · have HL := Lib.hid hl
    have eL : ((xs.length : Int) != (ys.length : Int)) = false := by simp [hl]
    have hl1 : ys.length ≤ xs.length := by omega
    have hl2 : xs.length ≤ ys.length := by omega
    clear hl
    go_enter Try.func17, Try.ntmps17
    go_wp2
    go_loopw [5] (fun i wr => ∃ k : Nat, k ≤ xs.length ∧ i = .int .i64 k ∧ Dr w wr ∧ Hid (∀ j, j < k → nth xs j = nth ys j)) (fun i _ => xs.length - (intOf i).toNat)
    case atStart => exact ⟨0, Nat.zero_le _, rfl, Dr.refl _, fun j hj => absurd hj (Nat.not_lt_zero _)⟩
    case round =>
      obtain ⟨k, hk, rfl, ⟨n, rfl⟩, hno⟩ := hrel
      by_cases hlt : k < xs.length
      · obtain rfl := HA.out (by omega)
        obtain rfl := HA'.out (by omega)
        have hcell := HC.out k hlt
        have hcell' := HC'.out k (by omega)
        have hlt' : k < ys.length := by omega
        have i1 : (0 : Int) ≤ k := by omega
        have i2 : (k : Int) < xs.length := by omega
        have i3 : (k : Int) < ys.length := by omega
        by_cases he : nth xs k = nth ys k
        · have eB : (nth xs k != nth ys k) = false := by simpa using he
          have HE := Lib.hid he
          clear he
          go_wp2
          go_quiet (fail)
          go_wp2
          go_roundw
          case rel =>
            refine ⟨k + 1, by omega, by go_num, by first | exact Dr.two _ _ _ | exact Dr.one _ _, fun j hj => ?_⟩
            by_cases hjk : j = k
            · subst hjk; exact HE.out
            · exact hno.out j (by omega)
          case measure => simp [intOf]; omega
        · have eB : (nth xs k != nth ys k) = true := by simpa using he
          have HE := Lib.hid he
          clear he
          go_wp2
          go_quiet (fail)
          go_wp2
          go_ret
          exact ⟨ret_bool (by symm; apply decide_eq_false; rintro rfl; exact HE.out rfl), by first | exact Dr.two _ _ _ | exact Dr.one _ _⟩
      · go_wp2
        go_ret
        exact ⟨ret_bool (by symm; apply decide_eq_true; exact eq_of_getD HL.out (fun j hj => hno.out j (by omega))), Dr.one _ _⟩
  · have HL := Lib.hid hl
    have eL : ((xs.length : Int) != (ys.length : Int)) = true := by simp; omega
    clear hl
    go_enter Try.func17, Try.ntmps17
    go_wp2
    go_ret
    exact ⟨ret_bool (by symm; apply decide_eq_false; rintro rfl; exact HL.out rfl), Dr.refl _⟩

theorem ints_same (w : World) (v u : Value) (g k0 : Nat) (xs : List Int) (h : Sl w v g xs) (h' : Sl w u k0 xs) :
    Calls Try.prog 17 #[v, u] w (SameAs true w) :=
  (ints_any w v u g k0 xs xs h h').mono fun _ _ hh => by simpa [SameAs] using hh
end Go.Proofs.Ytokbhiokcoldbaa
