/- The contracts of small functions that all the packages use: Within, in, Ints, Index, Contains, Clone. -/
import Derived.Test.YtmhmbgkpojgbbaaRows
import Derived.Test.YtmhmbgkpojgbbaaBase
namespace Go.Proofs.Ytmhmbgkpojgbbaa
open Go.RowKit

theorem within_any (n lo hi : Int) (w : World) :
    Calls Try.prog 42 #[.int .i64 n, .int .i64 lo, .int .i64 hi] w fun e w' => e = .returned (.bool (decide (lo ≤ n ∧ n ≤ hi))) ∧ w = w' := by
  go_enter Try.func42, Try.ntmps42
  go_wp2
  all_goals (go_ret; refine ⟨?_, rfl⟩; congr; try simp; try omega)
theorem in3_any (n lo hi : Int) (w : World) :
    Calls Try.prog 19 #[.int .i64 n, .int .i64 lo, .int .i64 hi] w fun e w' => e = .returned (.bool (decide (lo ≤ n ∧ n ≤ hi))) ∧ w = w' := by
  go_enter Try.func19, Try.ntmps19
  go_wp2
  all_goals (go_ret; refine ⟨?_, rfl⟩; congr; try simp; try omega)

theorem in3_is (n lo hi : Int) (b : Bool) (w : World) (h : decide (lo ≤ n ∧ n ≤ hi) = b) :
    Calls Try.prog 19 #[.int .i64 n, .int .i64 lo, .int .i64 hi] w fun e w' => e = .returned (.bool b) ∧ w' = w :=
  (in3_any n lo hi w).mono fun _ _ ⟨h1, h2⟩ => ⟨by rw [h1, h], h2.symm⟩
/-- What slices.Index hands back: a place, or -1. -/
def IdxPost (xs : List Int) (x : Int) (w : World) (e : Ending) (w' : World) : Prop := ∃ r : Int, e = .returned (.int .i64 r) ∧ (0 ≤ r ↔ x ∈ xs) ∧ w = w'
theorem getD_mem {xs : List Int} {k : Nat} (h : k < xs.length) : nth xs k ∈ xs := by
  simp [nth, List.getD, h]
theorem not_mem_of {xs : List Int} {x : Int} (h : ∀ j, j < xs.length → nth xs j ≠ x) : x ∉ xs := fun hm => by
  obtain ⟨k, hk, e⟩ := List.getElem_of_mem hm
  exact h k hk (by simp [nth, List.getD, hk, e])
theorem index_any (w : World) (v : Value) (g : Nat) (xs : List Int) (x : Int) (h : Sl w v g xs) :
    Calls Try.prog 58 #[v, .int .i64 x] w (IdxPost xs x w) := by
  obtain ⟨A, o, c, rfl, hm, hA, hc⟩ := h.form
  clear h
  have HA := Lib.hid hA
  have HC := Lib.hid hc
  clear hA hc
  go_enter Try.func58, Try.ntmps58
  go_wp2
  go_loop [8] (fun i => ∃ k : Nat, k ≤ xs.length ∧ i = .int .i64 k ∧ Hid (∀ j, j < k → nth xs j ≠ x)) (fun i => xs.length - (intOf i).toNat)
  case atStart => exact ⟨0, Nat.zero_le _, rfl, fun j hj => absurd hj (Nat.not_lt_zero _)⟩
  case round =>
    obtain ⟨k, hk, rfl, hno⟩ := hrel
    by_cases hlt : k < xs.length
    · obtain rfl := HA.out (by omega)
      have hcell := HC.out k hlt
      by_cases he : x = nth xs k
      · have eB : (x == nth xs k) = true := by simpa using he
        have HE := Lib.hid he
        clear he
        go_wp2
        go_ret
        exact ⟨_, rfl, ⟨fun _ => by rw [HE.out]; exact getD_mem hlt, fun _ => by omega⟩, rfl⟩
      · have eB : (x == nth xs k) = false := by simpa using he
        have HE := Lib.hid he
        clear he
        go_wp2
        go_round
        case rel =>
          refine ⟨k + 1, by omega, by go_num, fun j hj => ?_⟩
          by_cases hjk : j = k
          · subst hjk; exact fun e => HE.out e.symm
          · exact hno.out j (by omega)
        case measure => simp [intOf]; omega
    · go_wp2
      go_ret
      refine ⟨_, rfl, ⟨fun h => absurd h (by omega), fun h => absurd h (not_mem_of fun j hj => hno.out j (by omega))⟩, rfl⟩
theorem contains_any (w : World) (v : Value) (g : Nat) (xs : List Int) (x : Int) (h : Sl w v g xs) :
    Calls Try.prog 53 #[v, .int .i64 x] w fun e w' => e = .returned (.bool (hasB xs x)) ∧ w = w' := by
  go_enter Try.func53, Try.ntmps53
  go_wp2_with fail
  refine (index_any w v g xs x h).mono ?_
  rintro e w' ⟨r, rfl, hr, rfl⟩
  go_wp2
  go_ret
  exact ⟨ret_bool (by rw [Bool.eq_iff_iff]; simp [hasB]), rfl⟩

/-- Two lists, held against each other. -/
theorem eq_of_getD {xs ys : List Int} (hl : xs.length = ys.length) (h : ∀ j, j < xs.length → nth xs j = nth ys j) : xs = ys := by
  apply List.ext_getElem hl
  intro i h1 h2
  have := h i h1
  simpa [nth, List.getD, h1, h2] using this
def SameAs (b : Bool) (w : World) (e : Ending) (w' : World) : Prop := e = .returned (.bool b) ∧ Dr w w'
theorem ints_any (w : World) (v u : Value) (g k0 : Nat) (xs ys : List Int) (h : Sl w v g xs) (h' : Sl w u k0 ys) :
    Calls Try.prog 16 #[v, u] w (SameAs (decide (xs = ys)) w) := by
  obtain ⟨A, o, c, rfl, hm, hA, hc⟩ := h.form
  obtain ⟨A', o', c', rfl, hm', hA', hc'⟩ := h'.form
  clear h h'
  have HA := Lib.hid hA
  have HC := Lib.hid hc
  have HA' := Lib.hid hA'
  have HC' := Lib.hid hc'
  clear hA hc hA' hc'
  by_cases hl : xs.length = ys.length
  · have HL := Lib.hid hl
    have eL : ((xs.length : Int) != (ys.length : Int)) = false := by simp [hl]
    have hl1 : ys.length ≤ xs.length := by omega
    have hl2 : xs.length ≤ ys.length := by omega
    clear hl
    go_enter Try.func16, Try.ntmps16
    go_wp2
    go_loopw [5] (fun i wr => ∃ k : Nat, k ≤ xs.length ∧ i = .int .i64 k ∧ Dr w wr ∧ Hid (∀ j, j < k → nth xs j = nth ys j)) (fun i _ => xs.length - (intOf i).toNat)
    case atStart => exact ⟨0, Nat.zero_le _, rfl, Dr.refl _, fun j hj => absurd hj (Nat.not_lt_zero _)⟩
    case round =>
      obtain ⟨k, hk, rfl, ⟨n, rfl⟩, hno⟩ := hrel
      by_cases hlt : k < xs.length
      · obtain rfl := HA.out (by omega)
        obtain rfl := HA'.out (by omega)
        have hcell := HC.out k hlt
        have hcell' := HC'.out k (by omega)
        have hlt' : k < ys.length := by omega
        have i1 : (0 : Int) ≤ k := by omega
        have i2 : (k : Int) < xs.length := by omega
        have i3 : (k : Int) < ys.length := by omega
        by_cases he : nth xs k = nth ys k
        · have eB : (nth xs k != nth ys k) = false := by simpa using he
          have HE := Lib.hid he
          clear he
          go_wp2
          go_quiet (fail)
          go_wp2
          go_roundw
          case rel =>
            refine ⟨k + 1, by omega, by go_num, by first | exact Dr.two _ _ _ | exact Dr.one _ _, fun j hj => ?_⟩
            by_cases hjk : j = k
            · subst hjk; exact HE.out
            · exact hno.out j (by omega)
          case measure => simp [intOf]; omega
        · have eB : (nth xs k != nth ys k) = true := by simpa using he
          have HE := Lib.hid he
          clear he
          go_wp2
          go_quiet (fail)
          go_wp2
          go_ret
          exact ⟨ret_bool (by symm; apply decide_eq_false; rintro rfl; exact HE.out rfl), by first | exact Dr.two _ _ _ | exact Dr.one _ _⟩
      · go_wp2
        go_ret
        exact ⟨ret_bool (by symm; apply decide_eq_true; exact eq_of_getD HL.out (fun j hj => hno.out j (by omega))), Dr.one _ _⟩
  · have HL := Lib.hid hl
    have eL : ((xs.length : Int) != (ys.length : Int)) = true := by simp; omega
    clear hl
    go_enter Try.func16, Try.ntmps16
    go_wp2
    go_ret
    exact ⟨ret_bool (by symm; apply decide_eq_false; rintro rfl; exact HL.out rfl), Dr.refl _⟩

theorem ints_same (w : World) (v u : Value) (g k0 : Nat) (xs : List Int) (h : Sl w v g xs) (h' : Sl w u k0 xs) :
    Calls Try.prog 16 #[v, u] w (SameAs true w) :=
  (ints_any w v u g k0 xs xs h h').mono fun _ _ hh => by simpa [SameAs] using hh
/-- The answer true, and nothing that was there has turned. -/
def OkT (w : World) (e : Ending) (w' : World) : Prop := e = .returned (.bool true) ∧ Fr [] w w'

/-! ### A copy of a row -/
theorem Try.info_int : (Try.prog.info? 3).map (fun i => (i.zero, i.size, i.bytes)) = some (some (.int .i64 0), 1, 8) := by kernel_rfl
theorem Try.intT : IntT Try.prog 26 3 := ⟨Try.underlying26, Try.info_int⟩
/-- What a call hands back that makes a row: the integers xs, in new memory. -/
def NewRow (xs : List Int) (w : World) (e : Ending) (w' : World) : Prop := ∃ v g, e = .returned v ∧ (w.heap.size ≤ g ∨ xs = []) ∧ Sl w' v g xs ∧ Fr [] w w'
theorem clone_any (w : World) (v : Value) (g : Nat) (xs : List Int) (h : Sl w v g xs) (hb : xs.length ≤ 1000000) :
    Calls Try.prog 44 #[v] w (NewRow xs w) := by
  obtain ⟨i0, hi, hz0, hz1, hz2⟩ := info_parts Try.info_int
  obtain ⟨A, o, c, rfl, _, hA, hc⟩ := h.form
  clear h
  cases A with
  | none =>
    have hx : xs = [] := by
      cases xs with
      | nil => rfl
      | cons x xs => cases hA (by simp)
    subst hx
    have hnil := fun W => Lib.run_eql_slice_nil (P := Try.prog) W 26 3 none 0 c 0 0 Try.underlying26
    clear hA hc
    go_enter Try.func44, Try.ntmps44
    go_wp2
    all_goals (go_ret; exact ⟨_, 0, rfl, .inr rfl, .inl ⟨rfl, none, 0, rfl⟩, Fr.refl _ _⟩)
  | some a =>
    have hnil := fun W => Lib.run_eql_slice_nil (P := Try.prog) W 26 3 (some a) xs.length c 0 0 Try.underlying26
    have hown := World.ownsRow_made (base := w.heap.size) (e := 3) (size := 1) w #[] 0 (Nat.le_refl _) (Nat.zero_le _) rfl
    have HA := Lib.hid hA
    have H3 := Lib.hid hc
    clear hA hc
    go_enter Try.func44, Try.ntmps44
    go_wp2_with (at_builtin; refine wpList_append_own _ rfl _ _ 26 rfl w.heap.size 3 i0 (.int .i64 0) 1 8 Try.underlying26 hi hz0 hz1 hz2 rfl (by decide) _ _ _ rfl hown a xs.length c (xs.map (Value.int .i64)) rfl (by simp) ?c1 ?c2 ?c3 ?c4 ?c5 ?_)
    case c1 =>
      intro j u hu
      have hj : j < xs.length := by simpa using (List.getElem?_eq_some_iff.1 hu).1
      obtain rfl : a = ⟨g, o, none⟩ := Option.some.inj (HA.out (by omega))
      rw [Addr.add_lit]
      have := H3.out j hj
      simp [hj] at hu
      rw [cell?_alloc_old _ this, ← hu]
      simp [nth, List.getD, hj]
    case c2 => exact ints_one (l := xs)
    case c3 => unfold maxLen; omega
    case c4 => omega
    case c5 => simp
    intro v' w1 hown1 hgr _
    obtain ⟨g', hg1, _, hsl⟩ := Sl.of_owns (xs := xs) (by simpa using hown1)
    have H4 := Lib.hid hsl
    have H5 := Lib.hid (((Fr.refl [] w).alloc (.cells #[] 3)).grown hgr (by simp [Value.ownBlock]))
    clear hown1 hgr hsl hown hnil
    go_wp2
    go_ret
    exact ⟨_, g', rfl, hg1, H4.out, H5.out⟩
end Go.Proofs.Ytmhmbgkpojgbbaa
