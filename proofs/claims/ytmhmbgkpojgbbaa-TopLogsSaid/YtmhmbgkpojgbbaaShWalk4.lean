/- The contracts of package shadow's functions that turn a table about; Slots. -/
import Derived.Test.YtmhmbgkpojgbbaaShWalk3
namespace Go.Proofs.Ytmhmbgkpojgbbaa
open Go.RowKit

theorem drop_now {d : Sh.D} (h : d.slot.length = 16) (h1 : d.old.length = 8) (h2 : d.now.length = 8) : (((ints (shRow d)).toList.drop 24).take 8).toArray = ints d.now := by
  apply Array.ext'
  simp only [ints_toList, ← List.map_drop, ← List.map_take, shRow]
  rw [List.drop_append_of_le_length (by simp; omega), List.drop_eq_nil_of_le (by simp; omega), List.nil_append, List.take_of_length_le (by omega)]
theorem drop_old {d : Sh.D} (h : d.slot.length = 16) (h1 : d.old.length = 8) : (((ints (shRow d)).toList.drop 16).take 8).toArray = ints d.old := by
  apply Array.ext'
  simp only [ints_toList, ← List.map_drop, ← List.map_take, shRow, List.append_assoc]
  rw [List.drop_append_of_le_length (by omega), List.drop_eq_nil_of_le (by omega), List.nil_append, List.take_append_of_le_length (by omega), List.take_of_length_le (by omega)]
theorem put_old {d : Sh.D} (h : d.slot.length = 16) (h1 : d.old.length = 8) (h2 : d.now.length = 8) :
    ((ints (shRow d)).toList.take 16 ++ (ints d.now).toList ++ (ints (shRow d)).toList.drop (16 + (ints d.now).size)).toArray = ints (shRow (Sh.fin d)) := by
  apply Array.ext'
  simp only [ints_toList, ← List.map_drop, ← List.map_take, ← List.map_append, shRow, size_ints, h2, Sh.fin]
  rw [List.drop_left' (by simp [h, h1]), List.append_assoc d.slot, List.take_left' h]
theorem put_now {d : Sh.D} (h : d.slot.length = 16) (h1 : d.old.length = 8) (h2 : d.now.length = 8) :
    ((ints (shRow d)).toList.take 24 ++ (ints d.old).toList ++ (ints (shRow d)).toList.drop (24 + (ints d.old).size)).toArray = ints (shRow (Sh.crash d)) := by
  apply Array.ext'
  simp only [ints_toList, ← List.map_drop, ← List.map_take, ← List.map_append, shRow, size_ints, h1, Sh.crash]
  rw [List.take_append_of_le_length (by simp; omega), List.take_of_length_le (by simp; omega), List.drop_eq_nil_of_le (by simp; omega), List.append_nil]

theorem sh_crash (w : World) (b : Nat) (d : Sh.D) (hD : ShD w b d) (h : d.slot.length = 16) (h1 : d.old.length = 8) (h2 : d.now.length = 8) :
    Calls Try.prog 17 #[.pointer (some ⟨b, 0, none⟩)] w (ShPost (.tuple #[]) b (Sh.crash d) w) := by
  have HL := Lib.hid (drop_old h h1)
  have HP := Lib.hid (put_now h h1 h2)
  have hl := Lib.hid (len_shRow h h1 h2)
  have H1 := Lib.hid h1
  have HD := Lib.hid hD
  clear h h1 h2 hD
  go_enter Try.func17, Try.ntmps17
  go_wp2_with (first
    | refine wpList_load_part rfl 59 _ rfl b 16 8 rfl 61 (ints (shRow d)) (0, 0) _ HD.out Try.underlying59 rfl (by kernel_rfl) (by rw [size_ints, hl.out]; decide) _ HL.out ?_
    | refine wpList_store_part rfl 59 _ _ rfl b 24 (ints d.old) rfl rfl 61 (ints (shRow d)) HD.out (by rw [size_ints, H1.out]; kernel_rfl) (by rw [size_ints, size_ints, hl.out, H1.out]; decide) ints_one _ HP.out ?_)
  go_returns
  exact ⟨rfl, setRow_heap _ b _ _ _ _ HD.out, (Fr.refl _ _).setRow (.inl (by simp)) _⟩

theorem diff_snoc (a b : List Int) : ∀ k, k < a.length → k < b.length → Sh.diff (a.take (k + 1)) (b.take (k + 1)) = Sh.diff (a.take k) (b.take k) + (if nth a k = nth b k then 0 else 1) := by
  induction a generalizing b with
  | nil => intro k h; simp at h
  | cons x a ih =>
    intro k h1 h2
    cases b with
    | nil => simp at h2
    | cons y b =>
      cases k with
      | zero => simp [Sh.diff, nth]
      | succ k =>
        have := ih b k (by simpa using h1) (by simpa using h2)
        simp only [List.take_succ_cons, Sh.diff, this, nth, List.getD_cons_succ]
        omega
theorem diff_bd (a b : List Int) : 0 ≤ Sh.diff a b ∧ Sh.diff a b ≤ a.length := by
  induction a generalizing b with
  | nil => simp [Sh.diff]
  | cons x a ih =>
    cases b with
    | nil => simp [Sh.diff]; omega
    | cons y b =>
      have := ih b
      simp only [Sh.diff, List.length_cons]
      split <;> omega

theorem sh_end (w : World) (b : Nat) (d : Sh.D) (hD : ShD w b d) (h : d.slot.length = 16) (h1 : d.old.length = 8) (h2 : d.now.length = 8) :
    Calls Try.prog 18 #[.pointer (some ⟨b, 0, none⟩)] w (ShPost (.int .i64 (Sh.diff d.now d.old)) b (Sh.fin d) w) := by
  have HL := Lib.hid (drop_now h h1 h2)
  have HP := Lib.hid (put_old h h1 h2)
  have hl := Lib.hid (len_shRow h h1 h2)
  have H1 := Lib.hid h1
  have H2 := Lib.hid h2
  have HD := Lib.hid hD
  have HO : Hid (∀ i, i < 8 → w.cell? ⟨b, 16 + i, none⟩ = some (.int .i64 (nth d.old i))) := fun i hi => hD.old h h1 h2 hi
  have HN : Hid (∀ i, i < 8 → w.cell? ⟨b, 24 + i, none⟩ = some (.int .i64 (nth d.now i))) := fun i hi => hD.now h h1 h2 hi
  clear h h1 h2 hD
  go_enter Try.func18, Try.ntmps18
  go_wp2
  go_loopw [3, 5] (fun v i wr => ∃ k : Nat, k ≤ 8 ∧ i = .int .i64 k ∧ Dr w wr ∧ v = .int .i64 (Sh.diff (d.now.take k) (d.old.take k))) (fun _ i _ => 8 - (intOf i).toNat)
  case atStart => exact ⟨0, Nat.zero_le _, rfl, Dr.refl _, rfl⟩
  case round =>
    obtain ⟨k, hk, rfl, ⟨n, rfl⟩, rfl⟩ := hrel
    by_cases hlt : k < 8
    · have c1 := HO.out k hlt
      have c2 := HN.out k hlt
      have i1 : (0 : Int) ≤ k := by omega
      have i2 : (k : Int) < 8 := by omega
      have hs := Lib.hid (diff_snoc d.now d.old k (by rw [H2.out]; exact hlt) (by rw [H1.out]; exact hlt))
      obtain ⟨b1, b2⟩ := diff_bd (d.now.take k) (d.old.take k)
      have b3 : ((d.now.take k).length : Int) ≤ 8 := by simp; omega
      by_cases he : nth d.now k = nth d.old k
      · have eB : (nth d.now k != nth d.old k) = false := by simpa using he
        have hs' : Hid (Sh.diff (d.now.take (k + 1)) (d.old.take (k + 1)) = Sh.diff (d.now.take k) (d.old.take k)) := by
          have := hs.out; rw [if_pos he, Int.add_zero] at this; exact this
        clear he hs
        go_wp2
        go_quiet (fail)
        go_wp2
        go_roundw
        case rel => exact ⟨k + 1, by omega, by go_num, by first | exact Dr.two _ _ _ | exact Dr.one _ _, by rw [hs'.out]⟩
        case measure => simp [intOf]; omega
      · have eB : (nth d.now k != nth d.old k) = true := by simpa using he
        have hs' : Hid (Sh.diff (d.now.take (k + 1)) (d.old.take (k + 1)) = Sh.diff (d.now.take k) (d.old.take k) + 1) := by
          have := hs.out; rw [if_neg he] at this; exact this
        clear he hs
        go_wp2
        go_quiet (fail)
        go_wp2
        go_roundw
        case rel => exact ⟨k + 1, by omega, by go_num, by first | exact Dr.two _ _ _ | exact Dr.one _ _, by rw [hs'.out]⟩
        case measure => simp [intOf]; omega
    · have hk8 : k = 8 := by omega
      subst hk8
      have e1 : d.now.take 8 = d.now := List.take_of_length_le (by rw [H2.out]; exact Nat.le_refl _)
      have e2 : d.old.take 8 = d.old := List.take_of_length_le (by rw [H1.out]; exact Nat.le_refl _)
      rw [e1, e2]
      clear e1 e2
      go_wp2_with (first
        | refine wpList_load_part rfl 59 _ rfl b 24 8 rfl 61 (ints (shRow d)) (0, 0) _ HD.out Try.underlying59 rfl (by kernel_rfl) (by rw [size_ints, hl.out]; decide) _ HL.out ?_
        | refine wpList_store_part rfl 59 _ _ rfl b 16 (ints d.now) rfl rfl 61 (ints (shRow d)) HD.out (by rw [size_ints, H2.out]; kernel_rfl) (by rw [size_ints, size_ints, hl.out, H2.out]; decide) ints_one _ HP.out ?_)
      go_ret
      exact ⟨rfl, setRow_heap _ b _ _ _ _ HD.out, ((Fr.refl _ _).drewN _).setRow (.inl (by simp)) _⟩

theorem sh_slots (w : World) (b : Nat) (d : Sh.D) (hD : ShD w b d) (h : d.slot.length = 16) (h1 : d.old.length = 8) (h2 : d.now.length = 8) :
    Calls Try.prog 20 #[.pointer (some ⟨b, 0, none⟩)] w (NewRow d.now w) := by
  have HC := Lib.hid (clone_any w _ b d.now (hD.slNow h h1 h2) (by omega))
  clear h h1 h2 hD
  go_enter Try.func20, Try.ntmps20
  go_wp2_with (go_at_call 44; (with_reducible refine HC.out.mono ?_); rintro e w1 ⟨v, g, rfl, hg⟩; have HG := Lib.hid hg; clear hg)
  go_ret
  exact ⟨_, g, rfl, HG.out⟩
end Go.Proofs.Ytmhmbgkpojgbbaa
