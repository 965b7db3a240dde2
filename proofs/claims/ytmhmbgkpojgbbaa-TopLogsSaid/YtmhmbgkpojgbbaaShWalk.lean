/- The contracts of package shadow's functions, over the plain model. -/
import Derived.Test.YtmhmbgkpojgbbaaCIn3
import Derived.Test.YtmhmbgkpojgbbaaCIdx
import Derived.Test.YtmhmbgkpojgbbaaCInts
import Derived.Test.YtmhmbgkpojgbbaaCClone
import Derived.Test.YtmhmbgkpojgbbaaShPlain
import Derived.Handy
namespace Go.Proofs.Ytmhmbgkpojgbbaa
open Go.RowKit

def shRow (d : Sh.D) : List Int := d.slot ++ d.old ++ d.now
/-- Block b holds the disk d. -/
def ShD (w : World) (b : Nat) (d : Sh.D) : Prop := w.heap[b]? = some (.cells (ints (shRow d)) 61 (0, 0))

theorem nth_slot {d : Sh.D} (h : d.slot.length = 16) {i : Nat} (hi : i < 16) : nth (shRow d) i = nth d.slot i := by
  simp [nth, shRow, List.getD, h, hi, Nat.lt_of_lt_of_le hi (Nat.le_add_right 16 _)]
theorem nth_old {d : Sh.D} (h : d.slot.length = 16) (h1 : d.old.length = 8) {i : Nat} (hi : i < 8) : nth (shRow d) (16 + i) = nth d.old i := by
  simp [nth, shRow, List.getD, List.getElem?_append, h, h1, hi, show ¬ 16 + i < 16 by omega]
theorem nth_now {d : Sh.D} (h : d.slot.length = 16) (h1 : d.old.length = 8) {i : Nat} : nth (shRow d) (24 + i) = nth d.now i := by
  simp [nth, shRow, List.getD, List.getElem?_append, h, h1, show ¬ 24 + i < 16 by omega, show ¬ 24 + i - 16 < 8 by omega, show 24 + i - 16 - 8 = i by omega]
theorem len_shRow {d : Sh.D} (h : d.slot.length = 16) (h1 : d.old.length = 8) (h2 : d.now.length = 8) : (shRow d).length = 32 := by simp [shRow, h, h1, h2]

section
variable {w : World} {b : Nat} {d : Sh.D}
theorem ShD.slot (hD : ShD w b d) (h : d.slot.length = 16) (h1 : d.old.length = 8) (h2 : d.now.length = 8) {i : Nat} (hi : i < 16) : w.cell? ⟨b, i, none⟩ = some (.int .i64 (nth d.slot i)) := by
  rw [← nth_slot h hi]; exact cell_ints hD (by rw [len_shRow h h1 h2]; omega)
theorem ShD.old (hD : ShD w b d) (h : d.slot.length = 16) (h1 : d.old.length = 8) (h2 : d.now.length = 8) {i : Nat} (hi : i < 8) : w.cell? ⟨b, 16 + i, none⟩ = some (.int .i64 (nth d.old i)) := by
  rw [← nth_old h h1 hi]; exact cell_ints hD (by rw [len_shRow h h1 h2]; omega)
theorem ShD.now (hD : ShD w b d) (h : d.slot.length = 16) (h1 : d.old.length = 8) (h2 : d.now.length = 8) {i : Nat} (hi : i < 8) : w.cell? ⟨b, 24 + i, none⟩ = some (.int .i64 (nth d.now i)) := by
  rw [← nth_now h h1]; exact cell_ints hD (by rw [len_shRow h h1 h2]; omega)
theorem ShD.slOld (hD : ShD w b d) (h : d.slot.length = 16) (h1 : d.old.length = 8) (h2 : d.now.length = 8) : Sl w (.slice (some ⟨b, 16, none⟩) 8 8) b d.old :=
  .inr ⟨16, 8, by rw [h1], by omega, by decide, fun i hi => hD.old h h1 h2 (by omega)⟩
theorem ShD.slNow (hD : ShD w b d) (h : d.slot.length = 16) (h1 : d.old.length = 8) (h2 : d.now.length = 8) : Sl w (.slice (some ⟨b, 24, none⟩) 8 8) b d.now :=
  .inr ⟨24, 8, by rw [h2], by omega, by decide, fun i hi => hD.now h h1 h2 (by omega)⟩
end

set_option maxRecDepth 100000 in
theorem sh_new (w : World) : Calls Try.prog 40 #[] w fun e w' => e = .returned (.pointer (some ⟨w.heap.size, 0, none⟩)) ∧ w' = w.alloc (.cells (ints (shRow Sh.new)) 61 (0, 0)) := by
  go_enter Try.func40, Try.ntmps40
  go_wp2
  go_rounds 9
  go_ret
  exact ⟨rfl, rfl⟩

theorem sh_free (w : World) (b : Nat) (d : Sh.D) (hD : ShD w b d) (h : d.slot.length = 16) (h1 : d.old.length = 8) (h2 : d.now.length = 8) :
    Calls Try.prog 43 #[.pointer (some ⟨b, 0, none⟩)] w fun e w' => e = .returned (.int .i64 (Sh.free d)) ∧ w = w' := by
  have S1 := Lib.hid (hD.slOld h h1 h2)
  have S2 := Lib.hid (hD.slNow h h1 h2)
  clear hD h h1 h2
  go_enter Try.func43, Try.ntmps43
  go_wp2
  go_loop [4] (fun i => ∃ k : Nat, k ≤ 16 ∧ i = .int .i64 k ∧ Hid (Sh.free d = Sh.freeFrom d (16 - k) k)) (fun i => 16 - (intOf i).toNat)
  case atStart => exact ⟨0, Nat.zero_le _, rfl, rfl⟩
  case round =>
    obtain ⟨k, hk, rfl, hf⟩ := hrel
    by_cases hlt : k < 16
    · have e1 : 16 - k = (15 - k) + 1 := by omega
      have hf' : Hid (Sh.free d = if Sh.freeB d k then (k : Int) else Sh.freeFrom d (16 - (k + 1)) (k + 1)) := by
        have := hf.out
        rw [e1] at this
        rw [show 16 - (k + 1) = 15 - k by omega]
        exact this
      clear hf e1
      cases hO : hasB d.old k with
      | true =>
        have HO := Lib.hid hO
        clear hO
        go_wp2_with (go_at_call 53; refine (contains_any _ _ b d.old k S1.out).mono ?_; rw [HO.out]; rintro e w' ⟨rfl, rfl⟩)
        go_round
        case rel => exact ⟨k + 1, by omega, by go_num, by rw [show Sh.freeB d k = false from by unfold Sh.freeB; rw [show d.old.contains (k : Int) = true from HO.out]; rfl] at hf'; exact hf'⟩
        case measure => simp [intOf]; omega
      | false =>
        have HO := Lib.hid hO
        clear hO
        cases hN : hasB d.now k with
        | true =>
          have HN := Lib.hid hN
          clear hN
          go_wp2_with fail
          refine (contains_any _ _ b d.old k S1.out).mono ?_; rw [HO.out]; rintro e w' ⟨rfl, rfl⟩
          go_wp2_with fail
          refine (contains_any _ _ b d.now k S2.out).mono ?_; rw [HN.out]; rintro e w' ⟨rfl, rfl⟩
          go_wp2
          go_round
          case rel => exact ⟨k + 1, by omega, by go_num, by rw [show Sh.freeB d k = false from by unfold Sh.freeB; rw [show d.old.contains (k : Int) = false from HO.out, show d.now.contains (k : Int) = true from HN.out]; rfl] at hf'; exact hf'⟩
          case measure => simp [intOf]; omega
        | false =>
          have HN := Lib.hid hN
          clear hN
          go_wp2_with fail
          refine (contains_any _ _ b d.old k S1.out).mono ?_; rw [HO.out]; rintro e w' ⟨rfl, rfl⟩
          go_wp2_with fail
          refine (contains_any _ _ b d.now k S2.out).mono ?_; rw [HN.out]; rintro e w' ⟨rfl, rfl⟩
          go_wp2
          go_ret
          exact ⟨ret_int (by rw [hf'.out, show Sh.freeB d k = true from by unfold Sh.freeB; rw [show d.old.contains (k : Int) = false from HO.out, show d.now.contains (k : Int) = false from HN.out]; rfl]; rfl), rfl⟩
    · have hk16 : k = 16 := by omega
      subst hk16
      go_wp2
      go_ret
      exact ⟨ret_int (by rw [hf.out]; rfl), rfl⟩

/-- What Write hands back. -/
def shErr (c : Int) : Value := .tuple #[.int .i64 0, .iface 62 (.int .i64 c)]
theorem sh_write_bad (b : Nat) (page value : Int) (w : World) (h : ¬ Sh.okP page value) :
    Calls Try.prog 15 #[.pointer (some ⟨b, 0, none⟩), .int .i64 page, .int .i64 value] w fun e w' => e = .returned (shErr 1) ∧ w = w' := by
  unfold Sh.okP at h
  by_cases h1 : 0 ≤ page ∧ page ≤ 7
  · have h2 : ¬ (0 ≤ value ∧ value ≤ 1000) := fun e => h ⟨h1, e⟩
    have e1 : decide (0 ≤ page ∧ page ≤ 7) = true := by simpa using h1
    have e2 : decide (0 ≤ value ∧ value ≤ 1000) = false := by simpa using h2
    clear h h1 h2
    go_enter Try.func15, Try.ntmps15
    go_wp2_with (go_at_call 42; refine (within_any _ _ _ _).mono ?_; rintro e w' ⟨rfl, rfl⟩)
    go_ret2
    exact ⟨rfl, rfl⟩
  · have e1 : decide (0 ≤ page ∧ page ≤ 7) = false := by simpa using h1
    clear h h1
    go_enter Try.func15, Try.ntmps15
    go_wp2_with (go_at_call 42; refine (within_any _ _ _ _).mono ?_; rintro e w' ⟨rfl, rfl⟩)
    go_ret2
    exact ⟨rfl, rfl⟩

theorem shRow_slot {d : Sh.D} (h : d.slot.length = 16) {i : Nat} (hi : i < 16) (x : Int) : (shRow d).set i x = shRow { d with slot := d.slot.set i x } := by
  simp [shRow, h, hi]
theorem shRow_now {d : Sh.D} (h : d.slot.length = 16) (h1 : d.old.length = 8) {i : Nat} (x : Int) : (shRow d).set (24 + i) x = shRow { d with now := d.now.set i x } := by
  simp [shRow, List.set_append, h, h1, show ¬ 24 + i < 16 by omega, show ¬ 24 + i - 16 < 8 by omega, show 24 + i - 16 - 8 = i by omega]
/-- The call hands back v; block b holds d then; nothing else has turned. -/
def ShPost (v : Value) (b : Nat) (d : Sh.D) (w : World) (e : Ending) (w' : World) : Prop := e = .returned v ∧ ShD w' b d ∧ Fr [b] w w'
theorem ShD.setSlot {w : World} {b i : Nat} {d : Sh.D} (hD : ShD w b d) (h : d.slot.length = 16) (hi : i < 16) (x : Int) : ShD (w.setCell ⟨b, i, none⟩ (.int .i64 x)) b { d with slot := d.slot.set i x } := by
  unfold ShD; rw [← shRow_slot h hi]; exact set_ints hD x
theorem ShD.setNow {w : World} {b i : Nat} {d : Sh.D} (hD : ShD w b d) (h : d.slot.length = 16) (h1 : d.old.length = 8) (x : Int) : ShD (w.setCell ⟨b, 24 + i, none⟩ (.int .i64 x)) b { d with now := d.now.set i x } := by
  unfold ShD; rw [← shRow_now h h1]; exact set_ints hD x
/-- A write into a page that has a slot of its own (n). -/
theorem sh_write_same (b p : Nat) (value n : Int) (w : World) (d : Sh.D) (hD : ShD w b d) (h : d.slot.length = 16) (h1 : d.old.length = 8) (h2 : d.now.length = 8) (hp : p < 8) (hv : 0 ≤ value ∧ value ≤ 1000)
    (hn : nth d.now p = n) (hno : n ≠ nth d.old p) (hn0 : 0 ≤ n) (hn1 : n ≤ 15) :
    Calls Try.prog 15 #[.pointer (some ⟨b, 0, none⟩), .int .i64 p, .int .i64 value] w
      (ShPost (.tuple #[.int .i64 n, .nilIface]) b { d with slot := d.slot.set n.toNat value } w) := by
  have HD := Lib.hid hD
  have H0 := Lib.hid h
  have c1 := hD.now h h1 h2 hp
  have c2 := hD.old h h1 h2 hp
  have c3 := hD.slot h h1 h2 (i := n.toNat) (by omega)
  rw [hn] at c1
  have fz := free_block hD
  have e1 : decide ((0 : Int) ≤ p ∧ (p : Int) ≤ 7) = true := by simp; omega
  have e2 : decide (0 ≤ value ∧ value ≤ 1000) = true := by simpa using hv
  have e3 : (n == nth d.old p) = false := by simpa using hno
  have e4 : (0 : Int) ≤ p := by omega
  have e5 : (p : Int) < 8 := by omega
  have e6 : n < 16 := by omega
  clear hno hv hn hD
  go_enter Try.func15, Try.ntmps15
  go_wp2_with (go_at_call 42; refine (within_any _ _ _ _).mono ?_; rintro e w' ⟨rfl, rfl⟩)
  go_quiet (fail)
  go_wp2
  go_region
  go_wp2
  go_ret2
  exact ⟨rfl, (show ShD (w.drewN _) b d from HD.out).setSlot H0.out (by omega) value, ((Fr.refl _ _).drewN _).setCell (.inl (by simp)) _⟩

/-- A write into a page that has none: it gets the free one (f). -/
theorem sh_write_new (b p : Nat) (value f : Int) (w : World) (d : Sh.D) (hD : ShD w b d) (h : d.slot.length = 16) (h1 : d.old.length = 8) (h2 : d.now.length = 8) (hp : p < 8) (hv : 0 ≤ value ∧ value ≤ 1000)
    (hno : nth d.now p = nth d.old p) (hf : Sh.free d = f) (hf0 : 0 ≤ f) (hf1 : f ≤ 15) :
    Calls Try.prog 15 #[.pointer (some ⟨b, 0, none⟩), .int .i64 p, .int .i64 value] w
      (ShPost (.tuple #[.int .i64 f, .nilIface]) b { d with now := d.now.set p f, slot := d.slot.set f.toNat value } w) := by
  have HD := Lib.hid hD
  have H0 := Lib.hid h
  have H1 := Lib.hid h1
  have c1 := hD.now h h1 h2 hp
  have c2 := hD.old h h1 h2 hp
  rw [hno] at c1
  have c3 := hD.slot h h1 h2 (i := f.toNat) (by omega)
  have fz := free_block hD
  have e1 : decide ((0 : Int) ≤ p ∧ (p : Int) ≤ 7) = true := by simp; omega
  have e2 : decide (0 ≤ value ∧ value ≤ 1000) = true := by simpa using hv
  have e4 : (0 : Int) ≤ p := by omega
  have e5 : (p : Int) < 8 := by omega
  have e6 : f < 16 := by omega
  have HF : ∀ W, W.heap = w.heap → Calls Try.prog 43 #[.pointer (some ⟨b, 0, none⟩)] W fun e w' => e = .returned (.int .i64 f) ∧ W = w' := fun W hW => by
    rw [← hf]
    exact sh_free W b d (by unfold ShD; rw [hW]; exact hD) h h1 h2
  have HF' := Lib.hid HF
  have Hf := Lib.hid hf
  have HN := Lib.hid hno
  clear hv hD hf hno HF
  go_enter Try.func15, Try.ntmps15
  go_wp2_with (go_at_call 42; refine (within_any _ _ _ _).mono ?_; rintro e w' ⟨rfl, rfl⟩)
  go_quiet (fail)
  go_wp2
  go_region_with (go_at_call 43; refine (HF'.out _ (by rfl)).mono ?_; rintro e w' ⟨rfl, rfl⟩)
  go_wp2
  go_region
  go_wp2
  go_ret2
  exact ⟨rfl, ((show ShD (w.drewN _) b d from HD.out).setNow H0.out H1.out f).setSlot H0.out (by omega) value, ((((Fr.refl _ _).drewN _).setCell (.inl (by simp)) _).setCell (.inl (by simp)) _).drew⟩
end Go.Proofs.Ytmhmbgkpojgbbaa
