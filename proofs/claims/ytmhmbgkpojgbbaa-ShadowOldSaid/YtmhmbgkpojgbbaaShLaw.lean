/- What the laws on package shadow begin with: Write at every input, the closed fact, a disk that was written and ended. -/
import Derived.Test.YtmhmbgkpojgbbaaShWalk4
namespace Go.Proofs.Ytmhmbgkpojgbbaa
open Go.RowKit

theorem Sh.OK.shT_old {d : Sh.D} (h : Sh.OK d) : ShT d.old := ⟨h.told.len, h.told.hi⟩
theorem Sh.OK.shT_now {d : Sh.D} (h : Sh.OK d) : ShT d.now := ⟨h.tnow.len, h.tnow.hi⟩
theorem vals_ne {l t : List Int} (h : t.length = 8) : Sh.vals l t ≠ [] := fun e => by
  have : (Sh.vals l t).length = 8 := by simp [Sh.vals, h]
  rw [e] at this; cases this
/-- What Write hands back, at every input. -/
def shAns (d : Sh.D) (page value : Int) : Value := if Sh.okP page value then .tuple #[.int .i64 (nth (Sh.now1 d page.toNat) page.toNat), .nilIface] else shErr 1
theorem sh_write (w : World) (b : Nat) (d : Sh.D) (page value : Int) (hD : ShD w b d) (hd : Sh.OK d) :
    Calls Try.prog 15 #[.pointer (some ⟨b, 0, none⟩), .int .i64 page, .int .i64 value] w (ShPost (shAns d page value) b (Sh.write d page value) w) := by
  by_cases hok : Sh.okP page value
  · unfold shAns Sh.write
    rw [if_pos hok, if_pos hok]
    unfold Sh.okP at hok
    obtain ⟨p, rfl⟩ : ∃ p : Nat, page = (p : Int) := ⟨page.toNat, by omega⟩
    rw [Int.toNat_natCast]
    have hp : p < 8 := by omega
    by_cases he : nth d.now p = nth d.old p
    · obtain ⟨k, h1, h2, _⟩ := Sh.free_spec hd hp he
      have e1 : Sh.now1 d p = d.now.set p k := by unfold Sh.now1; rw [if_pos he, h2]
      have e2 : nth (d.now.set p (k : Int)) p = k := by rw [Sh.nth_set _ _ _ _ (by rw [hd.tnow.len]; exact hp), if_pos rfl]
      have := sh_write_new b p value k w d hD hd.slots hd.told.len hd.tnow.len hp hok.2 he h2 (by omega) (by omega)
      unfold Sh.put
      rw [e1, e2]
      exact this
    · have h0 := (hd.fresh p p hp hp he).1
      have e1 : Sh.now1 d p = d.now := by unfold Sh.now1; rw [if_neg he]
      have := sh_write_same b p value (nth d.now p) w d hD hd.slots hd.told.len hd.tnow.len hp hok.2 rfl he h0 (hd.tnow.hi p hp)
      unfold Sh.put
      rw [e1]
      exact this
  · unfold shAns Sh.write
    rw [if_neg hok, if_neg hok]
    exact (sh_write_bad b page value w hok).mono fun e w' ⟨h1, h2⟩ => ⟨h1, by rw [← h2]; exact hD, by rw [← h2]; exact Fr.refl _ _⟩

/-- The call hands back b's block as a disk; nothing that was there has turned. -/
def ShMade (d : Sh.D) (w : World) (e : Ending) (w' : World) : Prop := ∃ b, e = .returned (.pointer (some ⟨b, 0, none⟩)) ∧ w.heap.size ≤ b ∧ ShD w' b d ∧ Fr [] w w'
theorem sh_new' (w : World) : Calls Try.prog 40 #[] w (ShMade Sh.new w) :=
  (sh_new w).mono fun e w' ⟨h1, h2⟩ => ⟨w.heap.size, h1, Nat.le_refl _, by rw [h2]; exact heap_alloc_new w _, by rw [h2]; exact (Fr.refl _ _).alloc _⟩

theorem sh_beside (w : World) (B : Nat) (v : Value) (ls : List (List Int)) (hR : Rw B w v ls) (hB : B ≤ w.heap.size) :
    Calls Try.prog 13 #[v] w (ShMade (Sh.run Sh.new (ls.take 60)) w) := by
  obtain ⟨A, g, o, c, rfl, hm, hF⟩ := hR
  have HF := Lib.hid hF
  clear hF
  go_enter Try.func13, Try.ntmps13
  go_wp2_with (go_at_call 40; (with_reducible refine (sh_new' _).mono ?_); rintro e w0 ⟨b, rfl, hb, hD0, hF0⟩; have HD0 := Lib.hid hD0; have HF0 := Lib.hid hF0; clear hD0 hF0)
  go_loopw [4] (fun i wr => ∃ k : Nat, k ≤ ls.length ∧ k ≤ 60 ∧ i = .int .i64 k ∧ Hid (ShD wr b (Sh.run Sh.new (ls.take k))) ∧ Hid (Fr [] w wr)) (fun i _ => 60 - (intOf i).toNat)
  case atStart => exact ⟨0, Nat.zero_le _, Nat.zero_le _, rfl, HD0.out, HF0.out⟩
  case round =>
    obtain ⟨k, hk, hk6, rfl, hD, hFr⟩ := hrel
    clear HD0 HF0
    have HOK := Lib.hid (Sh.run_ok Sh.new_ok (ls.take k))
    by_cases hlt : k < ls.length
    · by_cases h60 : k < 60
      · obtain ⟨rfl, hg⟩ := HF.out.1 (by omega)
        obtain ⟨u, kb, hcell, hkb, hsl, _⟩ := (HF.out.below (hFr.out.toBelow hB (by simp))).2 k hlt
        obtain ⟨A', o', c', rfl, hm', hA', hc'⟩ := hsl.form
        have HA' := Lib.hid hA'
        have HC' := Lib.hid hc'
        have hs := Lib.hid (Sh.run_snoc Sh.new ls k hlt)
        have i0 : (0 : Int) ≤ k := by omega
        have i1 : (k : Int) < ls.length := by omega
        clear hA' hc' hsl hkb
        by_cases hl2 : (nthR ls k).length = 2
        · obtain rfl := HA'.out (by omega)
          have c0 := HC'.out 0 (by omega)
          rw [Nat.add_zero] at c0
          have c1 := HC'.out 1 (by omega)
          have e2 : ((nthR ls k).length : Int) = 2 := by omega
          have hw := Lib.hid (show Sh.step (Sh.run Sh.new (ls.take k)) (nthR ls k) = Sh.write (Sh.run Sh.new (ls.take k)) (nth (nthR ls k) 0) (nth (nthR ls k) 1) from by unfold Sh.step; rw [if_pos hl2])
          clear hl2
          go_wp2
          go_still_tail 13, (by kernel_rfl)
          go_wp2_with (go_at_call 15; (with_reducible refine useC (sh_write _ b _ _ _ ?_ HOK.out) ?_); exact hD.out; rintro e w1 ⟨rfl, hD1, hF1⟩; have HD1 := Lib.hid hD1; have HF1 := Lib.hid hF1; clear hD1 hF1)
          go_roundw
          case rel => exact ⟨k + 1, by omega, by omega, by go_num, by rw [hs.out, hw.out]; exact HD1.out, hFr.out.step (((Fr.refl [b] wr).drew).trans HF1.out) (by simp; omega)⟩
          case measure => simp [intOf]; omega
        · have e2 : (((nthR ls k).length : Int) == 2) = false := by simp; omega
          by_cases hl1 : (nthR ls k).length = 1
          · have e1 : ((nthR ls k).length : Int) = 1 := by omega
            have hw := Lib.hid (show Sh.step (Sh.run Sh.new (ls.take k)) (nthR ls k) = Sh.fin (Sh.run Sh.new (ls.take k)) from by unfold Sh.step; rw [if_neg hl2, if_pos hl1])
            clear hl2 hl1
            go_wp2_with (go_at_call 18; (with_reducible refine (sh_end _ b _ hD.out HOK.out.slots HOK.out.told.len HOK.out.tnow.len).mono ?_); rintro e w1 ⟨rfl, hD1, hF1⟩; have HD1 := Lib.hid hD1; have HF1 := Lib.hid hF1; clear hD1 hF1)
            go_roundw
            case rel => exact ⟨k + 1, by omega, by omega, by go_num, by rw [hs.out, hw.out]; exact HD1.out, hFr.out.step HF1.out (by simp; omega)⟩
            case measure => simp [intOf]; omega
          · have e1 : (((nthR ls k).length : Int) == 1) = false := by simp; omega
            have hw := Lib.hid (show Sh.step (Sh.run Sh.new (ls.take k)) (nthR ls k) = Sh.run Sh.new (ls.take k) from by unfold Sh.step; rw [if_neg hl2, if_neg hl1])
            clear hl2 hl1
            go_wp2
            go_roundw
            case rel => exact ⟨k + 1, by omega, by omega, by go_num, by rw [hs.out, hw.out]; exact hD.out, hFr.out⟩
            case measure => simp [intOf]; omega
      · have e60 : k = 60 := by omega
        subst e60
        go_wp2
        go_ret
        exact ⟨b, rfl, hb, hD.out, hFr.out⟩
    · have ek : ls.take k = ls.take 60 := by rw [List.take_of_length_le (by omega), List.take_of_length_le (by omega)]
      rw [ek] at hD
      clear ek
      go_wp2
      go_ret
      exact ⟨b, rfl, hb, hD.out, hFr.out⟩
end Go.Proofs.Ytmhmbgkpojgbbaa
