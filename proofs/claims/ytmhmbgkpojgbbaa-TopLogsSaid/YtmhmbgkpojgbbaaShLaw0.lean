/- What the laws on package shadow begin with: Write at every input, the closed fact, a disk that was written and ended. -/
import Derived.Test.YtmhmbgkpojgbbaaShWalk4
namespace Go.Proofs.Ytmhmbgkpojgbbaa
open Go.RowKit

theorem Sh.OK.shT_old {d : Sh.D} (h : Sh.OK d) : ShT d.old := ⟨h.told.len, h.told.hi⟩
theorem Sh.OK.shT_now {d : Sh.D} (h : Sh.OK d) : ShT d.now := ⟨h.tnow.len, h.tnow.hi⟩
theorem vals_ne {l t : List Int} (h : t.length = 8) : Sh.vals l t ≠ [] := fun e => by
  have : (Sh.vals l t).length = 8 := by simp [Sh.vals, h]
  rw [e] at this; cases this
/-- What Write hands back, at every input. -/
def shAns (d : Sh.D) (page value : Int) : Value := if Sh.okP page value then .tuple #[.int .i64 (nth (Sh.now1 d page.toNat) page.toNat), .nilIface] else shErr 1
theorem sh_write (w : World) (b : Nat) (d : Sh.D) (page value : Int) (hD : ShD w b d) (hd : Sh.OK d) :
    Calls Try.prog 15 #[.pointer (some ⟨b, 0, none⟩), .int .i64 page, .int .i64 value] w (ShPost (shAns d page value) b (Sh.write d page value) w) := by
  by_cases hok : Sh.okP page value
  · unfold shAns Sh.write
    rw [if_pos hok, if_pos hok]
    unfold Sh.okP at hok
    obtain ⟨p, rfl⟩ : ∃ p : Nat, page = (p : Int) := ⟨page.toNat, by omega⟩
    rw [Int.toNat_natCast]
    have hp : p < 8 := by omega
    by_cases he : nth d.now p = nth d.old p
    · obtain ⟨k, h1, h2, _⟩ := Sh.free_spec hd hp he
      have e1 : Sh.now1 d p = d.now.set p k := by unfold Sh.now1; rw [if_pos he, h2]
      have e2 : nth (d.now.set p (k : Int)) p = k := by rw [Sh.nth_set _ _ _ _ (by rw [hd.tnow.len]; exact hp), if_pos rfl]
      have := sh_write_new b p value k w d hD hd.slots hd.told.len hd.tnow.len hp hok.2 he h2 (by omega) (by omega)
      unfold Sh.put
      rw [e1, e2]
      exact this
    · have h0 := (hd.fresh p p hp hp he).1
      have e1 : Sh.now1 d p = d.now := by unfold Sh.now1; rw [if_neg he]
      have := sh_write_same b p value (nth d.now p) w d hD hd.slots hd.told.len hd.tnow.len hp hok.2 rfl he h0 (hd.tnow.hi p hp)
      unfold Sh.put
      rw [e1]
      exact this
  · unfold shAns Sh.write
    rw [if_neg hok, if_neg hok]
    exact (sh_write_bad b page value w hok).mono fun e w' ⟨h1, h2⟩ => ⟨h1, by rw [← h2]; exact hD, by rw [← h2]; exact Fr.refl _ _⟩

/-- The call hands back b's block as a disk; nothing that was there has turned. -/
def ShMade (d : Sh.D) (w : World) (e : Ending) (w' : World) : Prop := ∃ b, e = .returned (.pointer (some ⟨b, 0, none⟩)) ∧ w.heap.size ≤ b ∧ ShD w' b d ∧ Fr [] w w'
theorem sh_new' (w : World) : Calls Try.prog 40 #[] w (ShMade Sh.new w) :=
  (sh_new w).mono fun e w' ⟨h1, h2⟩ => ⟨w.heap.size, h1, Nat.le_refl _, by rw [h2]; exact heap_alloc_new w _, by rw [h2]; exact (Fr.refl _ _).alloc _⟩
end Go.Proofs.Ytmhmbgkpojgbbaa
