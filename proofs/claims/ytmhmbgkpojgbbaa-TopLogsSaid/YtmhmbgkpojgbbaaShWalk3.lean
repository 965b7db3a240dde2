/- The contracts of package shadow's functions that make rows, or turn a table about (2). -/
import Derived.Test.YtmhmbgkpojgbbaaShWalk2
namespace Go.Proofs.Ytmhmbgkpojgbbaa
open Go.RowKit

theorem ints8 {t : List Int} (h : t.length = 8) : ints t = #[.int .i64 (nth t 0), .int .i64 (nth t 1), .int .i64 (nth t 2), .int .i64 (nth t 3), .int .i64 (nth t 4), .int .i64 (nth t 5), .int .i64 (nth t 6), .int .i64 (nth t 7)] := by
  match t, h with
  | [a, b, c, d, e, f, g, i], _ => rfl

/-- What Values hands back: two rows. -/
def TwoRows (xs ys : List Int) (w : World) (e : Ending) (w' : World) : Prop :=
  ∃ v u g g', e = .returned (.tuple #[v, u]) ∧ (w.heap.size ≤ g ∨ xs = []) ∧ (w.heap.size ≤ g' ∨ ys = []) ∧ Sl w' v g xs ∧ Sl w' u g' ys ∧ Fr [] w w'

set_option maxHeartbeats 400000 in
theorem sh_Values (w : World) (b : Nat) (d : Sh.D) (hD : ShD w b d) (h : d.slot.length = 16) (h1 : ShT d.old) (h2 : ShT d.now) :
    Calls Try.prog 14 #[.pointer (some ⟨b, 0, none⟩)] w (TwoRows (Sh.vals d.slot d.now) (Sh.vals d.slot d.old) w) := by
  have HV : Hid (∀ W, ShD W b d → ∀ t, t = d.old ∨ t = d.now → Calls Try.prog 41 #[.pointer (some ⟨b, 0, none⟩), .agg #[.int .i64 (nth t 0), .int .i64 (nth t 1), .int .i64 (nth t 2), .int .i64 (nth t 3), .int .i64 (nth t 4), .int .i64 (nth t 5), .int .i64 (nth t 6), .int .i64 (nth t 7)]] W (NewRow (Sh.vals d.slot t) W)) := by
    rintro W hW t (rfl | rfl)
    · rw [← ints8 h1.1]; exact sh_values W b d d.old hW h h1.1 h2.1 h1
    · rw [← ints8 h2.1]; exact sh_values W b d d.now hW h h1.1 h2.1 h2
  have HC : Hid (∀ W, Fr [] w W → W.cell? ⟨b, 16, none⟩ = some (.int .i64 (nth d.old 0)) ∧ W.cell? ⟨b, 17, none⟩ = some (.int .i64 (nth d.old 1)) ∧ W.cell? ⟨b, 18, none⟩ = some (.int .i64 (nth d.old 2)) ∧ W.cell? ⟨b, 19, none⟩ = some (.int .i64 (nth d.old 3)) ∧ W.cell? ⟨b, 20, none⟩ = some (.int .i64 (nth d.old 4)) ∧ W.cell? ⟨b, 21, none⟩ = some (.int .i64 (nth d.old 5)) ∧ W.cell? ⟨b, 22, none⟩ = some (.int .i64 (nth d.old 6)) ∧ W.cell? ⟨b, 23, none⟩ = some (.int .i64 (nth d.old 7)) ∧ W.cell? ⟨b, 24, none⟩ = some (.int .i64 (nth d.now 0)) ∧ W.cell? ⟨b, 25, none⟩ = some (.int .i64 (nth d.now 1)) ∧ W.cell? ⟨b, 26, none⟩ = some (.int .i64 (nth d.now 2)) ∧ W.cell? ⟨b, 27, none⟩ = some (.int .i64 (nth d.now 3)) ∧ W.cell? ⟨b, 28, none⟩ = some (.int .i64 (nth d.now 4)) ∧ W.cell? ⟨b, 29, none⟩ = some (.int .i64 (nth d.now 5)) ∧ W.cell? ⟨b, 30, none⟩ = some (.int .i64 (nth d.now 6)) ∧ W.cell? ⟨b, 31, none⟩ = some (.int .i64 (nth d.now 7))) := fun W hW => by
    have hO := fun (i : Nat) (hi : i < 8) => ShD.old (hW.get hD (by simp)) h h1.1 h2.1 hi
    have hN := fun (i : Nat) (hi : i < 8) => ShD.now (hW.get hD (by simp)) h h1.1 h2.1 hi
    exact ⟨hO 0 (by decide), hO 1 (by decide), hO 2 (by decide), hO 3 (by decide), hO 4 (by decide), hO 5 (by decide), hO 6 (by decide), hO 7 (by decide), hN 0 (by decide), hN 1 (by decide), hN 2 (by decide), hN 3 (by decide), hN 4 (by decide), hN 5 (by decide), hN 6 (by decide), hN 7 (by decide)⟩
  have H0 : Hid (∀ W, Fr [] w W → ShD W b d) := fun W hW => hW.get hD (by simp)
  clear hD h h1 h2
  go_enter Try.func14, Try.ntmps14
  go_wp2
  go_region_held3 (fun W => Fr [] w W ∧ W.cell? ⟨b, 16, none⟩ = some (.int .i64 (nth d.old 0)) ∧ W.cell? ⟨b, 17, none⟩ = some (.int .i64 (nth d.old 1)) ∧ W.cell? ⟨b, 18, none⟩ = some (.int .i64 (nth d.old 2)) ∧ W.cell? ⟨b, 19, none⟩ = some (.int .i64 (nth d.old 3)) ∧ W.cell? ⟨b, 20, none⟩ = some (.int .i64 (nth d.old 4)) ∧ W.cell? ⟨b, 21, none⟩ = some (.int .i64 (nth d.old 5)) ∧ W.cell? ⟨b, 22, none⟩ = some (.int .i64 (nth d.old 6)) ∧ W.cell? ⟨b, 23, none⟩ = some (.int .i64 (nth d.old 7)) ∧ W.cell? ⟨b, 24, none⟩ = some (.int .i64 (nth d.now 0)) ∧ W.cell? ⟨b, 25, none⟩ = some (.int .i64 (nth d.now 1)) ∧ W.cell? ⟨b, 26, none⟩ = some (.int .i64 (nth d.now 2)) ∧ W.cell? ⟨b, 27, none⟩ = some (.int .i64 (nth d.now 3)) ∧ W.cell? ⟨b, 28, none⟩ = some (.int .i64 (nth d.now 4)) ∧ W.cell? ⟨b, 29, none⟩ = some (.int .i64 (nth d.now 5)) ∧ W.cell? ⟨b, 30, none⟩ = some (.int .i64 (nth d.now 6)) ∧ W.cell? ⟨b, 31, none⟩ = some (.int .i64 (nth d.now 7))) ((refine (fun hf => ⟨hf, HC.out _ hf⟩) ?_; first | assumption | exact (Fr.refl _ _).drew)) (first
    | (go_at_call 41; (with_reducible refine (HV.out _ (H0.out _ (Fr.refl _ _).drew) d.now (.inr rfl)).mono ?_); rintro e w1 ⟨v1, g1, rfl, hg1, hsl1, hf1⟩; have A1 := Lib.hid (And.intro hg1 hsl1); have hF1 : Fr [] w w1 := (Fr.refl _ _).drew.trans hf1; clear hg1 hsl1 hf1)
    | (go_at_call 41; (with_reducible refine (HV.out w1 (H0.out _ hF1) d.old (.inl rfl)).mono ?_); rintro e w2 ⟨v2, g2, rfl, hg2, hsl2, hf2⟩; have A2 := Lib.hid (And.intro hg2 (And.intro hsl2 hf2)); have hF2 : Fr [] w w2 := hF1.trans hf2; clear hg2 hsl2 hf2))
  have hR := Lib.hid (show (w.heap.size ≤ g1 ∨ Sh.vals d.slot d.now = []) ∧ (w.heap.size ≤ g2 ∨ Sh.vals d.slot d.old = []) ∧ Sl w2 v1 g1 (Sh.vals d.slot d.now) ∧ Sl w2 v2 g2 (Sh.vals d.slot d.old) ∧ Fr [] w w2 from
    ⟨A1.out.1, A2.out.1.imp_left (Nat.le_trans hF1.size), A1.out.2.fr A2.out.2.2 (by simp), A2.out.2.1, hF2⟩)
  clear A1 A2 hF1 hF2 HV HC H0
  go_wp2
  go_ret2
  exact ⟨_, _, g1, g2, rfl, hR.out⟩
end Go.Proofs.Ytmhmbgkpojgbbaa
