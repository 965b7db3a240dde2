/- The reference's table of open files in memory; the contracts of NewFds, least, Wrong. -/
import Derived.Test.YtmgalnkcpolafaaDoorFxPlain
import Derived.Test.YtmgalnkcpolafaaDoorSpRef
import Derived.Test.YtmgalnkcpolafaaDoorSl2
import Derived.Test.YtmgalnkcpolafaaDoorOwn2
import Derived.Test.YtmgalnkcpolafaaDoorSpHeap
namespace Go.Proofs.YtmgalnkcpolafaaDoor
open Go.RowKit

theorem Sl.emp {w : World} {v : Value} {g k : Nat} (h : Sl w v g []) : Sl w v k [] := by
  rcases h with h | ⟨o, c, h0, h1, h2, h3⟩
  · exact .inl h
  · exact .inl ⟨rfl, _, _, h0⟩
/-- A row whose block (if it has numbers) meets G. -/
def SlG (G : Nat → Prop) (w : World) (v : Value) (xs : List Int) : Prop := ∃ g, (xs = [] ∨ G g) ∧ Sl w v g xs
theorem SlG.fr {G : Nat → Prop} {w w' : World} {v : Value} {xs : List Int} (h : SlG G w v xs) (hf : Fr [] w w') : SlG G w' v xs := by
  obtain ⟨g, h1, h2⟩ := h
  exact ⟨g, h1, h2.fr hf (by simp)⟩
theorem SlG.imp {G G' : Nat → Prop} {w : World} {v : Value} {xs : List Int} (h : SlG G w v xs) (hg : ∀ k, G k → G' k) : SlG G' w v xs := by
  obtain ⟨g, h1, h2⟩ := h
  exact ⟨g, h1.imp_right (hg g), h2⟩
/-- A row that was made from block m on. -/
theorem SlG.made {G : Nat → Prop} {w : World} {v : Value} {xs : List Int} {m g : Nat} (hg : m ≤ g ∨ xs = []) (h : Sl w v g xs) (hG : ∀ k, m ≤ k → G k) : SlG G w v xs :=
  ⟨g, hg.symm.imp_right (hG g), h⟩
theorem SlG.slice {G : Nat → Prop} {w : World} {v : Value} {xs : List Int} (h : SlG G w v xs) : ∃ A c, v = .slice A xs.length c := by
  obtain ⟨g, _, h⟩ := h
  obtain ⟨A, o, c, rfl, -, -, -⟩ := h.form
  exact ⟨A, c, rfl⟩
/-- A row that may grow in place, in a block that meets G. -/
def OwnG (G : Nat → Prop) (w : World) (v : Value) (xs : List Int) : Prop := (∀ g, v.ownBlock = some g → G g) ∧ Own w 0 3 v xs
theorem Own.low {w : World} {B : Nat} {v : Value} {xs : List Int} (h : Own w B 3 v xs) : Own w 0 3 v xs := by
  obtain ⟨h1, h2⟩ := h
  refine ⟨h1, h2.imp_right ?_⟩
  rintro ⟨g, cap, cur, rfl, _, r⟩
  exact ⟨g, cap, cur, rfl, Nat.zero_le _, r⟩
theorem OwnG.fr {G : Nat → Prop} {w w' : World} {v : Value} {xs : List Int} (h : OwnG G w v xs) (hf : Fr [] w w') : OwnG G w' v xs := ⟨h.1, h.2.kept hf (by simp)⟩
theorem OwnG.imp {G G' : Nat → Prop} {w : World} {v : Value} {xs : List Int} (h : OwnG G w v xs) (hg : ∀ k, G k → G' k) : OwnG G' w v xs := ⟨fun g hh => hg g (h.1 g hh), h.2⟩
theorem OwnG.made {G : Nat → Prop} {w : World} {v : Value} {xs : List Int} {m : Nat} (h : Own w m 3 v xs) (hG : ∀ k, m ≤ k → G k) : OwnG G w v xs := ⟨fun g hh => hG g (h.ge g hh).1, h.low⟩
theorem OwnG.slice {G : Nat → Prop} {w : World} {v : Value} {xs : List Int} (h : OwnG G w v xs) : ∃ A c, v = .slice A xs.length c := h.2.slice'
theorem OwnG.row {G : Nat → Prop} {w : World} {v : Value} {xs : List Int} (h : OwnG G w v xs) (h0 : 0 < xs.length) : ∃ g c, v = .slice (some ⟨g, 0, none⟩) xs.length c ∧ G g ∧ ∀ i, i < xs.length → w.cell? ⟨g, i, none⟩ = some (.int .i64 (nth xs i)) := by
  obtain ⟨h1, h2, h3⟩ := h
  rcases h3 with ⟨_, hn⟩ | ⟨g, cap, cur, rfl, hb, hg, hc, hm, hs, ht⟩
  · omega
  · have ho : Own w 0 3 (.slice (some ⟨g, 0, none⟩) xs.length cap) xs := ⟨h2, .inr ⟨g, cap, cur, rfl, hb, hg, hc, hm, hs, ht⟩⟩
    obtain ⟨k, _, hs⟩ := ho.sl
    obtain ⟨o, c, e, -, -, hc⟩ := hs.form2 h0
    injection e with e _ e2
    injection e with e
    injection e with e1 e3 _
    subst e1 e2 e3
    exact ⟨_, _, rfl, h1 _ rfl, fun i hi => by simpa using hc i hi⟩
/-- A block of G that is no growing row's. -/
def FxR (G : Nat → Prop) (b c : Value) (g : Nat) : Prop := G g ∧ b.ownBlock ≠ some g ∧ c.ownBlock ≠ some g
/-- A value of the reference's type, and what it says. -/
def FxV (G : Nat → Prop) (w : World) (v : Value) (x : Fx.X) : Prop := ∃ a b c, v = .agg #[a, b, c] ∧ SlG (FxR G b c) w a x.of_ ∧ OwnG G w b x.sz ∧ OwnG G w c x.pl ∧ Apart b c
theorem FxV.fr {G : Nat → Prop} {w w' : World} {v : Value} {x : Fx.X} (h : FxV G w v x) (hf : Fr [] w w') : FxV G w' v x := by
  obtain ⟨a, b, c, rfl, h1, h2, h3, h4⟩ := h
  exact ⟨a, b, c, rfl, h1.fr hf, h2.fr hf, h3.fr hf, h4⟩
/-- A variable of that type. -/
def FxX (w : World) (B : Nat) (a b c : Value) : Prop := w.heap[B]? = some (.cells #[a, b, c] 38 (0, 0))
theorem FxX.cells {w : World} {B : Nat} {a b c : Value} (h : FxX w B a b c) : w.cell? ⟨B, 0, none⟩ = some a ∧ w.cell? ⟨B, 1, none⟩ = some b ∧ w.cell? ⟨B, 2, none⟩ = some c := by
  refine ⟨?_, ?_, ?_⟩ <;> rw [cell_of_row w B _ _ _ _ h] <;> rfl
theorem FxX.load {w : World} {B : Nat} {x y z : Value} (h : FxX w B x y z) : (loadVar 38 ⟨B, 0, none⟩).run Tryd.prog w = .ok (.agg #[x, y, z]) w := by
  have := run_load_part (P := Tryd.prog) w B 0 3 _ 38 _ _ _ h Tryd.underlying38 rfl (by kernel_rfl) (by simp)
  simpa using this
set_option maxRecDepth 100000 in
theorem fx_Wrong (w : World) (G : Nat → Prop) (v : Value) (x : Fx.X) (fd : Int) (hv : FxV G w v x) (h8 : x.of_.length = 8) :
    Calls Tryd.prog 19 #[v, .int .i64 fd] w fun e w' => e = .returned (.int .i64 (Fx.wrong x fd)) ∧ Fr [] w w' := by
  obtain ⟨a, b, c, rfl, ⟨g, -, h1⟩, h2, h3, -⟩ := hv
  obtain ⟨A2, c2, rfl⟩ := h2.slice
  obtain ⟨A3, c3, rfl⟩ := h3.slice
  obtain ⟨o1, c1, rfl, k1, k2, k3⟩ := h1.form2 (by rw [h8]; decide)
  rw [h8] at *
  have HF : Hid (Fr [] w (w.alloc (.cells #[.slice (some ⟨g, o1, none⟩) 8 c1, .slice A2 x.sz.length c2, .slice A3 x.pl.length c3] 38))) := (Fr.refl _ _).alloc _
  have HX : FxX (w.alloc (.cells #[.slice (some ⟨g, o1, none⟩) 8 c1, .slice A2 x.sz.length c2, .slice A3 x.pl.length c3] 38)) w.heap.size (.slice (some ⟨g, o1, none⟩) 8 c1) (.slice A2 x.sz.length c2) (.slice A3 x.pl.length c3) := heap_alloc_new w _
  have HX := Lib.hid HX
  by_cases h0 : 0 ≤ fd ∧ fd ≤ 7
  · have e1 := decide_eq_true h0
    obtain ⟨n, rfl⟩ : ∃ n : Nat, fd = n := ⟨fd.toNat, by omega⟩
    have hn8 : n < 8 := by omega
    have n0 : (0 : Int) ≤ n := by omega
    have n8 : (n : Int) < 8 := by omega
    have HC := Lib.hid (fun W (hW : Fr [] w W) => hW.cell (k3 n hn8) (by simp))
    have er := Lib.hid (show Fx.wrong x n = if nth x.of_ n < 0 then 5 else 0 from by unfold Fx.wrong; rw [if_pos h0]; rfl)
    clear h1 h2 h3 k1 k2 k3 h0
    go_enter Tryd.func19, Tryd.ntmps19
    go_wp2_with fail
    revert HF HX
    generalize w.alloc (.cells #[.slice (some ⟨g, o1, none⟩) 8 c1, .slice A2 x.sz.length c2, .slice A3 x.pl.length c3] 38) = w1
    intro HF HX
    refine useC (r2in_is n 0 7 true w1 e1) ?_
    rintro e w1 ⟨rfl, rfl⟩
    obtain ⟨x0, x1, x2⟩ := HX.out.cells
    have hc := HC.out w1 HF.out
    by_cases hy : nth x.of_ n < 0
    · rw [if_pos hy] at er
      generalize nth x.of_ n = y at *
      go_wp2
      go_ret
      exact ⟨by rw [er.out]; rfl, HF.out⟩
    · rw [if_neg hy] at er
      generalize nth x.of_ n = y at *
      go_wp2
      go_ret
      exact ⟨by rw [er.out]; rfl, HF.out⟩
  · have e1 := decide_eq_false h0
    have er := Lib.hid (show Fx.wrong x fd = 1 from by unfold Fx.wrong; rw [if_neg h0])
    clear h1 h2 h3 k1 k2 k3 h0
    go_enter Tryd.func19, Tryd.ntmps19
    go_wp2_with (go_at_call 39; (with_reducible refine useC (r2in_is fd 0 7 false _ e1) ?_); rintro e w1 ⟨rfl, rfl⟩)
    go_ret
    exact ⟨by rw [er.out]; rfl, HF.out⟩
theorem Fx.least_run (l : List Int) : ∀ n i k, i + n = 8 → i ≤ k → k ≤ 8 → (∀ j, i ≤ j → j < k → ¬ nth l j < 0) → (k < 8 → nth l k < 0) → Fx.leastFrom l n i = k
  | 0, i, k, h, h1, h2, _, _ => by unfold Fx.leastFrom; omega
  | n + 1, i, k, h, h1, h2, h3, h4 => by
    unfold Fx.leastFrom
    by_cases e : i = k
    · subst e; rw [if_pos (h4 (by omega))]
    · rw [if_neg (h3 i (Nat.le_refl _) (by omega))]
      exact Fx.least_run l n (i + 1) k (by omega) (by omega) h2 (fun j h5 h6 => h3 j (by omega) h6) h4
set_option maxRecDepth 100000 in
theorem fx_least (w : World) (G : Nat → Prop) (v : Value) (x : Fx.X) (hv : FxV G w v x) (h8 : x.of_.length = 8) :
    Calls Tryd.prog 40 #[v] w fun e w' => e = .returned (.int .i64 (Fx.least x : Nat)) ∧ Fr [] w w' := by
  obtain ⟨a, b, c, rfl, ⟨g, -, h1⟩, h2, h3, -⟩ := hv
  obtain ⟨A2, c2, rfl⟩ := h2.slice
  obtain ⟨A3, c3, rfl⟩ := h3.slice
  obtain ⟨o1, c1, rfl, k1, k2, k3⟩ := h1.form2 (by rw [h8]; decide)
  rw [h8] at *
  have HF : Hid (Fr [] w (w.alloc (.cells #[.slice (some ⟨g, o1, none⟩) 8 c1, .slice A2 x.sz.length c2, .slice A3 x.pl.length c3] 38))) := (Fr.refl _ _).alloc _
  have HX : FxX (w.alloc (.cells #[.slice (some ⟨g, o1, none⟩) 8 c1, .slice A2 x.sz.length c2, .slice A3 x.pl.length c3] 38)) w.heap.size (.slice (some ⟨g, o1, none⟩) 8 c1) (.slice A2 x.sz.length c2) (.slice A3 x.pl.length c3) := heap_alloc_new w _
  have HX := Lib.hid HX
  have HC := Lib.hid (fun W (hW : Fr [] w W) n (hn : n < 8) => hW.cell (k3 n hn) (by simp))
  have HLR : Hid (∀ k, k ≤ 8 → (∀ j, j < k → 0 ≤ nth x.of_ j) → (k < 8 → nth x.of_ k < 0) → Fx.least x = k) := fun k h1 h2 h3 => Fx.least_run x.of_ 8 0 k rfl (Nat.zero_le _) h1 (fun j _ h => by have := h2 j h; omega) h3
  clear h1 h2 h3 k1 k2 k3
  go_enter Tryd.func40, Tryd.ntmps40
  go_wp2_with fail
  revert HF HX
  generalize w.alloc (.cells #[.slice (some ⟨g, o1, none⟩) 8 c1, .slice A2 x.sz.length c2, .slice A3 x.pl.length c3] 38) = w1
  intro HF HX
  generalize w.heap.size = B at *
  obtain ⟨x0, x1, x2⟩ := HX.out.cells
  have hc := HC.out w1 HF.out
  go_loop [3] (fun i => ∃ k : Nat, k ≤ 8 ∧ i = .int .i64 k ∧ Hid (∀ j, j < k → 0 ≤ nth x.of_ j)) (fun i => 8 - (intOf i).toNat)
  case atStart => exact ⟨0, Nat.zero_le _, rfl, fun j hj => absurd hj (Nat.not_lt_zero _)⟩
  case round =>
    obtain ⟨k, hk, rfl, hs⟩ := hrel
    by_cases hlt : k < 8
    · have hck := hc k hlt
      have n0 : (0 : Int) ≤ k := by omega
      have n8 : (k : Int) < 8 := by omega
      by_cases hy : nth x.of_ k < 0
      · have er : Hid (Fx.least x = k) := HLR.out k hk hs.out (fun _ => hy)
        clear hc
        generalize nth x.of_ k = y at *
        go_wp2
        go_ret
        exact ⟨by rw [er.out]; rfl, HF.out⟩
      · have hs2 : Hid (∀ j, j < k + 1 → 0 ≤ nth x.of_ j) := fun j hj => by
          by_cases e : j = k
          · subst e; omega
          · exact hs.out j (by omega)
        clear hc
        generalize nth x.of_ k = y at *
        go_wp2
        go_round
        case rel => exact ⟨k + 1, by omega, by go_num, hs2⟩
        case measure => simp [intOf]; omega
    · obtain rfl : k = 8 := by omega
      have er : Hid (Fx.least x = 8) := HLR.out 8 hk hs.out (fun h => absurd h (by omega))
      clear hc
      go_wp2
      go_ret
      exact ⟨by rw [er.out]; rfl, HF.out⟩
end Go.Proofs.YtmgalnkcpolafaaDoor
