/- What the law WalPlays holds beside each other: the disk and the document's struct. -/
import Derived.Test.YtmhmbgkpojgbbaaDoorWxDownE
import Derived.Test.YtmhmbgkpojgbbaaDoorWxHome
import Derived.Test.YtmhmbgkpojgbbaaDoorWlSt
import Derived.Test.YtmhmbgkpojgbbaaDoorErr2
namespace Go.Proofs.YtmhmbgkpojgbbaaDoor
open Go.RowKit

theorem SlR.frP {α : Type} {E : Enc α} {P : Nat → Prop} {w w' : World} {v : Value} {g : Nat} {l : List α} (h : SlR E w v g l) (hf : FrP P w w') (hg : l = [] ∨ ¬ P g) : SlR E w' v g l := by
  rcases h with h | ⟨o, c, h0, h1, h2, h3⟩
  · exact .inl h
  · rcases hg with rfl | hg
    · exact .inr ⟨o, c, h0, h1, h2, fun i hi => absurd hi (by simp)⟩
    · refine .inr ⟨o, c, h0, h1, h2, fun i hi r hr => ?_⟩
      have h4 := h3 i hi r hr
      have hlt : r < (E.enc l[i]).length := by rw [E.len]; exact hr
      rw [List.getElem?_eq_getElem hlt] at h4 ⊢
      exact hf.cell h4 hg
/-- A row of structs that is none of P's blocks. -/
def RowE {α : Type} (E : Enc α) (P : Nat → Prop) (w : World) (v : Value) (xs : List α) : Prop := ∃ g, (xs = [] ∨ (¬ P g ∧ g < w.heap.size)) ∧ SlR E w v g xs
section
variable {α : Type} {E : Enc α} {w w' : World} {P P' : Nat → Prop} {v : Value} {xs : List α}
theorem RowE.of {g : Nat} (h : SlR E w v g xs) (hg : ¬ P g) : RowE E P w v xs := by
  refine ⟨g, ?_, h⟩
  by_cases hx : xs = []
  · exact .inl hx
  · exact .inr ⟨hg, h.lt hx⟩
theorem RowE.fr {S : List Nat} (h : RowE E P w v xs) (hf : Fr S w w') (hS : ∀ x ∈ S, P x) : RowE E P w' v xs := by
  obtain ⟨g, hg, hs⟩ := h
  rcases hg with hg | hg
  · subst hg
    rcases hs with hs | ⟨o, c, h0, -⟩
    · exact ⟨g, .inl rfl, .inl hs⟩
    · exact ⟨g, .inl rfl, .inl ⟨rfl, _, c, h0⟩⟩
  · exact ⟨g, .inr ⟨hg.1, Nat.lt_of_lt_of_le hg.2 hf.size⟩, hs.fr hf (fun hm => hg.1 (hS g hm))⟩
theorem RowE.turn {R : Nat → Prop} (h : RowE E P w v xs) (hf : FrP R w w') (hR : ∀ k, R k → P k) (hP : ∀ k, k < w.heap.size → P' k → P k) : RowE E P' w' v xs := by
  obtain ⟨g, hg, hs⟩ := h
  exact ⟨g, hg.imp_right (fun hg => ⟨fun hp => hg.1 (hP g hg.2 hp), Nat.lt_of_lt_of_le hg.2 hf.size⟩), hs.frP hf (hg.imp_right (fun hg hr => hg.1 (hR g hr)))⟩
theorem RowE.val (h : RowE E P w v xs) {k : Nat} (hk : ¬ P k) : ∃ g, ¬ P g ∧ SlR E w v g xs := by
  obtain ⟨g, hg, hs⟩ := h
  rcases hg with hg | hg
  · exact ⟨k, hk, hs.any hg k⟩
  · exact ⟨g, hg.1, hs⟩
theorem RowO.of1 {g : Nat} {xs : List Int} (h : Sl w v g xs) (hg : ¬ P g) : RowO P w v xs := by
  refine ⟨g, ?_, h⟩
  by_cases hx : xs = []
  · exact .inl hx
  · obtain ⟨A, o, c, rfl, -, -, hc⟩ := h.form
    exact .inr ⟨hg, block_lt_of_cell (hc 0 (List.length_pos_iff.2 hx))⟩
theorem RowO.frS {S : List Nat} {xs : List Int} (h : RowO P w v xs) (hf : Fr S w w') (hS : ∀ x ∈ S, P x) (hx : xs ≠ []) : RowO P w' v xs := by
  obtain ⟨g, hg, hs⟩ := h
  have hg := hg.resolve_left hx
  exact ⟨g, .inr ⟨hg.1, Nat.lt_of_lt_of_le hg.2 hf.size⟩, hs.fr hf (fun hm => hg.1 (hS g hm))⟩
theorem RowO.turn2 {R : Nat → Prop} {xs : List Int} (h : RowO P w v xs) (hf : FrP R w w') (hR : ∀ k, R k → P k) (hP : ∀ k, k < w.heap.size → P' k → P k) : RowO P' w' v xs := by
  obtain ⟨g, hg, hs⟩ := h
  exact ⟨g, hg.imp_right (fun hg => ⟨fun hp => hg.1 (hP g hg.2 hp), Nat.lt_of_lt_of_le hg.2 hf.size⟩), hs.frP hf (hg.imp_right (fun hg hr => hg.1 (hR g hr)))⟩
end
/-- The disk d (its block b, all its blocks those of P), the struct x (its block X), in the world wr of a call that began at w. -/
structure WxS (w wr : World) (P : Nat → Prop) (b X : Nat) (h l : Value) (d x : Wl.D) : Prop where
  disk : WlS w wr P b d
  box : WxX wr X h l x.syn
  rh : RowO (fun k => P k ∨ k = X) wr h x.home
  rl : RowE enW (fun k => P k ∨ k = X) wr l x.log
  nP : ¬ P X
  hX : w.heap.size ≤ X
  ok : Wl.OK x
  nv : Wl.Nv x.log
section
variable {w wr w' : World} {P : Nat → Prop} {b X : Nat} {h l : Value} {d d' x x' : Wl.D}
theorem WxS.fr (s : WxS w wr P b X h l d x) : Fr [] w wr := s.disk.fr
theorem WxS.ne8 (s : WxS w wr P b X h l d x) : x.home ≠ [] := fun e => by have := s.ok.home; rw [e] at this; cases this
theorem WxS.step (s : WxS w wr P b X h l d x) (hf : Fr [] wr w') : WxS w w' P b X h l d x :=
  ⟨s.disk.step hf, hf.get s.box (by simp), s.rh.step hf, s.rl.fr hf (by simp), s.nP, s.hX, s.ok, s.nv⟩
theorem WxS.turn (s : WxS w wr P b X h l d x) {v : Value} {e : Ending} (ha : WlAns P b v d' wr e w') : e = .returned v ∧ WxS w w' (Nx P wr w') b X h l d' x := by
  obtain ⟨h1, h2, h3⟩ := s.disk.turn ha
  have hlt := lt_of_heap s.box
  have hP : ∀ k, k < wr.heap.size → Nx P wr w' k ∨ k = X → P k ∨ k = X := fun k hk hn => hn.imp_left (fun hn => hn.1.resolve_right (by omega))
  exact ⟨h1, h2, (h3.block X hlt s.nP).trans s.box, s.rh.turn2 h3 (fun k hk => .inl hk) hP, s.rl.turn h3 (fun k hk => .inl hk) hP, fun hn => hn.1.elim s.nP (fun h' => by omega), s.hX, s.ok, s.nv⟩
theorem WxS.val (s : WxS w wr P b X h l d x) : WxV (fun k => ¬ (P k ∨ k = X)) wr (.agg #[h, l, .int .i64 x.syn]) x := by
  obtain ⟨g, hg, hs⟩ := s.rh
  have hg := (hg.resolve_left s.ne8).1
  obtain ⟨g2, hg2, hs2⟩ := s.rl.val hg
  exact ⟨h, l, g, g2, rfl, ⟨hg, hg2⟩, hs, hs2⟩
theorem WxS.new (s : WxS w wr P b X h l d x) : ∀ k, wr.heap.size ≤ k → ¬ (P k ∨ k = X) := fun k hk => by
  rintro (h | h)
  · have := (s.disk.hP k h).2; omega
  · have := lt_of_heap s.box; omega
theorem WxS.cells (s : WxS w wr P b X h l d x) : (wr.cell? ⟨X, 0, none⟩ = some h ∧ wr.cell? ⟨X, 1, none⟩ = some l ∧ wr.cell? ⟨X, 2, none⟩ = some (.int .i64 x.syn)) ∧ ∀ i, wr.frozen? ⟨X, i, none⟩ = false := ⟨s.box.cells, fun i => free_block s.box i none⟩
/-- A field is stored. -/
theorem WxS.one (s : WxS w wr P b X h l d x) (i : Nat) (v : Value) : WlS w (wr.setCell ⟨X, i, none⟩ v) P b d := by
  have hf : Fr [X] wr (wr.setCell ⟨X, i, none⟩ v) := (Fr.refl _ wr).setCell (.inl (by simp)) _
  have hq : FrP (· = X) wr (wr.setCell ⟨X, i, none⟩ v) := (FrP.refl _ wr).step hf (fun y hy => .inl (by simpa using hy))
  exact ⟨s.disk.file.frP hq (fun k hk e => s.nP (e ▸ hk)), fun k hk => ⟨(s.disk.hP k hk).1, Nat.lt_of_lt_of_le (s.disk.hP k hk).2 hf.size⟩, s.fr.step hf (fun y hy => .inr (by simp only [List.mem_singleton] at hy; subst hy; exact s.hX))⟩
theorem WxS.sync (s : WxS w wr P b X h l d x) : WxS w (wr.setCell ⟨X, 2, none⟩ (.int .i64 x.log.length)) P b X h l d (Wl.sync x) := by
  have hf : Fr [X] wr (wr.setCell ⟨X, 2, none⟩ (.int .i64 x.log.length)) := (Fr.refl _ wr).setCell (.inl (by simp)) _
  refine ⟨s.one 2 _, set_block s.box _, s.rh.frS hf (fun y hy => .inr (by simpa using hy)) s.ne8, s.rl.fr hf (fun y hy => .inr (by simpa using hy)), s.nP, s.hX, Wl.sync_ok s.ok, s.nv⟩
theorem WxV.form {G : Nat → Prop} {v : Value} (hv : WxV G w v x) (hO : Wl.OK x) : ∃ A1 c1 A2 c2, v = .agg #[.slice A1 8 c1, .slice A2 x.log.length c2, .int .i64 x.syn] := by
  obtain ⟨h, l, g1, g2, rfl, -, hh, hl⟩ := hv
  obtain ⟨A1, o1, c1, rfl, -, -, -⟩ := hh.form
  obtain ⟨A2, o2, c2, rfl, -⟩ := hl.form
  exact ⟨A1, c1, A2, c2, by rw [hO.home]⟩
/-- The document's answer is stored. -/
theorem WxS.put (s : WxS w wr P b X h l d x) {h' l' : Value} {w2 : World} (hf : Fr [] wr w2) (hv : WxV (fun k => ¬ (P k ∨ k = X)) w2 (.agg #[h', l', .int .i64 x'.syn]) x') (hO : Wl.OK x') (hnv : Wl.Nv x'.log) :
    WxS w (((w2.setCell ⟨X, 0, none⟩ h').setCell ⟨X, 1, none⟩ l').setCell ⟨X, 2, none⟩ (.int .i64 x'.syn)) P b X h' l' d x' := by
  obtain ⟨_, _, g1, g2, e0, ⟨n1, n2⟩, h1, h2⟩ := hv
  injection e0 with e0
  injection e0 with e0
  injection e0 with e1 e0
  injection e0 with e2 e0
  subst e1 e2
  have s2 := s.step hf
  have hX : Fr [X] w2 (((w2.setCell ⟨X, 0, none⟩ h').setCell ⟨X, 1, none⟩ l').setCell ⟨X, 2, none⟩ (.int .i64 x'.syn)) := (((Fr.refl _ w2).setCell (.inl (by simp)) _).setCell (.inl (by simp)) _).setCell (.inl (by simp)) _
  have q1 : WxX (w2.setCell ⟨X, 0, none⟩ h') X h' l x.syn := set_block s2.box _
  have q2 : WxX ((w2.setCell ⟨X, 0, none⟩ h').setCell ⟨X, 1, none⟩ l') X h' l' x.syn := set_block q1 _
  have hne : x'.home ≠ [] := fun e => by have := hO.home; rw [e] at this; cases this
  have hq : FrP (· = X) w2 (((w2.setCell ⟨X, 0, none⟩ h').setCell ⟨X, 1, none⟩ l').setCell ⟨X, 2, none⟩ (.int .i64 x'.syn)) := (FrP.refl _ w2).step hX (fun y hy => .inl (by simpa using hy))
  refine ⟨⟨s2.disk.file.frP hq (fun k hk e => s.nP (e ▸ hk)), fun k hk => ⟨(s2.disk.hP k hk).1, Nat.lt_of_lt_of_le (s2.disk.hP k hk).2 hX.size⟩, s2.fr.step hX (fun y hy => .inr (by simp only [List.mem_singleton] at hy; subst hy; exact s.hX))⟩, set_block q2 _, (RowO.of1 h1 n1).frS hX (fun y hy => .inr (by simpa using hy)) hne, (RowE.of h2 n2).fr hX (fun y hy => .inr (by simpa using hy)), s.nP, s.hX, hO, hnv⟩
end
/-- A new disk, a new struct. -/
theorem WxS.start {w w0 w1 : World} {b : Nat} {v : Value} {P : Nat → Prop} (hs : WlS w w0 P b Wl.new) (hv : WxV (w0.heap.size ≤ ·) w1 v Wl.new) (hf1 : Fr [] w0 w1) :
    ∃ A1 c1 A2 c2, v = .agg #[.slice A1 8 c1, .slice A2 0 c2, .int .i64 0] ∧ WxS w (w1.alloc (.cells #[.slice A1 8 c1, .slice A2 0 c2, .int .i64 0] 57)) P b w1.heap.size (.slice A1 8 c1) (.slice A2 0 c2) Wl.new Wl.new := by
  obtain ⟨A1, c1, A2, c2, rfl⟩ := hv.form Wl.new_ok
  refine ⟨A1, c1, A2, c2, rfl, ?_⟩
  obtain ⟨_, _, g1, g2, e0, ⟨n1, n2⟩, h1, h2⟩ := hv
  injection e0 with e0
  injection e0 with e0
  injection e0 with e1 e0
  injection e0 with e2 e0
  subst e1 e2
  have hX : Fr [] w1 (w1.alloc (.cells #[.slice A1 8 c1, .slice A2 0 c2, .int .i64 0] 57)) := (Fr.refl _ w1).alloc _
  have l1 : g1 < w1.heap.size := by
    obtain ⟨A, o, c, -, -, -, hc⟩ := h1.form
    exact block_lt_of_cell (hc 0 (by decide))
  have z1 := hf1.size
  have hlt : ∀ k, P k → k < w0.heap.size := fun k hk => (hs.hP k hk).2
  have z0 := hs.fr.size
  refine ⟨(hs.step hf1).step hX, heap_alloc_new w1 _, RowO.of1 (h1.fr hX (by simp)) ?_, ⟨g2, .inl rfl, h2.fr hX (by simp)⟩, fun hp => ?_, by omega, Wl.new_ok, fun r hr => by cases hr⟩
  · rintro (hp | hp)
    · have := hlt _ hp; omega
    · omega
  · have := hlt _ hp; omega
theorem error_ok (w : World) (c : Int) (hg : ErrType w) : Calls Tryd.prog 12 #[errV c, .int .i64 c] w (OkT w) := error_yes c w hg
end Go.Proofs.YtmhmbgkpojgbbaaDoor
