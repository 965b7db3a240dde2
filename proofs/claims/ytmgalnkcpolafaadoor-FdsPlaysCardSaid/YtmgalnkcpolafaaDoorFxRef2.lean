/- The contracts of the reference's table of open files: Dup, Move. -/
import Derived.Test.YtmgalnkcpolafaaDoorFxRef
namespace Go.Proofs.YtmgalnkcpolafaaDoor
open Go.RowKit

/-- Rows that are apart from the call's two structs. -/
def FxG (G : Nat → Prop) (B : Nat) (g : Nat) : Prop := g ≠ B ∧ g ≠ B + 1 ∧ G g
/-- What a call knows: the struct in block B, the answer's place behind it; the rows. -/
structure FxQ (G : Nat → Prop) (w wr : World) (B : Nat) (a b c : Value) (x : Fx.X) : Prop where
  box : FxX wr B a b c
  out : FxX wr (B + 1) (.slice none 0 0) (.slice none 0 0) (.slice none 0 0)
  r1 : SlG (FxR (FxG G B) b c) wr a x.of_
  r2 : OwnG (FxG G B) wr b x.sz
  r3 : OwnG (FxG G B) wr c x.pl
  ap : Apart b c
  fr : FrP G w wr
  ge : w.heap.size ≤ B
  hG : ∀ k, w.heap.size ≤ k → G k
theorem SlG.frS {G : Nat → Prop} {S : List Nat} {w w' : World} {v : Value} {xs : List Int} (h : SlG G w v xs) (hf : Fr S w w') (hS : ∀ g, G g → g ∉ S) : SlG G w' v xs := by
  obtain ⟨g, rfl | h1, h2⟩ := h
  · rcases h2 with ⟨_, A, c, rfl⟩ | ⟨o, c, rfl, _, _, _⟩
    · exact ⟨g, .inl rfl, .inl ⟨rfl, A, c, rfl⟩⟩
    · exact ⟨g, .inl rfl, .inl ⟨rfl, _, c, rfl⟩⟩
  · exact ⟨g, .inr h1, h2.fr hf (hS g h1)⟩
theorem OwnG.frS {G : Nat → Prop} {S : List Nat} {w w' : World} {v : Value} {xs : List Int} (h : OwnG G w v xs) (hf : Fr S w w') (hS : ∀ g ∈ S, v.ownBlock ≠ some g) : OwnG G w' v xs := ⟨h.1, h.2.kept hf hS⟩
theorem FxG.out {G : Nat → Prop} {B g : Nat} (h : FxG G B g) : g ∉ [B, B + 1] := by
  have h1 := h.1
  have h2 := h.2.1
  simp; omega
theorem OwnG.frB {G : Nat → Prop} {B : Nat} {w w' : World} {v : Value} {xs : List Int} (h : OwnG (FxG G B) w v xs) (hf : Fr [B, B + 1] w w') : OwnG (FxG G B) w' v xs :=
  h.frS hf (fun g hg he => (h.1 g he).out hg)
section
variable {G : Nat → Prop} {w wr w' : World} {B : Nat} {a b c : Value} {x : Fx.X}
theorem FxQ.lt (h : FxQ G w wr B a b c x) : B + 1 < wr.heap.size := lt_of_heap h.out
theorem FxQ.new (h : FxQ G w wr B a b c x) : ∀ k, wr.heap.size ≤ k → FxG G B k := fun k hk => by
  have h1 := h.lt
  have h2 := h.ge
  exact ⟨by omega, by omega, h.hG k (by omega)⟩
theorem FxQ.step (h : FxQ G w wr B a b c x) (hf : Fr [] wr w') : FxQ G w w' B a b c x :=
  ⟨hf.get h.box (by simp), hf.get h.out (by simp), h.r1.fr hf, h.r2.fr hf, h.r3.fr hf, h.ap, h.fr.step hf (by simp), h.ge, h.hG⟩
theorem FxQ.frB (h : FxQ G w wr B a b c x) (hf : Fr [B, B + 1] wr w') : FrP G w w' := by
  have := h.ge
  exact h.fr.step hf (fun y hy => .inr (by simp at hy; omega))
theorem FxQ.r1B (h : FxQ G w wr B a b c x) (hf : Fr [B, B + 1] wr w') : SlG (FxR (FxG G B) b c) w' a x.of_ := h.r1.frS hf (fun _ hg => hg.1.out)
theorem FxQ.keepOut (h : FxQ G w wr B a b c x) (i : Nat) (v : Value) : FxX (wr.setCell ⟨B, i, none⟩ v) (B + 1) (.slice none 0 0) (.slice none 0 0) (.slice none 0 0) :=
  Fr.get (S := [B]) ((Fr.refl _ wr).setCell (.inl (by simp)) _) h.out (by simp)
theorem fxOne (wr : World) (B i : Nat) (v : Value) : Fr [B, B + 1] wr (wr.setCell ⟨B, i, none⟩ v) := (Fr.refl _ wr).setCell (.inl (by simp)) _
theorem FxQ.put0 (h : FxQ G w wr B a b c x) {v : Value} {xs : List Int} (hs : SlG (FxR (FxG G B) b c) wr v xs) : FxQ G w (wr.setCell ⟨B, 0, none⟩ v) B v b c ⟨xs, x.sz, x.pl⟩ :=
  ⟨set_block h.box v, h.keepOut 0 v, hs.frS (fxOne wr B 0 v) (fun _ hg => hg.1.out), h.r2.frB (fxOne wr B 0 v), h.r3.frB (fxOne wr B 0 v), h.ap, h.frB (fxOne wr B 0 v), h.ge, h.hG⟩
/-- Another world in which a growing row's block may have turned. -/
theorem FxQ.keepBox (h : FxQ G w wr B a b c x) {v : Value} {xs : List Int} (hv : OwnG (FxG G B) wr v xs) (hf : Fr v.ownBlock.toList wr w') : FxX w' B a b c ∧ FxX w' (B + 1) (.slice none 0 0) (.slice none 0 0) (.slice none 0 0) := by
  have hn : ∀ k, k ∈ [B, B + 1] → k ∉ v.ownBlock.toList := fun k hk hm => (hv.1 k (by simpa using hm)).out hk
  exact ⟨hf.get h.box (hn B (by simp)), hf.get h.out (hn (B + 1) (by simp))⟩
/-- A new row of sizes; the old one's block may have turned. -/
theorem FxQ.put1 (h : FxQ G w wr B a b c x) {v : Value} {xs : List Int} (hf : Fr b.ownBlock.toList wr w') (hs : Own w' wr.heap.size 3 v xs) : FxQ G w (w'.setCell ⟨B, 1, none⟩ v) B a v c ⟨x.of_, xs, x.pl⟩ := by
  obtain ⟨q1, q2⟩ := h.keepBox h.r2 hf
  have hv : OwnG (FxG G B) w' v xs := OwnG.made hs h.new
  have hr1 : SlG (FxR (FxG G B) v c) w' a x.of_ := by
    obtain ⟨g, h1, h2⟩ := h.r1.frS hf (fun g hg hm => hg.2.1 (by simpa using hm))
    obtain ⟨g0, h3, h4⟩ := h.r1
    by_cases h0 : 0 < x.of_.length
    · obtain ⟨o, cc, e1, -⟩ := h2.form2 h0
      obtain ⟨o', cc', e2, -⟩ := h4.form2 h0
      rw [e1] at e2
      injection e2 with e2 _ _
      injection e2 with e2
      injection e2 with e2 _ _
      subst e2
      have hl := sl_lt h4 h0
      have h1' := h1.resolve_left (fun e => by rw [e] at h0; cases h0)
      exact ⟨g, .inr ⟨h1'.1, fun e => by have := (hs.ge g e).1; omega, h1'.2.2⟩, h2⟩
    · exact ⟨g, .inl (List.eq_nil_of_length_eq_zero (by omega)), h2⟩
  have hr3 : OwnG (FxG G B) w' c x.pl := h.r3.frS hf (fun g hg => h.ap g (by simpa using hg))
  have hap : Apart v c := fun g e1 e2 => by
    have := (hs.ge g e1).1
    have := (h.r3.2.ge g e2).2
    omega
  have hfr : FrP G w w' := h.fr.step hf (fun g hg => .inl (h.r2.1 g (by simpa using hg)).2.2)
  have hge := h.ge
  exact ⟨set_block q1 v, Fr.get (S := [B]) ((Fr.refl _ w').setCell (.inl (by simp)) _) q2 (by simp), hr1.frS (fxOne w' B 1 v) (fun _ hg => hg.1.out), hv.frB (fxOne w' B 1 v), hr3.frB (fxOne w' B 1 v), hap, hfr.step (fxOne w' B 1 v) (fun y hy => .inr (by simp at hy; omega)), h.ge, h.hG⟩
/-- A new row of places; the old one's block may have turned. -/
theorem FxQ.put2 (h : FxQ G w wr B a b c x) {v : Value} {xs : List Int} (hf : Fr c.ownBlock.toList wr w') (hs : Own w' wr.heap.size 3 v xs) : FxQ G w (w'.setCell ⟨B, 2, none⟩ v) B a b v ⟨x.of_, x.sz, xs⟩ := by
  obtain ⟨q1, q2⟩ := h.keepBox h.r3 hf
  have hv : OwnG (FxG G B) w' v xs := OwnG.made hs h.new
  have hr1 : SlG (FxR (FxG G B) b v) w' a x.of_ := by
    obtain ⟨g, h1, h2⟩ := h.r1.frS hf (fun g hg hm => hg.2.2 (by simpa using hm))
    obtain ⟨g0, h3, h4⟩ := h.r1
    by_cases h0 : 0 < x.of_.length
    · obtain ⟨o, cc, e1, -⟩ := h2.form2 h0
      obtain ⟨o', cc', e2, -⟩ := h4.form2 h0
      rw [e1] at e2
      injection e2 with e2 _ _
      injection e2 with e2
      injection e2 with e2 _ _
      subst e2
      have hl := sl_lt h4 h0
      have h1' := h1.resolve_left (fun e => by rw [e] at h0; cases h0)
      exact ⟨g, .inr ⟨h1'.1, h1'.2.1, fun e => by have := (hs.ge g e).1; omega⟩, h2⟩
    · exact ⟨g, .inl (List.eq_nil_of_length_eq_zero (by omega)), h2⟩
  have hr2 : OwnG (FxG G B) w' b x.sz := h.r2.frS hf (fun g hg => h.ap.symm g (by simpa using hg))
  have hap : Apart b v := fun g e2 e1 => by
    have := (hs.ge g e1).1
    have := (h.r2.2.ge g e2).2
    omega
  have hfr : FrP G w w' := h.fr.step hf (fun g hg => .inl (h.r3.1 g (by simpa using hg)).2.2)
  have hge := h.ge
  exact ⟨set_block q1 v, Fr.get (S := [B]) ((Fr.refl _ w').setCell (.inl (by simp)) _) q2 (by simp), hr1.frS (fxOne w' B 2 v) (fun _ hg => hg.1.out), hr2.frB (fxOne w' B 2 v), hv.frB (fxOne w' B 2 v), hap, hfr.step (fxOne w' B 2 v) (fun y hy => .inr (by simp at hy; omega)), h.ge, h.hG⟩
theorem FxQ.val (h : FxQ G w wr B a b c x) : FxV (FxG G B) wr (.agg #[a, b, c]) x := ⟨a, b, c, rfl, h.r1, h.r2, h.r3, h.ap⟩
/-- A row that R.Set hands back. -/
theorem FxQ.row (h : FxQ G w wr B a b c x) {xs ys : List Int} (hx : xs = ys) {e : Ending} {w2 : World} (hn : NewRow xs wr e w2) :
    ∃ A n, e = .returned (.slice A ys.length n) ∧ SlG (FxR (FxG G B) b c) w2 (.slice A ys.length n) ys ∧ FxQ G w w2 B a b c x := by
  subst hx
  obtain ⟨v, g, rfl, hg, hs, hf⟩ := hn
  have h2 : SlG (FxR (FxG G B) b c) w2 v xs := SlG.made hg hs (fun k hk => ⟨h.new k hk, fun e => by have := (h.r2.2.ge k e).2; omega, fun e => by have := (h.r3.2.ge k e).2; omega⟩)
  obtain ⟨A, n, rfl⟩ := h2.slice
  exact ⟨A, n, rfl, h2, h.step hf⟩
theorem FxQ.fin (h : FxQ G w wr B a b c x) :
    FxX (((wr.setCell ⟨B + 1, 0, none⟩ a).setCell ⟨B + 1, 1, none⟩ b).setCell ⟨B + 1, 2, none⟩ c) (B + 1) a b c ∧ FxV G (((wr.setCell ⟨B + 1, 0, none⟩ a).setCell ⟨B + 1, 1, none⟩ b).setCell ⟨B + 1, 2, none⟩ c) (.agg #[a, b, c]) x ∧
    FrP G w (((wr.setCell ⟨B + 1, 0, none⟩ a).setCell ⟨B + 1, 1, none⟩ b).setCell ⟨B + 1, 2, none⟩ c) := by
  have hf : Fr [B, B + 1] wr (((wr.setCell ⟨B + 1, 0, none⟩ a).setCell ⟨B + 1, 1, none⟩ b).setCell ⟨B + 1, 2, none⟩ c) := (((Fr.refl _ wr).setCell (.inl (by simp)) _).setCell (.inl (by simp)) _).setCell (.inl (by simp)) _
  have h1 : FxX (wr.setCell ⟨B + 1, 0, none⟩ a) (B + 1) a (.slice none 0 0) (.slice none 0 0) := set_block h.out a
  have h2 : FxX ((wr.setCell ⟨B + 1, 0, none⟩ a).setCell ⟨B + 1, 1, none⟩ b) (B + 1) a b (.slice none 0 0) := set_block h1 b
  exact ⟨set_block h2 c, ⟨a, b, c, rfl, (h.r1B hf).imp (fun _ h => ⟨h.1.2.2, h.2⟩), (h.r2.frB hf).imp (fun _ h => h.2.2), (h.r3.frB hf).imp (fun _ h => h.2.2), h.ap⟩, h.frB hf⟩
end
theorem SlG.at {G : Nat → Prop} {w : World} {v b c : Value} {xs : List Int} (h : SlG (FxR G b c) w v xs) (B : Nat) (hB : w.heap.size ≤ B) : SlG (FxR (FxG G B) b c) w v xs := by
  obtain ⟨g, h1, h2⟩ := h
  by_cases h0 : 0 < xs.length
  · have := sl_lt h2 h0
    have h3 := h1.resolve_left (fun e => by rw [e] at h0; cases h0)
    exact ⟨g, .inr ⟨⟨by omega, by omega, h3.1⟩, h3.2⟩, h2⟩
  · exact ⟨g, .inl (List.eq_nil_of_length_eq_zero (by omega)), h2⟩
theorem OwnG.at {G : Nat → Prop} {w : World} {v : Value} {xs : List Int} (h : OwnG G w v xs) (B : Nat) (hB : w.heap.size ≤ B) : OwnG (FxG G B) w v xs :=
  ⟨fun g hg => by have := (h.2.ge g hg).2; exact ⟨by omega, by omega, h.1 g hg⟩, h.2⟩
theorem FxQ.start {G : Nat → Prop} (w : World) {a b c : Value} {x : Fx.X} (h1 : SlG (FxR G b c) w a x.of_) (h2 : OwnG G w b x.sz) (h3 : OwnG G w c x.pl) (h4 : Apart b c) (hG : ∀ k, w.heap.size ≤ k → G k) :
    FxQ G w ((w.alloc (.cells #[a, b, c] 38)).alloc (.cells #[.slice none 0 0, .slice none 0 0, .slice none 0 0] 38)) w.heap.size a b c x := by
  have hf : Fr [] w ((w.alloc (.cells #[a, b, c] 38)).alloc (.cells #[.slice none 0 0, .slice none 0 0, .slice none 0 0] 38)) := ((Fr.refl _ _).alloc _).alloc _
  refine ⟨((Fr.refl [] _).alloc _).get (heap_alloc_new w _) (by simp), ?_, (h1.at _ (Nat.le_refl _)).fr hf, (h2.at _ (Nat.le_refl _)).fr hf, (h3.at _ (Nat.le_refl _)).fr hf, h4, (FrP.refl _ _).step hf (by simp), Nat.le_refl _, hG⟩
  have := heap_alloc_new (w.alloc (.cells #[a, b, c] 38)) (.cells #[.slice none 0 0, .slice none 0 0, .slice none 0 0] 38)
  rw [show (w.alloc (.cells #[a, b, c] 38)).heap.size = w.heap.size + 1 by simp] at this
  exact this
theorem fx_results {fn : Func} {tmps : Array Value} {w : World} {a b d : Nat} {B : Nat} {x y z c k : Value} (hr : fn.results = #[.cell a 38, .tmp b, .tmp d]) (ha : tmps.getD a undef = .pointer (some ⟨B, 0, none⟩)) (hb : tmps.getD b undef = c) (hd : tmps.getD d undef = k) (h : FxX w B x y z) :
    (results fn tmps).run Tryd.prog w = .ok (.tuple #[.agg #[x, y, z], c, k]) w := by
  have ha' : tmps[a]?.getD undef = .pointer (some ⟨B, 0, none⟩) := by rw [← ha]; simp
  have hb' : tmps[b]?.getD undef = c := by rw [← hb]; simp
  have hd' : tmps[d]?.getD undef = k := by rw [← hd]; simp
  unfold results
  rw [hr]
  simp [asAddr, ha', hb', hd', h.load]
/-- What a call on the reference's table hands back. -/
def FxA (G : Nat → Prop) (r : Fx.X × Int × Int) (w : World) (e : Ending) (w' : World) : Prop := ∃ v, e = .returned (.tuple #[v, .int .i64 r.2.1, .int .i64 r.2.2]) ∧ FxV G w' v r.1 ∧ FrP G w w'
theorem Fx.least_le : ∀ (l : List Int) n i, i ≤ Fx.leastFrom l n i ∧ Fx.leastFrom l n i ≤ i + n
  | _, 0, i => ⟨Nat.le_refl _, Nat.le_refl _⟩
  | l, n + 1, i => by
    unfold Fx.leastFrom
    split
    · omega
    · have := Fx.least_le l n (i + 1)
      omega
set_option maxRecDepth 100000 in
set_option maxHeartbeats 2000000 in
theorem fx_Dup (w : World) (G : Nat → Prop) (v : Value) (x : Fx.X) (fd : Int) (hv : FxV G w v x) (h8 : x.of_.length = 8) (hG : ∀ k, w.heap.size ≤ k → G k) :
    Calls Tryd.prog 17 #[v, .int .i64 fd] w (FxA G (Fx.dup x fd) w) := by
  obtain ⟨a, b, c, rfl, h1, h2, h3, h4⟩ := hv
  have hQ0 := Lib.hid (FxQ.start w h1 h2 h3 h4 hG)
  obtain ⟨A1, c1, rfl⟩ := h1.slice
  obtain ⟨A2, c2, rfl⟩ := h2.slice
  obtain ⟨A3, c3, rfl⟩ := h3.slice
  have H8 := Lib.hid h8
  have HL8 := Lib.hid (Fx.least_le x.of_ 8 0)
  clear h1 h2 h3 h4 hG h8
  go_enter Tryd.func17, Tryd.ntmps17
  go_wp2_with fail
  revert hQ0
  generalize (w.alloc (.cells #[.slice A1 x.of_.length c1, .slice A2 x.sz.length c2, .slice A3 x.pl.length c3] 38)).alloc (.cells #[.slice none 0 0, .slice none 0 0, .slice none 0 0] 38) = w1
  intro hQ0
  generalize w.heap.size = B at *
  refine useC (fx_Wrong w1 _ _ x fd hQ0.out.val H8.out) ?_
  rintro e w2 ⟨rfl, hf2⟩
  have hQ2 := Lib.hid (hQ0.out.step hf2)
  obtain ⟨x0, x1, x2⟩ := hQ2.out.box.cells
  obtain ⟨o0, o1, o2⟩ := hQ2.out.out.cells
  have hfo := fun i => free_block hQ2.out.out i none
  have HE := Lib.hid hQ2.out.fin
  clear hf2 hQ0
  by_cases hw : Fx.wrong x fd = 0
  · have hw0 : 0 ≤ fd ∧ fd ≤ 7 := by
      unfold Fx.wrong at hw
      split at hw
      · assumption
      · cases hw
    have hwn : Fx.wrong x fd = 0 := hw
    have er0 := Lib.hid (show Fx.dup x fd = if Fx.least x = 8 then (x, 0, 4) else (⟨x.of_.set (Fx.least x) (nth x.of_ fd.toNat), x.sz, x.pl⟩, ((Fx.least x : Nat) : Int), 0) from by unfold Fx.dup; rw [if_pos hw])
    rw [hw]
    clear hw hwn
    go_wp2_with fail
    refine useC (fx_least w2 _ _ x hQ2.out.val H8.out) ?_
    rintro e w3 ⟨rfl, hf3⟩
    have hQ3 := Lib.hid (hQ2.out.step hf3)
    clear hf3 hQ2 HE x0 x1 x2 o0 o1 o2 hfo
    obtain ⟨x0, x1, x2⟩ := hQ3.out.box.cells
    obtain ⟨o0, o1, o2⟩ := hQ3.out.out.cells
    have hfo := fun i => free_block hQ3.out.out i none
    by_cases hl : Fx.least x = 8
    · have er := Lib.hid (show Fx.dup x fd = (x, 0, 4) from by rw [er0.out, if_pos hl])
      have HE := Lib.hid hQ3.out.fin
      rw [hl]
      clear hl
      go_wp2
      exact bodyPost_ret (v := .tuple #[.agg #[.slice A1 x.of_.length c1, .slice A2 x.sz.length c2, .slice A3 x.pl.length c3], .int .i64 0, .int .i64 4]) (fx_results Tryd.results17 rfl rfl rfl HE.out.1) rfl ⟨_, by rw [er.out], by rw [er.out]; exact HE.out.2.1, HE.out.2.2⟩
    · have er := Lib.hid (show Fx.dup x fd = (⟨x.of_.set (Fx.least x) (nth x.of_ fd.toNat), x.sz, x.pl⟩, ((Fx.least x : Nat) : Int), 0) from by rw [er0.out, if_neg hl])
      obtain ⟨n, rfl⟩ : ∃ n : Nat, fd = n := ⟨fd.toNat, by omega⟩
      rw [Int.toNat_natCast] at er
      have hn8 : n < 8 := by omega
      have n0 : (0 : Int) ≤ n := by omega
      have n8 : (n : Int) < 8 := by omega
      have hl8 : Fx.least x < 8 := by have := HL8.out; unfold Fx.least at hl ⊢; omega
      generalize Fx.least x = i at *
      have i0 : (i : Int) ≠ 8 := by omega
      obtain ⟨g1, hg1, hs1⟩ := hQ3.out.r1
      obtain ⟨oo, cc, e0, k1, k2, k3⟩ := hs1.form2 (by rw [H8.out]; decide)
      rw [H8.out] at e0
      injection e0 with e0 _ e2
      subst e0 e2
      have hcell := k3 n (by rw [H8.out]; exact hn8)
      have HC1 : Hid (Calls Tryd.prog 20 #[.slice (some ⟨g1, oo, none⟩) 8 c1, .int .i64 i, .int .i64 (nth x.of_ n)] w3.drew fun e w2 => ∃ A m, e = .returned (.slice A 8 m) ∧ SlG (FxR (FxG G B) (.slice A2 x.sz.length c2) (.slice A3 x.pl.length c3)) w2 (.slice A 8 m) (x.of_.set i (nth x.of_ n)) ∧ FxQ G w w2 B (.slice (some ⟨g1, oo, none⟩) 8 c1) (.slice A2 x.sz.length c2) (.slice A3 x.pl.length c3) x) := by
        have h := hQ3.out.step ((Fr.refl [] w3).drew)
        rw [H8.out] at h hs1
        refine (set_any w3.drew _ g1 x.of_ i (nth x.of_ n) (hs1.fr (Fr.refl [] w3).drew (by simp)) (by rw [H8.out]; exact hl8) (by rw [H8.out]; decide)).mono fun _ _ hn => ?_
        obtain ⟨A, m, q1, q2, q3⟩ := h.row rfl hn
        rw [List.length_set, H8.out] at q1 q2
        exact ⟨A, m, q1, q2, q3⟩
      rw [H8.out] at *
      clear hs1 k1 k3
      generalize nth x.of_ n = y at *
      clear hl
      go_wp2_with fail
      (refine wp_region_mixq 8 [(true, 0), (true, 1), (true, 2), (true, 3), (true, 4), (true, 5), (true, 6), (true, 7)] (by kernel_rfl) (by kernel_rfl) ?_; simp only [pickOps, List.map_cons, List.map_nil, List.getD_cons_zero, List.getD_cons_succ, List.drop_succ_cons, List.drop_zero]; (iterate 8 (first | (refine wpMix_take (v := ?_) (by rfl) ?_ ?_; rotate_left; (focus (intro W hW; subst hW; go_simp; (try with_reducible rfl); done)); try simp only [Act.put, List.setIfInBounds_toArray, List.set_cons_zero, List.set_cons_succ]) | (refine wpMix_leave (by rfl) ?_; try simp only [Act.put, List.setIfInBounds_toArray, List.set_cons_zero, List.set_cons_succ]))); refine wpMix_nil ?_)
      clear x0 x1 x2 o0 o1 o2 hfo
      go_wp2_with (go_at_call 20; (with_reducible refine useC HC1.out ?_); rintro e w4 ⟨A, m, rfl, hr, hq⟩; have HE := Lib.hid (hq.put0 hr).fin; obtain ⟨x0, x1, x2⟩ := hq.box.cells; obtain ⟨o0, o1, o2⟩ := hq.out.cells; have hfo := fun i => free_block hq.out i none; have hfb := free_block hq.box 0 none; clear hr hq HC1)
      exact bodyPost_ret (v := .tuple #[.agg #[.slice A 8 m, .slice A2 x.sz.length c2, .slice A3 x.pl.length c3], .int .i64 i, .int .i64 0]) (fx_results Tryd.results17 rfl rfl rfl HE.out.1) rfl ⟨_, by rw [er.out], by rw [er.out]; exact HE.out.2.1, HE.out.2.2⟩
  · have er := Lib.hid (show Fx.dup x fd = (x, 0, Fx.wrong x fd) from by unfold Fx.dup; rw [if_neg hw])
    generalize Fx.wrong x fd = k at *
    go_wp2
    exact bodyPost_ret (v := .tuple #[.agg #[.slice A1 x.of_.length c1, .slice A2 x.sz.length c2, .slice A3 x.pl.length c3], .int .i64 0, .int .i64 k]) (fx_results Tryd.results17 rfl rfl rfl HE.out.1) rfl ⟨_, by rw [er.out], by rw [er.out]; exact HE.out.2.1, HE.out.2.2⟩
end Go.Proofs.YtmgalnkcpolafaaDoor
