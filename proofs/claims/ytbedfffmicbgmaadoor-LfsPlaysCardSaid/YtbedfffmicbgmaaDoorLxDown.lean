/- The document's answer for package lfs: Down. -/
import Derived.Test.YtbedfffmicbgmaaDoorLxLive
import Derived.Test.YtbedfffmicbgmaaDoorCSet
namespace Go.Proofs.YtbedfffmicbgmaaDoor
open Go.RowKit

/-- In a call that began at w: the receiver's variable X, the answer's X2, what the receiver says. -/
structure LxW (G : Nat → Prop) (w wr : World) (X X2 : Nat) (a b c d e : Value) (x : Lx.X) : Prop where
  box : LxX wr X a b c d e x.head
  out : LxX wr X2 (.slice none 0 0) (.slice none 0 0) (.slice none 0 0) (.slice none 0 0) (.slice none 0 0) 0
  rows : LxR (fun g => G g ∧ g ≠ X ∧ g ≠ X2) wr a b c d e x
  fr : Fr [] w wr
  hG : ∀ k, w.heap.size ≤ k → G k
  ge : w.heap.size ≤ X ∧ w.heap.size ≤ X2
  ne : X ≠ X2
theorem lx_two (w : World) (o0 o1 : Obj) : ((w.alloc o0).alloc o1).heap.size = w.heap.size + 2 ∧ Fr [] w ((w.alloc o0).alloc o1) ∧
    ((w.alloc o0).alloc o1).heap[w.heap.size]? = some o0 ∧ ((w.alloc o0).alloc o1).heap[w.heap.size + 1]? = some o1 := by
  have h (a : World) (o p : Obj) {k : Nat} (hk : a.heap[k]? = some p) : (a.alloc o).heap[k]? = some p := ((Fr.refl [] a).alloc o).get hk (by simp)
  have n1 := heap_alloc_new (w.alloc o0) o1
  simp only [World.size_alloc] at n1
  exact ⟨by simp, ((Fr.refl [] w).alloc _).alloc _, h _ _ _ (heap_alloc_new w o0), n1⟩
section
variable {G : Nat → Prop} {w wr w' : World} {X X2 : Nat} {a b c d e v : Value} {x x' : Lx.X} {xs : List Int}
theorem LxW.start (hR : LxR G w a b c d e x) (hG : ∀ k, w.heap.size ≤ k → G k) {W : World} (hf : Fr [] w W) (h1 : W.heap[X]? = some (.cells #[a, b, c, d, e, .int .i64 (x.head : Int)] 27 (0, 0)))
    (h2 : W.heap[X2]? = some (.cells #[.slice none 0 0, .slice none 0 0, .slice none 0 0, .slice none 0 0, .slice none 0 0, .int .i64 0] 27 (0, 0))) (hX : w.heap.size ≤ X) (hX2 : w.heap.size ≤ X2) (hn : X ≠ X2) : LxW G w W X X2 a b c d e x :=
  ⟨h1, h2, (hR.mono (fun g hg h => ⟨h, by omega, by omega⟩)).step hf, hf, hG, ⟨hX, hX2⟩, hn⟩
theorem LxW.lt (h : LxW G w wr X X2 a b c d e x) : X < wr.heap.size ∧ X2 < wr.heap.size := ⟨lt_of_heap h.box, lt_of_heap h.out⟩
theorem LxW.step (h : LxW G w wr X X2 a b c d e x) (hf : Fr [] wr w') : LxW G w w' X X2 a b c d e x :=
  ⟨hf.get h.box (by simp), hf.get h.out (by simp), h.rows.step hf, h.fr.trans hf, h.hG, h.ge, h.ne⟩
theorem LxW.cells (h : LxW G w wr X X2 a b c d e x) : (wr.cell? ⟨X, 0, none⟩ = some a ∧ wr.cell? ⟨X, 1, none⟩ = some b ∧ wr.cell? ⟨X, 2, none⟩ = some c ∧ wr.cell? ⟨X, 3, none⟩ = some d ∧ wr.cell? ⟨X, 4, none⟩ = some e ∧ wr.cell? ⟨X, 5, none⟩ = some (.int .i64 (x.head : Int))) ∧ ∀ i, wr.frozen? ⟨X, i, none⟩ = false := ⟨h.box.cells, fun i => free_block h.box i none⟩
theorem LxW.outs (h : LxW G w wr X X2 a b c d e x) : (wr.cell? ⟨X2, 0, none⟩ = some (.slice none 0 0) ∧ wr.cell? ⟨X2, 1, none⟩ = some (.slice none 0 0) ∧ wr.cell? ⟨X2, 2, none⟩ = some (.slice none 0 0) ∧ wr.cell? ⟨X2, 3, none⟩ = some (.slice none 0 0) ∧ wr.cell? ⟨X2, 4, none⟩ = some (.slice none 0 0) ∧ wr.cell? ⟨X2, 5, none⟩ = some (.int .i64 0)) ∧ ∀ i, wr.frozen? ⟨X2, i, none⟩ = false := ⟨h.out.cells, fun i => free_block h.out i none⟩
theorem LxW.val (h : LxW G w wr X X2 a b c d e x) : LxV (fun g => G g ∧ g ≠ X ∧ g ≠ X2) wr (.agg #[a, b, c, d, e, .int .i64 (x.head : Int)]) x := ⟨_, _, _, _, _, rfl, h.rows⟩
theorem LxW.row (h : LxW G w wr X X2 a b c d e x) {e' : Ending} (hn : NewRow xs wr e' w') : ∃ A n k, e' = .returned (.slice A n k) ∧ LxW G w w' X X2 a b c d e x ∧ RowG (fun g => G g ∧ g ≠ X ∧ g ≠ X2) w' (.slice A n k) xs := by
  obtain ⟨v, g, rfl, hg, hs, hf⟩ := hn
  have hl := h.lt
  have hsz := h.fr.size
  have hr : RowG (fun g => G g ∧ g ≠ X ∧ g ≠ X2) w' v xs := by
    rcases hg with hg | hg
    · exact ⟨g, .inl ⟨h.hG g (by omega), by omega, by omega⟩, hs⟩
    · exact ⟨g, .inr hg, hs⟩
  obtain ⟨A, o, k, rfl, -, -, -⟩ := hs.form
  exact ⟨A, _, k, rfl, h.step hf, hr⟩
theorem LxW.one (wr : World) (X i : Nat) (v : Value) : Fr [X] wr (wr.setCell ⟨X, i, none⟩ v) := (Fr.refl _ wr).setCell (.inl (by simp)) _
theorem LxW.frX (h : LxW G w wr X X2 a b c d e x) (hf : Fr [X] wr w') : Fr [] w w' := h.fr.step hf (fun y hy => .inr (by simp only [List.mem_singleton] at hy; subst hy; exact h.ge.1))
theorem LxW.nX : ∀ g ∈ [X], ¬ (G g ∧ g ≠ X ∧ g ≠ X2) := fun g hg h => h.2.1 (by simpa using hg)
theorem LxW.setA (h : LxW G w wr X X2 a b c d e x) (hv : RowG (fun g => G g ∧ g ≠ X ∧ g ≠ X2) wr v xs) : LxW G w (wr.setCell ⟨X, 0, none⟩ v) X X2 v b c d e { x with sg := xs } :=
  have hf := LxW.one wr X 0 v
  ⟨set_block h.box v, hf.get h.out (by simpa using h.ne.symm), ⟨hv.fr hf LxW.nX, h.rows.rb.fr hf LxW.nX, h.rows.rc.fr hf LxW.nX, h.rows.rd.fr hf LxW.nX, h.rows.re.fr hf LxW.nX⟩, h.frX hf, h.hG, h.ge, h.ne⟩
theorem LxW.setB (h : LxW G w wr X X2 a b c d e x) (hv : RowG (fun g => G g ∧ g ≠ X ∧ g ≠ X2) wr v xs) : LxW G w (wr.setCell ⟨X, 1, none⟩ v) X X2 a v c d e { x with at_ := xs } :=
  have hf := LxW.one wr X 1 v
  ⟨set_block h.box v, hf.get h.out (by simpa using h.ne.symm), ⟨h.rows.ra.fr hf LxW.nX, hv.fr hf LxW.nX, h.rows.rc.fr hf LxW.nX, h.rows.rd.fr hf LxW.nX, h.rows.re.fr hf LxW.nX⟩, h.frX hf, h.hG, h.ge, h.ne⟩
theorem LxW.setC (h : LxW G w wr X X2 a b c d e x) (hv : RowG (fun g => G g ∧ g ≠ X ∧ g ≠ X2) wr v xs) : LxW G w (wr.setCell ⟨X, 2, none⟩ v) X X2 a b v d e { x with page := xs } :=
  have hf := LxW.one wr X 2 v
  ⟨set_block h.box v, hf.get h.out (by simpa using h.ne.symm), ⟨h.rows.ra.fr hf LxW.nX, h.rows.rb.fr hf LxW.nX, hv.fr hf LxW.nX, h.rows.rd.fr hf LxW.nX, h.rows.re.fr hf LxW.nX⟩, h.frX hf, h.hG, h.ge, h.ne⟩
theorem LxW.setD (h : LxW G w wr X X2 a b c d e x) (hv : RowG (fun g => G g ∧ g ≠ X ∧ g ≠ X2) wr v xs) : LxW G w (wr.setCell ⟨X, 3, none⟩ v) X X2 a b c v e { x with value := xs } :=
  have hf := LxW.one wr X 3 v
  ⟨set_block h.box v, hf.get h.out (by simpa using h.ne.symm), ⟨h.rows.ra.fr hf LxW.nX, h.rows.rb.fr hf LxW.nX, h.rows.rc.fr hf LxW.nX, hv.fr hf LxW.nX, h.rows.re.fr hf LxW.nX⟩, h.frX hf, h.hG, h.ge, h.ne⟩
theorem LxW.setE (h : LxW G w wr X X2 a b c d e x) (hv : RowG (fun g => G g ∧ g ≠ X ∧ g ≠ X2) wr v xs) : LxW G w (wr.setCell ⟨X, 4, none⟩ v) X X2 a b c d v { x with many := xs } :=
  have hf := LxW.one wr X 4 v
  ⟨set_block h.box v, hf.get h.out (by simpa using h.ne.symm), ⟨h.rows.ra.fr hf LxW.nX, h.rows.rb.fr hf LxW.nX, h.rows.rc.fr hf LxW.nX, h.rows.rd.fr hf LxW.nX, hv.fr hf LxW.nX⟩, h.frX hf, h.hG, h.ge, h.ne⟩
theorem LxW.setH (h : LxW G w wr X X2 a b c d e x) (k : Nat) : LxW G w (wr.setCell ⟨X, 5, none⟩ (.int .i64 (k : Int))) X X2 a b c d e { x with head := k } :=
  have hf := LxW.one wr X 5 (.int .i64 (k : Int))
  ⟨set_block h.box _, hf.get h.out (by simpa using h.ne.symm), ⟨h.rows.ra.fr hf LxW.nX, h.rows.rb.fr hf LxW.nX, h.rows.rc.fr hf LxW.nX, h.rows.rd.fr hf LxW.nX, h.rows.re.fr hf LxW.nX⟩, h.frX hf, h.hG, h.ge, h.ne⟩
end
theorem lx_agg6 {a b c d e f a' b' c' d' e' f' : Value} (h : Value.agg #[a, b, c, d, e, f] = .agg #[a', b', c', d', e', f']) : a = a' ∧ b = b' ∧ c = c' ∧ d = d' ∧ e = e' := by
  simp only [Value.agg.injEq, Array.mk.injEq, List.cons.injEq] at h
  exact ⟨h.1, h.2.1, h.2.2.1, h.2.2.2.1, h.2.2.2.2.1⟩
/-- Six cells of a block, stored one by one. -/
def lxSet (w : World) (B : Nat) (a b c d e : Value) (h : Nat) : World := (((((w.setCell ⟨B, 0, none⟩ a).setCell ⟨B, 1, none⟩ b).setCell ⟨B, 2, none⟩ c).setCell ⟨B, 3, none⟩ d).setCell ⟨B, 4, none⟩ e).setCell ⟨B, 5, none⟩ (.int .i64 (h : Int))
theorem lx_set (w : World) (B : Nat) (a b c d e : Value) (h : Nat) {a' b' c' d' e' : Value} {h' : Nat} (hx : LxX w B a' b' c' d' e' h') : LxX (lxSet w B a b c d e h) B a b c d e h ∧ Fr [B] w (lxSet w B a b c d e h) := by
  have h1 : LxX (w.setCell ⟨B, 0, none⟩ a) B a b' c' d' e' h' := set_block hx _
  have h2 : LxX ((w.setCell ⟨B, 0, none⟩ a).setCell ⟨B, 1, none⟩ b) B a b c' d' e' h' := set_block h1 _
  have h3 : LxX (((w.setCell ⟨B, 0, none⟩ a).setCell ⟨B, 1, none⟩ b).setCell ⟨B, 2, none⟩ c) B a b c d' e' h' := set_block h2 _
  have h4 : LxX ((((w.setCell ⟨B, 0, none⟩ a).setCell ⟨B, 1, none⟩ b).setCell ⟨B, 2, none⟩ c).setCell ⟨B, 3, none⟩ d) B a b c d e' h' := set_block h3 _
  have h5 : LxX (((((w.setCell ⟨B, 0, none⟩ a).setCell ⟨B, 1, none⟩ b).setCell ⟨B, 2, none⟩ c).setCell ⟨B, 3, none⟩ d).setCell ⟨B, 4, none⟩ e) B a b c d e h' := set_block h4 _
  unfold lxSet
  refine ⟨?_, ?_⟩
  · have h6 := set_block (i := 5) h5 (.int .i64 (h : Int))
    exact h6
  · exact ((((((Fr.refl _ w).setCell (.inl (by simp)) _).setCell (.inl (by simp)) _).setCell (.inl (by simp)) _).setCell (.inl (by simp)) _).setCell (.inl (by simp)) _).setCell (.inl (by simp)) _
section
variable {G : Nat → Prop} {w wr w' : World} {X X2 : Nat} {a b c d e v : Value} {x x' : Lx.X}
/-- The answer is laid into its place. -/
theorem LxW.fin (h : LxW G w wr X X2 a b c d e x) : LxX (lxSet wr X2 a b c d e x.head) X2 a b c d e x.head ∧ LxV G (lxSet wr X2 a b c d e x.head) (.agg #[a, b, c, d, e, .int .i64 (x.head : Int)]) x ∧ Fr [] w (lxSet wr X2 a b c d e x.head) := by
  obtain ⟨h1, h2⟩ := lx_set wr X2 a b c d e x.head h.out
  exact ⟨h1, ⟨_, _, _, _, _, rfl, (h.rows.fr h2 (fun g hg hq => hq.2.2 (by simpa using hg))).mono (fun g _ hq => hq.1)⟩, h.fr.step h2 (fun y hy => .inr (by simp only [List.mem_singleton] at hy; subst hy; exact h.ge.2))⟩
/-- The receiver's variable holds another struct. -/
theorem LxW.put (h : LxW G w wr X X2 a b c d e x) {a' b' c' d' e' : Value} (hf : Fr [] wr w') (hv : LxV (fun g => G g ∧ g ≠ X ∧ g ≠ X2) w' (.agg #[a', b', c', d', e', .int .i64 (x'.head : Int)]) x') : LxW G w (lxSet w' X a' b' c' d' e' x'.head) X X2 a' b' c' d' e' x' := by
  obtain ⟨_, _, _, _, _, e0, hr⟩ := hv
  obtain ⟨rfl, rfl, rfl, rfl, rfl⟩ := lx_agg6 e0
  have s := h.step hf
  obtain ⟨h1, h2⟩ := lx_set w' X a' b' c' d' e' x'.head s.box
  exact ⟨h1, h2.get s.out (by simpa using s.ne.symm), hr.fr h2 LxW.nX, s.frX h2, s.hG, s.ge, s.ne⟩
end
/-- What Down hands back. -/
def LxDn (G : Nat → Prop) (r : Lx.X × Bool) (w : World) (e : Ending) (w' : World) : Prop := ∃ v, e = .returned (.tuple #[v, .bool r.2]) ∧ LxV G w' v r.1 ∧ Fr [] w w'
def lxNil : Obj := .cells #[.slice none 0 0, .slice none 0 0, .slice none 0 0, .slice none 0 0, .slice none 0 0, .int .i64 0] 27
-- WALK
set_option maxRecDepth 100000 in
set_option maxHeartbeats 4000000 in
theorem lx_Down (w : World) (G : Nat → Prop) (v : Value) (x : Lx.X) (n : Nat) (p q : Int) (hv : LxV G w v x) (hO : Lx.OK x n) (hn : n ≤ 800000) (hG : ∀ k, w.heap.size ≤ k → G k) :
    Calls Tryd.prog 11 #[v, .int .i64 p, .int .i64 q] w (LxDn G (Lx.down x p q) w) := by
  obtain ⟨A1, n1, c1, A2, n2, c2, A3, n3, c3, A4, n4, c4, A5, n5, c5, rfl, hR⟩ := hv.form
  obtain ⟨A, g5, o5, c, e5, -, hA, hc⟩ := hR.re.form
  rw [hO.lm] at e5 hA hc
  obtain rfl := hA (by decide)
  injection e5 with e51 e52 e53
  subst e51 e52 e53
  obtain ⟨hsz, fA, y0, y1⟩ := lx_two w (.cells #[.slice A1 n1 c1, .slice A2 n2 c2, .slice A3 n3 c3, .slice A4 n4 c4, .slice (some ⟨g5, o5, none⟩) 6 c5, .int .i64 (x.head : Int)] 27) lxNil
  unfold lxNil at hsz fA y0 y1
  have hhd := hO.hd
  have hfew := hO.few x.head hhd
  have hh0 : (0 : Int) ≤ x.head := by omega
  have hh6 : (x.head : Int) < 6 := by omega
  have hch := hc _ fA x.head hhd
  have HTOP := Lib.hid (Lx.top_lt hO)
  have hle := hO.le
  have HLEN : Hid (x.sg.length < 900000 ∧ x.at_.length < 900000 ∧ x.page.length < 900000 ∧ x.value.length < 900000) := ⟨by have := hO.ls; omega, by have := hO.la; omega, by omega, by have := hO.lv; omega⟩
  have HDN : Hid (Lx.down x p q = if Lx.top x < 0 then (x, false) else (Lx.put x (Lx.top x).toNat p q, true)) := rfl
  have HTP : Hid (Lx.top x = if nth x.many x.head = 4 then Lx.place x.many 0 else (x.head : Int)) := rfl
  have HU0 := Lib.hid (LxW.start (X := w.heap.size) (X2 := w.heap.size + 1) hR hG fA y0 y1 (by omega) (by omega) (by omega))
  have HC := Lib.hid (fun W (hW : Fr [] w W) => hc W hW)
  have HLM := Lib.hid hO.lm
  have HFEW := Lib.hid hO.few
  have HFA := Lib.hid fA
  clear hv hO hn hG hR hA hc fA y0 y1 hsz hle
  by_cases h4 : nth x.many x.head = 4
  · have hb4 : (nth x.many x.head == 4) = true := beq_iff_eq.2 h4
    have HT2 := Lib.hid (HTP.out.trans (if_pos h4))
    have hch4 := hch
    rw [h4] at hch4
    clear h4 hb4 hch hfew
    go_enter Tryd.func11, Tryd.ntmps11
    go_wp2_with fail
    revert HU0 HFA
    generalize (w.alloc (.cells #[.slice A1 n1 c1, .slice A2 n2 c2, .slice A3 n3 c3, .slice A4 n4 c4, .slice (some ⟨g5, o5, none⟩) 6 c5, .int .i64 (x.head : Int)] 27)).alloc (.cells #[.slice none 0 0, .slice none 0 0, .slice none 0 0, .slice none 0 0, .slice none 0 0, .int .i64 0] 27) = W0
    generalize w.heap.size + 1 = X2
    generalize w.heap.size = X
    intro HU0 HFA
    obtain ⟨⟨b0, b1, b2, b3, b4, b5⟩, hfx⟩ := HU0.out.cells
    obtain ⟨⟨o0, o1, o2, o3, o4, o5'⟩, hfo⟩ := HU0.out.outs
    refine useC (lx_place W0 _ _ x.many 0 HU0.out.rows.re) ?_
    rintro e W0 ⟨rfl, rfl⟩
    rw [HT2.out] at HDN HTOP
    clear hch4 hh0 hh6 HTP HT2
    rcases HTOP.out with ht | ⟨k, hk, hk6', hk3⟩
    · have HR := Lib.hid (HDN.out.trans (if_pos ht))
      clear HDN HTOP
      generalize Lx.place x.many 0 = y at *
      go_wp2_with fail
      rw [HR.out]
      exact bodyPost_ret (v := .tuple #[.agg #[.slice A1 n1 c1, .slice A2 n2 c2, .slice A3 n3 c3, .slice A4 n4 c4, .slice (some ⟨g5, o5, none⟩) 6 c5, .int .i64 (x.head : Int)], .bool false]) (lx_results Tryd.results11 rfl rfl (LxW.fin HU0.out).1) rfl ⟨_, rfl, (LxW.fin HU0.out).2.1, (LxW.fin HU0.out).2.2⟩
    · have HR := Lib.hid (HDN.out.trans (if_neg (by omega)))
      rw [hk, Int.toNat_natCast] at HR
      have HK3 := Lib.hid hk3
      have hfew := HFEW.out k hk6'
      rw [hk]
      have hk0' : ¬ (k : Int) < 0 := by omega
      have HU9' := Lib.hid (HU0.out.setH k)
      clear HDN HTOP hk hk3
      go_wp2_with fail
      revert HU9'
      generalize W0.setCell ⟨X, 5, none⟩ (.int .i64 (k : Int)) = w0
      intro HU9'
      clear HU0 b0 b1 b2 b3 b4 b5 hfx
      obtain ⟨W0', hW0⟩ : ∃ z, z = w0 := ⟨_, rfl⟩
      subst hW0
      have HU0 := HU9'
      clear HU9'
      obtain ⟨⟨b0, b1, b2, b3, b4, b5⟩, hfx⟩ := HU0.out.cells
      obtain ⟨y, hym⟩ : ∃ y, nth x.many k = y := ⟨_, rfl⟩
      rw [hym] at hfew
      clear hk0' HFA o0 o1 o2 o3 o4 o5' hfo W0
      obtain ⟨⟨o0, o1, o2, o3, o4, o5'⟩, hfo⟩ := HU0.out.outs
      have HR : Hid (Lx.down x p q = (⟨x.sg ++ [(k : Int)], x.at_ ++ [y], x.page ++ [p], x.value ++ [q], x.many.set k (y + 1), k⟩, true)) := (by show _ = _; rw [HR.out, ← hym]; rfl)
      clear o0 o1 o2 o3 o4 o5' hfo
      have hk0 : (0 : Int) ≤ k := by omega
      have hk6 : (k : Int) < 6 := by omega
      go_wp2_with (first
        | (have h' := HU0; clear h'; go_at_call 33; (with_reducible refine useC (lx_behind W0' _ _ x.sg _ HU0.out.rows.ra HLEN.out.1) ?_); rintro e w1 hn; obtain ⟨B0, m0, k0, he, hu, hr⟩ := HU0.out.row hn; subst he; obtain ⟨w2, hw2⟩ : ∃ z, z = w1.setCell ⟨X, 0, none⟩ (.slice B0 m0 k0) := ⟨_, rfl⟩; have HU1 := Lib.hid hu; have HU2 := Lib.hid (hu.setA hr); rw [← hw2] at HU2; have HW2 := Lib.hid hw2; clear hw2 hr hu hn HU0; clear b0 b1 b2 b3 b4 b5 hfx; obtain ⟨⟨b0, b1, b2, b3, b4, b5⟩, hfx⟩ := HU1.out.cells)
        | (rw [← HW2.out]; clear HW2 HU1; clear b0 b1 b2 b3 b4 b5 hfx; obtain ⟨⟨b0, b1, b2, b3, b4, b5⟩, hfx⟩ := HU2.out.cells))
      have hq := HC.out w2 HU2.out.fr k (by omega)
      rw [hym] at hq
      have HU3 := Lib.hid (HU2.out.step ((Fr.refl [] w2).drew))
      (refine wp_region_mixq 8 [(true, 0), (true, 1), (true, 2), (true, 3), (true, 4), (true, 5), (true, 6), (true, 7)] (by kernel_rfl) (by kernel_rfl) ?_; simp only [pickOps, List.map_cons, List.map_nil, List.getD_cons_zero, List.getD_cons_succ, List.drop_succ_cons, List.drop_zero]; (iterate 8 (first | (refine wpMix_take (v := ?_) (by rfl) ?_ ?_; rotate_left; (focus (intro W hW; subst hW; go_simp; (try with_reducible rfl); done)); try simp only [Act.put, List.setIfInBounds_toArray, List.set_cons_zero, List.set_cons_succ]) | (refine wpMix_leave (by rfl) ?_; try simp only [Act.put, List.setIfInBounds_toArray, List.set_cons_zero, List.set_cons_succ]))); refine wpMix_nil ?_)
      clear HU2
      go_wp2_with (first
        | (have h' := HU3; clear h'; go_at_call 33; (with_reducible refine useC (lx_behind w2.drew _ _ x.at_ _ HU3.out.rows.rb HLEN.out.2.1) ?_); rintro e w4 hn; obtain ⟨B1, m1, k1, he, hu, hr⟩ := HU3.out.row hn; subst he; obtain ⟨w5, hw5⟩ : ∃ z, z = w4.setCell ⟨X, 1, none⟩ (.slice B1 m1 k1) := ⟨_, rfl⟩; have HU4 := Lib.hid hu; have HU5 := Lib.hid (hu.setB hr); rw [← hw5] at HU5; have HW5 := Lib.hid hw5; clear hw5 hr hu hn HU3; clear b0 b1 b2 b3 b4 b5 hfx; obtain ⟨⟨b0, b1, b2, b3, b4, b5⟩, hfx⟩ := HU4.out.cells)
        | (rw [← HW5.out]; clear HW5 HU4; clear b0 b1 b2 b3 b4 b5 hfx; obtain ⟨⟨b0, b1, b2, b3, b4, b5⟩, hfx⟩ := HU5.out.cells)
        | (have h' := HU5; clear h'; go_at_call 33; (with_reducible refine useC (lx_behind w5 _ _ x.page _ HU5.out.rows.rc HLEN.out.2.2.1) ?_); rintro e w6 hn; obtain ⟨B2, m2, k2, he, hu, hr⟩ := HU5.out.row hn; subst he; obtain ⟨w7, hw7⟩ : ∃ z, z = w6.setCell ⟨X, 2, none⟩ (.slice B2 m2 k2) := ⟨_, rfl⟩; have HU6 := Lib.hid hu; have HU7 := Lib.hid (hu.setC hr); rw [← hw7] at HU7; have HW7 := Lib.hid hw7; clear hw7 hr hu hn HU5; clear b0 b1 b2 b3 b4 b5 hfx; obtain ⟨⟨b0, b1, b2, b3, b4, b5⟩, hfx⟩ := HU6.out.cells)
        | (rw [← HW7.out]; clear HW7 HU6; clear b0 b1 b2 b3 b4 b5 hfx; obtain ⟨⟨b0, b1, b2, b3, b4, b5⟩, hfx⟩ := HU7.out.cells)
        | (have h' := HU7; clear h'; go_at_call 33; (with_reducible refine useC (lx_behind w7 _ _ x.value _ HU7.out.rows.rd HLEN.out.2.2.2) ?_); rintro e w8 hn; obtain ⟨B3, m3, k3, he, hu, hr⟩ := HU7.out.row hn; subst he; obtain ⟨w9, hw9⟩ : ∃ z, z = w8.setCell ⟨X, 3, none⟩ (.slice B3 m3 k3) := ⟨_, rfl⟩; have HU8 := Lib.hid hu; have HU9 := Lib.hid (hu.setD hr); rw [← hw9] at HU9; have HW9 := Lib.hid hw9; clear hw9 hr hu hn HU7; clear b0 b1 b2 b3 b4 b5 hfx; obtain ⟨⟨b0, b1, b2, b3, b4, b5⟩, hfx⟩ := HU8.out.cells)
        | (rw [← HW9.out]; clear HW9 HU8; clear b0 b1 b2 b3 b4 b5 hfx; obtain ⟨⟨b0, b1, b2, b3, b4, b5⟩, hfx⟩ := HU9.out.cells))
      clear hq
      have hq := HC.out w9 HU9.out.fr k (by omega)
      rw [hym] at hq
      have HU10 := Lib.hid (HU9.out.step ((Fr.refl [] w9).drew))
      (refine wp_region_mixq 11 [(true, 0), (true, 1), (true, 2), (true, 3), (true, 4), (true, 5), (true, 6), (true, 7), (true, 8), (true, 9), (true, 10)] (by kernel_rfl) (by kernel_rfl) ?_; simp only [pickOps, List.map_cons, List.map_nil, List.getD_cons_zero, List.getD_cons_succ, List.drop_succ_cons, List.drop_zero]; (iterate 11 (first | (refine wpMix_take (v := ?_) (by rfl) ?_ ?_; rotate_left; (focus (intro W hW; subst hW; go_simp; (try with_reducible rfl); done)); try simp only [Act.put, List.setIfInBounds_toArray, List.set_cons_zero, List.set_cons_succ]) | (refine wpMix_leave (by rfl) ?_; try simp only [Act.put, List.setIfInBounds_toArray, List.set_cons_zero, List.set_cons_succ]))); refine wpMix_nil ?_)
      clear HU9
      have hre : RowG (fun g => G g ∧ g ≠ X ∧ g ≠ X2) w9.drew (.slice (some ⟨g5, o5, none⟩) 6 c5) x.many := HU10.out.rows.re
      obtain ⟨ge, -, hse⟩ := hre
      have HSE := Lib.hid (set_any w9.drew _ ge x.many k (y + 1) hse (by rw [HLM.out]; omega) (by rw [HLM.out]; decide))
      clear hse
      go_wp2_with (first
        | (have h' := HU10; clear h'; go_at_call 27; (with_reducible refine useC HSE.out ?_); rintro e w11 hn; obtain ⟨B4, m4, k4, he, hu, hr⟩ := HU10.out.row hn; subst he; obtain ⟨w12, hw12⟩ : ∃ z, z = w11.setCell ⟨X, 4, none⟩ (.slice B4 m4 k4) := ⟨_, rfl⟩; have HU11 := Lib.hid hu; have HU12 := Lib.hid (hu.setE hr); rw [← hw12] at HU12; have HW12 := Lib.hid hw12; clear hw12 hr hu hn HU10; clear b0 b1 b2 b3 b4 b5 hfx; obtain ⟨⟨b0, b1, b2, b3, b4, b5⟩, hfx⟩ := HU11.out.cells)
        | (rw [← HW12.out]; clear HW12 HU11; clear b0 b1 b2 b3 b4 b5 hfx; obtain ⟨⟨b0, b1, b2, b3, b4, b5⟩, hfx⟩ := HU12.out.cells; obtain ⟨⟨o0, o1, o2, o3, o4, o5'⟩, hfo⟩ := HU12.out.outs))
      rw [HR.out]
      exact bodyPost_ret (v := .tuple #[.agg #[.slice B0 m0 k0, .slice B1 m1 k1, .slice B2 m2 k2, .slice B3 m3 k3, .slice B4 m4 k4, .int .i64 (k : Int)], .bool true]) (lx_results Tryd.results11 rfl rfl (LxW.fin HU12.out).1) rfl ⟨_, rfl, (LxW.fin HU12.out).2.1, (LxW.fin HU12.out).2.2⟩
  · have hb4 : (nth x.many x.head == 4) = false := beq_eq_false_iff_ne.2 h4
    have HT2 := Lib.hid (HTP.out.trans (if_neg h4))
    have HR : Hid (Lx.down x p q = (Lx.put x x.head p q, true)) := (by show _ = _; rw [HDN.out, HT2.out, if_neg (by omega), Int.toNat_natCast])
    clear h4 HDN HTOP HTP HT2
    obtain ⟨y, hym⟩ : ∃ y, nth x.many x.head = y := ⟨_, rfl⟩
    have HR : Hid (Lx.down x p q = (⟨x.sg ++ [(x.head : Int)], x.at_ ++ [y], x.page ++ [p], x.value ++ [q], x.many.set x.head (y + 1), x.head⟩, true)) := (by show _ = _; rw [HR.out, ← hym]; rfl)
    rw [hym] at hch hb4 hfew
    have hym' := Lib.hid hym
    clear hym
    go_enter Tryd.func11, Tryd.ntmps11
    go_wp2_with fail
    clear hb4
    revert HU0 HFA
    generalize (w.alloc (.cells #[.slice A1 n1 c1, .slice A2 n2 c2, .slice A3 n3 c3, .slice A4 n4 c4, .slice (some ⟨g5, o5, none⟩) 6 c5, .int .i64 (x.head : Int)] 27)).alloc (.cells #[.slice none 0 0, .slice none 0 0, .slice none 0 0, .slice none 0 0, .slice none 0 0, .int .i64 0] 27) = W0
    generalize w.heap.size + 1 = X2
    generalize w.heap.size = X
    intro HU0 HFA
    obtain ⟨⟨b0, b1, b2, b3, b4, b5⟩, hfx⟩ := HU0.out.cells
    obtain ⟨⟨o0, o1, o2, o3, o4, o5'⟩, hfo⟩ := HU0.out.outs
    have HU0 : Hid (LxW G w W0 X X2 (.slice A1 n1 c1) (.slice A2 n2 c2) (.slice A3 n3 c3) (.slice A4 n4 c4) (.slice (some ⟨g5, o5, none⟩) 6 c5) ⟨x.sg, x.at_, x.page, x.value, x.many, x.head⟩) := HU0
    have hym := hym'.out
    clear hym' hch HFA
    generalize x.head = k at *
    clear o0 o1 o2 o3 o4 o5' hfo
    have hk0 : (0 : Int) ≤ k := by omega
    have hk6 : (k : Int) < 6 := by omega
    go_wp2_with (first
      | (have h' := HU0; clear h'; go_at_call 33; (with_reducible refine useC (lx_behind W0 _ _ x.sg _ HU0.out.rows.ra HLEN.out.1) ?_); rintro e w1 hn; obtain ⟨B0, m0, k0, he, hu, hr⟩ := HU0.out.row hn; subst he; obtain ⟨w2, hw2⟩ : ∃ z, z = w1.setCell ⟨X, 0, none⟩ (.slice B0 m0 k0) := ⟨_, rfl⟩; have HU1 := Lib.hid hu; have HU2 := Lib.hid (hu.setA hr); rw [← hw2] at HU2; have HW2 := Lib.hid hw2; clear hw2 hr hu hn HU0; clear b0 b1 b2 b3 b4 b5 hfx; obtain ⟨⟨b0, b1, b2, b3, b4, b5⟩, hfx⟩ := HU1.out.cells)
      | (rw [← HW2.out]; clear HW2 HU1; clear b0 b1 b2 b3 b4 b5 hfx; obtain ⟨⟨b0, b1, b2, b3, b4, b5⟩, hfx⟩ := HU2.out.cells))
    have hq := HC.out w2 HU2.out.fr k (by omega)
    rw [hym] at hq
    have HU3 := Lib.hid (HU2.out.step ((Fr.refl [] w2).drew))
    (refine wp_region_mixq 8 [(true, 0), (true, 1), (true, 2), (true, 3), (true, 4), (true, 5), (true, 6), (true, 7)] (by kernel_rfl) (by kernel_rfl) ?_; simp only [pickOps, List.map_cons, List.map_nil, List.getD_cons_zero, List.getD_cons_succ, List.drop_succ_cons, List.drop_zero]; (iterate 8 (first | (refine wpMix_take (v := ?_) (by rfl) ?_ ?_; rotate_left; (focus (intro W hW; subst hW; go_simp; (try with_reducible rfl); done)); try simp only [Act.put, List.setIfInBounds_toArray, List.set_cons_zero, List.set_cons_succ]) | (refine wpMix_leave (by rfl) ?_; try simp only [Act.put, List.setIfInBounds_toArray, List.set_cons_zero, List.set_cons_succ]))); refine wpMix_nil ?_)
    clear HU2
    go_wp2_with (first
      | (have h' := HU3; clear h'; go_at_call 33; (with_reducible refine useC (lx_behind w2.drew _ _ x.at_ _ HU3.out.rows.rb HLEN.out.2.1) ?_); rintro e w4 hn; obtain ⟨B1, m1, k1, he, hu, hr⟩ := HU3.out.row hn; subst he; obtain ⟨w5, hw5⟩ : ∃ z, z = w4.setCell ⟨X, 1, none⟩ (.slice B1 m1 k1) := ⟨_, rfl⟩; have HU4 := Lib.hid hu; have HU5 := Lib.hid (hu.setB hr); rw [← hw5] at HU5; have HW5 := Lib.hid hw5; clear hw5 hr hu hn HU3; clear b0 b1 b2 b3 b4 b5 hfx; obtain ⟨⟨b0, b1, b2, b3, b4, b5⟩, hfx⟩ := HU4.out.cells)
      | (rw [← HW5.out]; clear HW5 HU4; clear b0 b1 b2 b3 b4 b5 hfx; obtain ⟨⟨b0, b1, b2, b3, b4, b5⟩, hfx⟩ := HU5.out.cells)
      | (have h' := HU5; clear h'; go_at_call 33; (with_reducible refine useC (lx_behind w5 _ _ x.page _ HU5.out.rows.rc HLEN.out.2.2.1) ?_); rintro e w6 hn; obtain ⟨B2, m2, k2, he, hu, hr⟩ := HU5.out.row hn; subst he; obtain ⟨w7, hw7⟩ : ∃ z, z = w6.setCell ⟨X, 2, none⟩ (.slice B2 m2 k2) := ⟨_, rfl⟩; have HU6 := Lib.hid hu; have HU7 := Lib.hid (hu.setC hr); rw [← hw7] at HU7; have HW7 := Lib.hid hw7; clear hw7 hr hu hn HU5; clear b0 b1 b2 b3 b4 b5 hfx; obtain ⟨⟨b0, b1, b2, b3, b4, b5⟩, hfx⟩ := HU6.out.cells)
      | (rw [← HW7.out]; clear HW7 HU6; clear b0 b1 b2 b3 b4 b5 hfx; obtain ⟨⟨b0, b1, b2, b3, b4, b5⟩, hfx⟩ := HU7.out.cells)
      | (have h' := HU7; clear h'; go_at_call 33; (with_reducible refine useC (lx_behind w7 _ _ x.value _ HU7.out.rows.rd HLEN.out.2.2.2) ?_); rintro e w8 hn; obtain ⟨B3, m3, k3, he, hu, hr⟩ := HU7.out.row hn; subst he; obtain ⟨w9, hw9⟩ : ∃ z, z = w8.setCell ⟨X, 3, none⟩ (.slice B3 m3 k3) := ⟨_, rfl⟩; have HU8 := Lib.hid hu; have HU9 := Lib.hid (hu.setD hr); rw [← hw9] at HU9; have HW9 := Lib.hid hw9; clear hw9 hr hu hn HU7; clear b0 b1 b2 b3 b4 b5 hfx; obtain ⟨⟨b0, b1, b2, b3, b4, b5⟩, hfx⟩ := HU8.out.cells)
      | (rw [← HW9.out]; clear HW9 HU8; clear b0 b1 b2 b3 b4 b5 hfx; obtain ⟨⟨b0, b1, b2, b3, b4, b5⟩, hfx⟩ := HU9.out.cells))
    clear hq
    have hq := HC.out w9 HU9.out.fr k (by omega)
    rw [hym] at hq
    have HU10 := Lib.hid (HU9.out.step ((Fr.refl [] w9).drew))
    (refine wp_region_mixq 11 [(true, 0), (true, 1), (true, 2), (true, 3), (true, 4), (true, 5), (true, 6), (true, 7), (true, 8), (true, 9), (true, 10)] (by kernel_rfl) (by kernel_rfl) ?_; simp only [pickOps, List.map_cons, List.map_nil, List.getD_cons_zero, List.getD_cons_succ, List.drop_succ_cons, List.drop_zero]; (iterate 11 (first | (refine wpMix_take (v := ?_) (by rfl) ?_ ?_; rotate_left; (focus (intro W hW; subst hW; go_simp; (try with_reducible rfl); done)); try simp only [Act.put, List.setIfInBounds_toArray, List.set_cons_zero, List.set_cons_succ]) | (refine wpMix_leave (by rfl) ?_; try simp only [Act.put, List.setIfInBounds_toArray, List.set_cons_zero, List.set_cons_succ]))); refine wpMix_nil ?_)
    clear HU9
    have hre : RowG (fun g => G g ∧ g ≠ X ∧ g ≠ X2) w9.drew (.slice (some ⟨g5, o5, none⟩) 6 c5) x.many := HU10.out.rows.re
    obtain ⟨ge, -, hse⟩ := hre
    have HSE := Lib.hid (set_any w9.drew _ ge x.many k (y + 1) hse (by rw [HLM.out]; omega) (by rw [HLM.out]; decide))
    clear hse
    go_wp2_with (first
      | (have h' := HU10; clear h'; go_at_call 27; (with_reducible refine useC HSE.out ?_); rintro e w11 hn; obtain ⟨B4, m4, k4, he, hu, hr⟩ := HU10.out.row hn; subst he; obtain ⟨w12, hw12⟩ : ∃ z, z = w11.setCell ⟨X, 4, none⟩ (.slice B4 m4 k4) := ⟨_, rfl⟩; have HU11 := Lib.hid hu; have HU12 := Lib.hid (hu.setE hr); rw [← hw12] at HU12; have HW12 := Lib.hid hw12; clear hw12 hr hu hn HU10; clear b0 b1 b2 b3 b4 b5 hfx; obtain ⟨⟨b0, b1, b2, b3, b4, b5⟩, hfx⟩ := HU11.out.cells)
      | (rw [← HW12.out]; clear HW12 HU11; clear b0 b1 b2 b3 b4 b5 hfx; obtain ⟨⟨b0, b1, b2, b3, b4, b5⟩, hfx⟩ := HU12.out.cells; obtain ⟨⟨o0, o1, o2, o3, o4, o5'⟩, hfo⟩ := HU12.out.outs))
    rw [HR.out]
    exact bodyPost_ret (v := .tuple #[.agg #[.slice B0 m0 k0, .slice B1 m1 k1, .slice B2 m2 k2, .slice B3 m3 k3, .slice B4 m4 k4, .int .i64 (k : Int)], .bool true]) (lx_results Tryd.results11 rfl rfl (LxW.fin HU12.out).1) rfl ⟨_, rfl, (LxW.fin HU12.out).2.1, (LxW.fin HU12.out).2.2⟩
end Go.Proofs.YtbedfffmicbgmaaDoor
