/- The document's answer for package lsm: its struct in memory. -/
import Derived.Deep.Cut
import Derived.Test.YtokbhiokcoldbaaDoorLqM02
import Derived.Test.YtokbhiokcoldbaaDoorLqM03
import Derived.Test.YtokbhiokcoldbaaDoorLqM05
import Derived.Test.YtokbhiokcoldbaaDoorLqM06
namespace Go.Proofs.YtokbhiokcoldbaaDoor
open Go.RowKit

namespace Ls
abbrev ksOf (m : M) : List (List Int) := (m.mem :: m.runs).map kys
abbrev vsOf (m : M) : List (List Int) := (m.mem :: m.runs).map vls
end Ls
/-- A value of the document's type, and what it says. -/
def LqV (G : Nat → Prop) (w : World) (v : Value) (m : Ls.M) : Prop := ∃ a b, v = .agg #[a, b, .int .i64 (m.many : Int)] ∧ TbH G w a (Ls.ksOf m) ∧ TbH G w b (Ls.vsOf m)
/-- A variable of the document's type. -/
def LqX (w : World) (B : Nat) (a b : Value) (n : Nat) : Prop := w.heap[B]? = some (.cells #[a, b, .int .i64 (n : Int)] 73 (0, 0))
/-- In a call that began at w: the receiver's variable X, the answer's X2, what the receiver says. -/
structure LqW (G : Nat → Prop) (w wr : World) (X X2 : Nat) (a b : Value) (ks vs : List (List Int)) (n : Nat) : Prop where
  box : LqX wr X a b n
  out : LqX wr X2 (.slice none 0 0) (.slice none 0 0) 0
  ka : TbH (fun g => G g ∧ g ≠ X ∧ g ≠ X2) wr a ks
  vb : TbH (fun g => G g ∧ g ≠ X ∧ g ≠ X2) wr b vs
  fr : Fr [] w wr
  hG : ∀ k, w.heap.size ≤ k → G k
  ge : w.heap.size ≤ X ∧ w.heap.size ≤ X2
  ne : X ≠ X2
theorem lq_two (w : World) (o0 o1 : Obj) : ((w.alloc o0).alloc o1).heap.size = w.heap.size + 2 ∧ Fr [] w ((w.alloc o0).alloc o1) ∧
    ((w.alloc o0).alloc o1).heap[w.heap.size]? = some o0 ∧ ((w.alloc o0).alloc o1).heap[w.heap.size + 1]? = some o1 := by
  have h (a : World) (o p : Obj) {k : Nat} (hk : a.heap[k]? = some p) : (a.alloc o).heap[k]? = some p := ((Fr.refl [] a).alloc o).get hk (by simp)
  have n1 := heap_alloc_new (w.alloc o0) o1
  simp only [World.size_alloc] at n1
  exact ⟨by simp, ((Fr.refl [] w).alloc _).alloc _, h _ _ _ (heap_alloc_new w o0), n1⟩
/-- Three cells of a block, stored one by one. -/
def lqSet (w : World) (B : Nat) (a b : Value) (n : Nat) : World := ((w.setCell ⟨B, 0, none⟩ a).setCell ⟨B, 1, none⟩ b).setCell ⟨B, 2, none⟩ (.int .i64 (n : Int))
theorem lq_set (w : World) (B : Nat) (a b : Value) (n : Nat) {a' b' : Value} {n' : Nat} (hx : LqX w B a' b' n') : LqX (lqSet w B a b n) B a b n ∧ Fr [B] w (lqSet w B a b n) := by
  have h1 : LqX (w.setCell ⟨B, 0, none⟩ a) B a b' n' := set_block hx _
  have h2 : LqX ((w.setCell ⟨B, 0, none⟩ a).setCell ⟨B, 1, none⟩ b) B a b n' := set_block h1 _
  unfold lqSet
  exact ⟨set_block h2 _, (((Fr.refl _ w).setCell (.inl (by simp)) _).setCell (.inl (by simp)) _).setCell (.inl (by simp)) _⟩
section
variable {G : Nat → Prop} {w wr w' : World} {X X2 : Nat} {a b v : Value} {ks vs xs : List (List Int)} {n : Nat} {m : Ls.M}
theorem LqX.cells (x : LqX w X a b n) : w.cell? ⟨X, 0, none⟩ = some a ∧ w.cell? ⟨X, 1, none⟩ = some b ∧ w.cell? ⟨X, 2, none⟩ = some (.int .i64 (n : Int)) := by
  refine ⟨?_, ?_, ?_⟩ <;> rw [cell_of_row w X _ _ _ _ x] <;> rfl
theorem LqX.load (x : LqX w X a b n) : (loadVar 73 ⟨X, 0, none⟩).run Tryd.prog w = .ok (.agg #[a, b, .int .i64 (n : Int)]) w := by
  have := run_load_part (P := Tryd.prog) w X 0 3 _ 73 _ _ _ x Tryd.underlying73 rfl (by kernel_rfl) (by simp)
  simpa using this
theorem LqV.step (h : LqV G w v m) (hf : Fr [] w w') : LqV G w' v m := by
  obtain ⟨a, b, rfl, h1, h2⟩ := h
  exact ⟨a, b, rfl, h1.step hf, h2.step hf⟩
theorem LqV.fr {S : List Nat} (h : LqV G w v m) (hf : Fr S w w') (hS : ∀ g ∈ S, ¬ G g) : LqV G w' v m := by
  obtain ⟨a, b, rfl, h1, h2⟩ := h
  exact ⟨a, b, rfl, h1.fr hf hS, h2.fr hf hS⟩
theorem LqV.mono {G' : Nat → Prop} (h : LqV G w v m) (hG : ∀ g, g < w.heap.size → G g → G' g) : LqV G' w v m := by
  obtain ⟨a, b, rfl, h1, h2⟩ := h
  exact ⟨a, b, rfl, h1.mono hG, h2.mono hG⟩
theorem LqV.form (h : LqV G w v m) : ∃ gk ck gv cv, v = .agg #[.slice (some ⟨gk, 0, none⟩) (m.runs.length + 1) ck, .slice (some ⟨gv, 0, none⟩) (m.runs.length + 1) cv, .int .i64 (m.many : Int)] ∧ TbH G w (.slice (some ⟨gk, 0, none⟩) (m.runs.length + 1) ck) (Ls.ksOf m) ∧ TbH G w (.slice (some ⟨gv, 0, none⟩) (m.runs.length + 1) cv) (Ls.vsOf m) := by
  obtain ⟨a, b, rfl, h1, h2⟩ := h
  obtain ⟨gk, ck, _, ea, -⟩ := id h1
  obtain ⟨gv, cv, _, eb, -⟩ := id h2
  have l1 : (Ls.ksOf m).length = m.runs.length + 1 := by simp
  have l2 : (Ls.vsOf m).length = m.runs.length + 1 := by simp
  rw [l1] at ea
  rw [l2] at eb
  subst ea eb
  exact ⟨gk, ck, gv, cv, rfl, h1, h2⟩
theorem LqW.start (h1 : TbH G w a ks) (h2 : TbH G w b vs) (hG : ∀ k, w.heap.size ≤ k → G k) : LqW G w ((w.alloc (.cells #[a, b, .int .i64 (n : Int)] 73)).alloc (.cells #[.slice none 0 0, .slice none 0 0, .int .i64 0] 73)) w.heap.size (w.heap.size + 1) a b ks vs n := by
  obtain ⟨_, hf, y0, y1⟩ := lq_two w (.cells #[a, b, .int .i64 (n : Int)] 73) (.cells #[.slice none 0 0, .slice none 0 0, .int .i64 0] 73)
  exact ⟨y0, y1, (h1.mono (fun g hg h => ⟨h, by omega, by omega⟩)).step hf, (h2.mono (fun g hg h => ⟨h, by omega, by omega⟩)).step hf, hf, hG, ⟨Nat.le_refl _, Nat.le_succ _⟩, by omega⟩
theorem LqW.lt (h : LqW G w wr X X2 a b ks vs n) : X < wr.heap.size ∧ X2 < wr.heap.size := ⟨lt_of_heap h.box, lt_of_heap h.out⟩
theorem LqW.step (h : LqW G w wr X X2 a b ks vs n) (hf : Fr [] wr w') : LqW G w w' X X2 a b ks vs n :=
  ⟨hf.get h.box (by simp), hf.get h.out (by simp), h.ka.step hf, h.vb.step hf, h.fr.trans hf, h.hG, h.ge, h.ne⟩
theorem LqW.new (h : LqW G w wr X X2 a b ks vs n) : ∀ k, wr.heap.size ≤ k → (G k ∧ k ≠ X ∧ k ≠ X2) := fun k hk => by
  have := h.lt
  have := h.fr.size
  exact ⟨h.hG k (by omega), by omega, by omega⟩
theorem LqW.cells (h : LqW G w wr X X2 a b ks vs n) : (wr.cell? ⟨X, 0, none⟩ = some a ∧ wr.cell? ⟨X, 1, none⟩ = some b ∧ wr.cell? ⟨X, 2, none⟩ = some (.int .i64 (n : Int))) ∧ ∀ i, wr.frozen? ⟨X, i, none⟩ = false := ⟨h.box.cells, fun i => free_block h.box i none⟩
theorem LqW.outs (h : LqW G w wr X X2 a b ks vs n) : (wr.cell? ⟨X2, 0, none⟩ = some (.slice none 0 0) ∧ wr.cell? ⟨X2, 1, none⟩ = some (.slice none 0 0) ∧ wr.cell? ⟨X2, 2, none⟩ = some (.int .i64 0)) ∧ ∀ i, wr.frozen? ⟨X2, i, none⟩ = false := ⟨h.out.cells, fun i => free_block h.out i none⟩
theorem LqW.one (wr : World) (X i : Nat) (v : Value) : Fr [X] wr (wr.setCell ⟨X, i, none⟩ v) := (Fr.refl _ wr).setCell (.inl (by simp)) _
theorem LqW.frX (h : LqW G w wr X X2 a b ks vs n) (hf : Fr [X] wr w') : Fr [] w w' := h.fr.step hf (fun y hy => .inr (by simp only [List.mem_singleton] at hy; subst hy; exact h.ge.1))
theorem LqW.nX : ∀ g ∈ [X], ¬ (G g ∧ g ≠ X ∧ g ≠ X2) := fun g hg h => h.2.1 (by simpa using hg)
theorem LqW.setK (h : LqW G w wr X X2 a b ks vs n) (hv : TbH (fun g => G g ∧ g ≠ X ∧ g ≠ X2) wr v xs) : LqW G w (wr.setCell ⟨X, 0, none⟩ v) X X2 v b xs vs n :=
  have hf := LqW.one wr X 0 v
  ⟨set_block h.box v, hf.get h.out (by simpa using h.ne.symm), hv.fr hf LqW.nX, h.vb.fr hf LqW.nX, h.frX hf, h.hG, h.ge, h.ne⟩
theorem LqW.setV (h : LqW G w wr X X2 a b ks vs n) (hv : TbH (fun g => G g ∧ g ≠ X ∧ g ≠ X2) wr v xs) : LqW G w (wr.setCell ⟨X, 1, none⟩ v) X X2 a v ks xs n :=
  have hf := LqW.one wr X 1 v
  ⟨set_block h.box v, hf.get h.out (by simpa using h.ne.symm), h.ka.fr hf LqW.nX, hv.fr hf LqW.nX, h.frX hf, h.hG, h.ge, h.ne⟩
theorem LqW.setN (h : LqW G w wr X X2 a b ks vs n) (k : Nat) : LqW G w (wr.setCell ⟨X, 2, none⟩ (.int .i64 (k : Int))) X X2 a b ks vs k :=
  have hf := LqW.one wr X 2 (.int .i64 (k : Int))
  ⟨set_block h.box _, hf.get h.out (by simpa using h.ne.symm), h.ka.fr hf LqW.nX, h.vb.fr hf LqW.nX, h.frX hf, h.hG, h.ge, h.ne⟩
/-- Another struct is the answer. -/
theorem LqW.finV (h : LqW G w wr X X2 a b ks vs n) {a' b' : Value} (hv : LqV (fun g => G g ∧ g ≠ X ∧ g ≠ X2) wr (.agg #[a', b', .int .i64 (m.many : Int)]) m) : LqX (lqSet wr X2 a' b' m.many) X2 a' b' m.many ∧ LqV G (lqSet wr X2 a' b' m.many) (.agg #[a', b', .int .i64 (m.many : Int)]) m ∧ Fr [] w (lqSet wr X2 a' b' m.many) := by
  obtain ⟨h1, h2⟩ := lq_set wr X2 a' b' m.many h.out
  have hS : ∀ g ∈ [X2], ¬ (G g ∧ g ≠ X ∧ g ≠ X2) := fun g hg hq => hq.2.2 (by simpa using hg)
  exact ⟨h1, (hv.fr h2 hS).mono (fun g _ hq => hq.1), h.fr.step h2 (fun y hy => .inr (by simp only [List.mem_singleton] at hy; subst hy; exact h.ge.2))⟩
theorem LqW.val (h : LqW G w wr X X2 a b (Ls.ksOf m) (Ls.vsOf m) m.many) : LqV (fun g => G g ∧ g ≠ X ∧ g ≠ X2) wr (.agg #[a, b, .int .i64 (m.many : Int)]) m := ⟨_, _, rfl, h.ka, h.vb⟩
/-- The receiver's struct is the answer. -/
theorem LqW.fin (h : LqW G w wr X X2 a b (Ls.ksOf m) (Ls.vsOf m) m.many) : LqX (lqSet wr X2 a b m.many) X2 a b m.many ∧ LqV G (lqSet wr X2 a b m.many) (.agg #[a, b, .int .i64 (m.many : Int)]) m ∧ Fr [] w (lqSet wr X2 a b m.many) := by
  obtain ⟨h1, h2⟩ := lq_set wr X2 a b m.many h.out
  have hS : ∀ g ∈ [X2], ¬ (G g ∧ g ≠ X ∧ g ≠ X2) := fun g hg hq => hq.2.2 (by simpa using hg)
  exact ⟨h1, ⟨_, _, rfl, (h.ka.fr h2 hS).mono (fun g _ hq => hq.1), (h.vb.fr h2 hS).mono (fun g _ hq => hq.1)⟩, h.fr.step h2 (fun y hy => .inr (by simp only [List.mem_singleton] at hy; subst hy; exact h.ge.2))⟩
end
theorem lq_results {fn : Func} {tmps : Array Value} {w : World} {i : Nat} {B : Nat} {a b : Value} {n : Nat} (hr : fn.results = #[.cell i 73]) (ha : tmps.getD i undef = .pointer (some ⟨B, 0, none⟩)) (hx : LqX w B a b n) :
    (results fn tmps).run Tryd.prog w = .ok (.agg #[a, b, .int .i64 (n : Int)]) w := by
  have ha' : tmps[i]?.getD undef = .pointer (some ⟨B, 0, none⟩) := by rw [← ha]; simp
  unfold results
  rw [hr]
  simp [asAddr, Sem.run_bind, ha', hx.load]
theorem lq_results2 {fn : Func} {tmps : Array Value} {w : World} {i j : Nat} {B : Nat} {a b y : Value} {n : Nat} (hr : fn.results = #[.cell i 73, .tmp j]) (ha : tmps.getD i undef = .pointer (some ⟨B, 0, none⟩)) (hb : tmps.getD j undef = y) (hx : LqX w B a b n) :
    (results fn tmps).run Tryd.prog w = .ok (.tuple #[.agg #[a, b, .int .i64 (n : Int)], y]) w := by
  have ha' : tmps[i]?.getD undef = .pointer (some ⟨B, 0, none⟩) := by rw [← ha]; simp
  have hb' : tmps[j]?.getD undef = y := by rw [← hb]; simp
  unfold results
  rw [hr]
  simp [asAddr, Sem.run_bind, ha', hb', hx.load]
theorem TbH.op {G : Nat → Prop} {w : World} {g n c : Nat} {xs : List (List Int)} (h : TbH G w (.slice (some ⟨g, 0, none⟩) n c) xs) : ∃ vs, n = xs.length ∧ TbS G w g c vs xs := by
  obtain ⟨g', c', vs, e, h⟩ := h
  injection e with e1 e2 e3
  injection e1 with e1
  injection e1 with e1 _ _
  subst e1 e2 e3
  exact ⟨vs, rfl, h⟩
/-- Behind a call that hands back tables. -/
theorem LqW.tbl {G : Nat → Prop} {w wr w' : World} {X X2 : Nat} {a b : Value} {ks vs xs : List (List Int)} {n : Nat} (h : LqW G w wr X X2 a b ks vs n) {e : Ending} (hn : LqTbl (fun g => G g ∧ g ≠ X ∧ g ≠ X2) xs wr e w') : ∃ g c, e = .returned (.slice (some ⟨g, 0, none⟩) xs.length c) ∧ LqW G w w' X X2 a b ks vs n ∧ TbH (fun g => G g ∧ g ≠ X ∧ g ≠ X2) w' (.slice (some ⟨g, 0, none⟩) xs.length c) xs := by
  obtain ⟨v, rfl, ht, hf⟩ := hn
  obtain ⟨g, c, _, e, -⟩ := id ht
  exact ⟨g, c, by rw [e], h.step hf, by rw [← e]; exact ht⟩
/-- The call hands back a struct. -/
def LqA (G : Nat → Prop) (m : Ls.M) (w : World) (e : Ending) (w' : World) : Prop := ∃ v, e = .returned v ∧ LqV G w' v m ∧ Fr [] w w'
def LqA2 (G : Nat → Prop) (m : Ls.M) (c : Int) (w : World) (e : Ending) (w' : World) : Prop := ∃ v, e = .returned (.tuple #[v, .int .i64 c]) ∧ LqV G w' v m ∧ Fr [] w w'
end Go.Proofs.YtokbhiokcoldbaaDoor
/- The document's answer for package lsm: Flush. -/
namespace Go.Proofs.YtokbhiokcoldbaaDoor
open Go.RowKit

theorem tb_cons {G : Nat → Prop} {w' : World} {B t : Nat} {v : Value} {vs : List SlV} {xs : List (List Int)} (ho : OwnR slE w' B t v ([⟨none, 0, 0⟩] ++ vs)) (hl : vs.length = xs.length) (hG : ∀ g, B ≤ g → G g) (hr : ∀ j (h : j < vs.length), RowH G w' vs[j].val (xs.getD j [])) : TbH G w' v ([] :: xs) := by
  refine TbH.ofOwn ho (by simp [hl]) (by simp) hG (fun j hj => ?_)
  cases j with
  | zero => exact ⟨0, .inr rfl, .inl ⟨rfl, none, 0, rfl⟩⟩
  | succ j =>
    have hj' : j < vs.length := by simpa using hj
    have := hr j hj'
    simpa using this
/-- Behind an append to a literal: more tables, one empty one ahead. -/
theorem lq_ahead {G : Nat → Prop} {w wr w' : World} {X X2 : Nat} {a b : Value} {ks vs : List (List Int)} {n : Nat} {v : Value} {sv : List SlV} {xs : List (List Int)} {g c : Nat} (h : LqW G w wr X X2 a b ks vs n) (o : Obj) (hT : TbS (fun g => G g ∧ g ≠ X ∧ g ≠ X2) wr g c sv xs) (ho : OwnR slE w' wr.heap.size 25 v ([⟨none, 0, 0⟩] ++ sv)) (hb : Below wr.heap.size (wr.alloc o) w') : LqW G w w' X X2 a b ks vs n ∧ ∃ A c, v = .slice A (xs.length + 1) c ∧ TbH (fun g => G g ∧ g ≠ X ∧ g ≠ X2) w' v ([] :: xs) := by
  have hf : Fr [] wr w' := ((Fr.refl [] wr).alloc o).below_step hb (Nat.le_refl _)
  have ht := tb_cons (xs := xs) ho hT.len (fun g hg => h.new g hg) (fun j hj => (hT.row j hj).step hf)
  obtain ⟨g', c', _, e, -⟩ := id ht
  exact ⟨h.step hf, some ⟨g', 0, none⟩, c', e, ht⟩
set_option maxRecDepth 100000 in
set_option maxHeartbeats 4000000 in
theorem lq_Flush (w : World) (G : Nat → Prop) (v : Value) (m : Ls.M) (hv : LqV G w v m) (hl : m.runs.length ≤ 900) (hG : ∀ k, w.heap.size ≤ k → G k) :
    Calls Tryd.prog 43 #[v] w (LqA G (Ls.flush m) w) := by
  obtain ⟨gk, ck, gv, cv, rfl, h1, h2⟩ := hv.form
  have HU := Lib.hid (LqW.start (n := m.many) h1 h2 hG)
  obtain ⟨sk, -, hSk⟩ := HU.out.ka.op
  obtain ⟨A0, c0, q0, -⟩ := hSk.at (j := 0) (by simp)
  rw [show ((Ls.ksOf m).getD 0 []).length = m.mem.length by simp] at q0
  have l1 : (Ls.ksOf m).length = m.runs.length + 1 := by simp
  have l2 : (Ls.vsOf m).length = m.runs.length + 1 := by simp
  have HL := Lib.hid (And.intro l1 l2)
  clear hv h1 h2 hG hSk l1 l2
  have i0 : (0 : Int) < ((m.runs.length + 1 : Nat) : Int) := by omega
  by_cases hm : m.mem = []
  · have HF : Hid (Ls.flush m = m) := by show _ = _; unfold Ls.flush; rw [if_pos hm]
    rw [hm] at q0
    clear hm
    go_enter Tryd.func43, Tryd.ntmps43
    go_upto_region 1 with (fail)
    revert HU q0
    generalize (w.alloc (.cells #[.slice (some ⟨gk, 0, none⟩) (m.runs.length + 1) ck, .slice (some ⟨gv, 0, none⟩) (m.runs.length + 1) cv, .int .i64 (m.many : Int)] 73)).alloc (.cells #[.slice none 0 0, .slice none 0 0, .int .i64 0] 73) = W0
    generalize w.heap.size + 1 = X2
    generalize w.heap.size = X
    intro HU q0
    obtain ⟨⟨b0, b1, b2⟩, hfx⟩ := HU.out.cells
    obtain ⟨l1, l2⟩ := HU.out.lt
    obtain ⟨⟨o0, o1, o2⟩, hfo⟩ := HU.out.outs
    go_wp2
    rw [HF.out]
    exact bodyPost_ret (v := .agg #[.slice (some ⟨gk, 0, none⟩) (m.runs.length + 1) ck, .slice (some ⟨gv, 0, none⟩) (m.runs.length + 1) cv, .int .i64 (m.many : Int)]) (lq_results Tryd.results43 rfl HU.out.fin.1) rfl ⟨_, rfl, HU.out.fin.2.1, HU.out.fin.2.2⟩
  · have HF : Hid (Ls.flush m = ⟨[], m.mem :: m.runs, m.many⟩) := by show _ = _; unfold Ls.flush; rw [if_neg hm]
    have hb : ((m.mem.length : Int) == 0) = false := by
      have := List.length_pos_iff.2 hm
      exact beq_eq_false_iff_ne.2 (by omega)
    clear hm
    go_enter Tryd.func43, Tryd.ntmps43
    go_upto_region 1 with (fail)
    revert HU q0
    generalize (w.alloc (.cells #[.slice (some ⟨gk, 0, none⟩) (m.runs.length + 1) ck, .slice (some ⟨gv, 0, none⟩) (m.runs.length + 1) cv, .int .i64 (m.many : Int)] 73)).alloc (.cells #[.slice none 0 0, .slice none 0 0, .int .i64 0] 73) = W0
    generalize w.heap.size + 1 = X2
    generalize w.heap.size = X
    intro HU q0
    obtain ⟨⟨b0, b1, b2⟩, hfx⟩ := HU.out.cells
    obtain ⟨l1, l2⟩ := HU.out.lt
    obtain ⟨sk, -, hSk⟩ := HU.out.ka.op
    have HSK := Lib.hid hSk
    clear hSk
    go_wp2_with (first
      | (have h' := HSK; at_builtin; refine wpList_spread_enc (E := slE) lq_und lq_info rfl (by decide) rfl _ _ rfl W0.heap.size _ _ [⟨none, 0, 0⟩] sk gk rfl (own_lit1 W0 _ ⟨none, 0, 0⟩) rfl (by rw [← HL.out.1]; exact (HSK.out.fr ((Fr.refl [] W0).alloc _) (by simp)).slR) (by rw [HSK.out.len, HL.out.1]; simp; omega) (by simp) ?_; intro v' w1 h1 _ h3; obtain ⟨hu, A1, c1, hv1, ht⟩ := lq_ahead HU.out _ HSK.out h1 h3; rw [HL.out.1] at hv1; subst hv1; obtain ⟨w2, hw2⟩ : ∃ z, z = w1.setCell ⟨X, 0, none⟩ (.slice A1 (m.runs.length + 1 + 1) c1) := ⟨_, rfl⟩; have HU1 := Lib.hid hu; have HU2 := Lib.hid (hu.setK ht); rw [← hw2] at HU2; have HW2 := Lib.hid hw2; clear hw2 ht hu h1 h3 h' HSK; clear b0 b1 b2 hfx l1 l2; obtain ⟨⟨b0, b1, b2⟩, hfx⟩ := HU1.out.cells; obtain ⟨l1, l2⟩ := HU1.out.lt)
      | (rw [← HW2.out]; clear HW2 HU1; clear b0 b1 b2 hfx l1 l2; obtain ⟨⟨b0, b1, b2⟩, hfx⟩ := HU2.out.cells; obtain ⟨l1, l2⟩ := HU2.out.lt; obtain ⟨sv, -, hSv⟩ := HU2.out.vb.op; have HSV := Lib.hid hSv; clear hSv)
      | (have h' := HSV; at_builtin; refine wpList_spread_enc (E := slE) lq_und lq_info rfl (by decide) rfl _ _ rfl w2.heap.size _ _ [⟨none, 0, 0⟩] sv gv rfl (own_lit1 w2 _ ⟨none, 0, 0⟩) rfl (by rw [← HL.out.2]; exact (HSV.out.fr ((Fr.refl [] w2).alloc _) (by simp)).slR) (by rw [HSV.out.len, HL.out.2]; simp; omega) (by simp) ?_; intro v' w3 h1 _ h3; obtain ⟨hu, A3, c3, hv3, ht⟩ := lq_ahead HU2.out _ HSV.out h1 h3; rw [HL.out.2] at hv3; subst hv3; obtain ⟨w4, hw4⟩ : ∃ z, z = w3.setCell ⟨X, 1, none⟩ (.slice A3 (m.runs.length + 1 + 1) c3) := ⟨_, rfl⟩; have HU3 := Lib.hid hu; have HU4 := Lib.hid (hu.setV ht); rw [← hw4] at HU4; have HW4 := Lib.hid hw4; clear hw4 ht hu h1 h3 h' HSV; clear b0 b1 b2 hfx l1 l2; obtain ⟨⟨b0, b1, b2⟩, hfx⟩ := HU3.out.cells; obtain ⟨l1, l2⟩ := HU3.out.lt)
      | (rw [← HW4.out]; clear HW4 HU3; clear b0 b1 b2 hfx l1 l2; obtain ⟨⟨b0, b1, b2⟩, hfx⟩ := HU4.out.cells; obtain ⟨l1, l2⟩ := HU4.out.lt; obtain ⟨⟨o0, o1, o2⟩, hfo⟩ := HU4.out.outs))
    have HU5 : Hid (LqW G w w4 X X2 (.slice A1 (m.runs.length + 1 + 1) c1) (.slice A3 (m.runs.length + 1 + 1) c3) (Ls.ksOf ⟨[], m.mem :: m.runs, m.many⟩) (Ls.vsOf ⟨[], m.mem :: m.runs, m.many⟩) (Ls.M.many ⟨[], m.mem :: m.runs, m.many⟩)) := HU4
    rw [HF.out]
    exact bodyPost_ret (v := .agg #[.slice A1 (m.runs.length + 1 + 1) c1, .slice A3 (m.runs.length + 1 + 1) c3, .int .i64 (m.many : Int)]) (lq_results Tryd.results43 rfl HU5.out.fin.1) rfl ⟨_, rfl, HU5.out.fin.2.1, HU5.out.fin.2.2⟩
end Go.Proofs.YtokbhiokcoldbaaDoor

/- The document's answer for package lsm, in plain Lean: where a key stands; what is got. No program in sight. -/
namespace Go.Proofs.YtokbhiokcoldbaaDoor
namespace Ls
/-- The place of a number; -1: none. -/
def plcFrom (l : List Int) (n : Int) : Nat → Nat → Int
  | 0, _ => -1
  | f + 1, k => if nth l k = n then (k : Int) else plcFrom l n f (k + 1)
def plc (l : List Int) (n : Int) : Int := plcFrom l n l.length 0
theorem plc_step (l : List Int) (n : Int) {k : Nat} (h : k < l.length) : plcFrom l n (l.length - k) k = if nth l k = n then (k : Int) else plcFrom l n (l.length - (k + 1)) (k + 1) := by
  rw [show l.length - k = (l.length - (k + 1)) + 1 by omega]
  rfl
theorem plc_from (t : List E) (n : Int) : ∀ (f k : Nat), f + k = t.length → (find n (t.drop k) = none ∧ plcFrom (kys t) n f k = -1) ∨ ∃ j, j < t.length ∧ plcFrom (kys t) n f k = (j : Int) ∧ find n (t.drop k) = some (nth (vls t) j)
  | 0, k, h => .inl ⟨by rw [List.drop_of_length_le (by omega)]; rfl, rfl⟩
  | f + 1, k, h => by
    have hk : k < t.length := by omega
    have e : t.drop k = t[k] :: t.drop (k + 1) := by rw [List.getElem_cons_drop]
    have hx : nth (kys t) k = t[k].1 := by simp [nth, List.getD, hk]
    have hy : nth (vls t) k = t[k].2 := by simp [nth, List.getD, hk]
    rw [e]
    unfold find plcFrom
    rw [hx]
    by_cases h1 : t[k].1 = n
    · rw [if_pos h1, if_pos h1]
      exact .inr ⟨k, hk, rfl, by rw [hy]⟩
    · rw [if_neg h1, if_neg h1]
      exact plc_from t n f (k + 1) (by omega)
theorem plc_find (t : List E) (n : Int) : (find n t = none ∧ plc (kys t) n = -1) ∨ ∃ j, j < t.length ∧ plc (kys t) n = (j : Int) ∧ find n t = some (nth (vls t) j) := by
  have h := plc_from t n t.length 0 (by omega)
  rw [List.drop_zero] at h
  unfold plc
  rw [show (kys t).length = t.length by simp]
  exact h
/-- What the document gets: the value; -1: none. -/
def dGet (ts : List (List E)) (k : Int) : Int := (look k ts).getD (-1)
theorem dGet_step {ts : List (List E)} {i : Nat} (h : i < ts.length) (k : Int) : (plc (kys (ts.getD i [])) k = -1 ∧ dGet (ts.drop i) k = dGet (ts.drop (i + 1)) k) ∨ ∃ j, j < (ts.getD i []).length ∧ plc (kys (ts.getD i [])) k = (j : Int) ∧ dGet (ts.drop i) k = nth (vls (ts.getD i [])) j := by
  have e : ts.drop i = ts.getD i [] :: ts.drop (i + 1) := by
    rw [List.getD_eq_getElem?_getD, List.getElem?_eq_getElem h]
    simp
  rw [e]
  unfold dGet
  have e2 : look k (ts.getD i [] :: ts.drop (i + 1)) = match find k (ts.getD i []) with | some x => some x | none => look k (ts.drop (i + 1)) := rfl
  rw [e2]
  rcases plc_find (ts.getD i []) k with ⟨h1, h2⟩ | ⟨j, h1, h2, h3⟩
  · rw [h1]; exact .inl ⟨h2, rfl⟩
  · rw [h3]; exact .inr ⟨j, h1, h2, rfl⟩
theorem dGet_end (ts : List (List E)) (k : Int) {i : Nat} (h : ts.length ≤ i) : dGet (ts.drop i) k = -1 := by
  rw [List.drop_of_length_le h]
  rfl
end Ls
end Go.Proofs.YtokbhiokcoldbaaDoor
