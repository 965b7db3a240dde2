/- What any proof of this seat uses: frames between worlds, rows of integers in memory, loads and stores of a part of a block. No program in sight. -/
import Derived.WalkKit
import Derived.ProofKit
import Derived.OpenShut
import Derived.WalkLawsBesides
import Derived.WalkSpells
import Derived.Deep.QuietTactic
import Derived.BigQuiet
import Derived.StillTailTactics
import Derived.Deep.RegionHeld3
import Derived.Deep.Matrix
import Derived.Lib.Hide
import Derived.Maps.OwnSet
import Derived.Maps.RangeWalk
namespace Go.Proofs.YtnglhfeialomgaaGreatDoor
open Go.RowKit

/-- From w to w' nothing has turned but blocks of S, and what is new. -/
structure Fr (S : List Nat) (w w' : World) : Prop where
  os : w'.os = w.os
  tape : w'.tape = w.tape
  output : w'.output = w.output
  size : w.heap.size ≤ w'.heap.size
  block : ∀ k, k < w.heap.size → k ∉ S → w'.heap[k]? = w.heap[k]?

theorem Fr.refl (S : List Nat) (w : World) : Fr S w w := ⟨rfl, rfl, rfl, Nat.le_refl _, fun _ _ _ => rfl⟩
/-- The second step may write what the first one may, and what was made since. -/
theorem Fr.step {S T : List Nat} {a b c : World} (h : Fr S a b) (k : Fr T b c) (hT : ∀ x ∈ T, x ∈ S ∨ a.heap.size ≤ x) : Fr S a c :=
  ⟨k.os.trans h.os, k.tape.trans h.tape, k.output.trans h.output, Nat.le_trans h.size k.size, fun i hi hn =>
    (k.block i (Nat.lt_of_lt_of_le hi h.size) (fun hx => (hT i hx).elim hn (fun h' => absurd hi (Nat.not_lt.2 h')))).trans (h.block i hi hn)⟩
theorem Fr.trans {S : List Nat} {a b c : World} (h : Fr S a b) (k : Fr S b c) : Fr S a c := h.step k fun _ hx => .inl hx
theorem Fr.mono {S T : List Nat} {a b : World} (h : Fr S a b) (hT : ∀ x ∈ S, x ∈ T ∨ a.heap.size ≤ x) : Fr T a b :=
  ⟨h.os, h.tape, h.output, h.size, fun i hi hn => h.block i hi fun hx => (hT i hx).elim hn (fun h' => absurd hi (Nat.not_lt.2 h'))⟩
theorem Fr.nil {T : List Nat} {a b : World} (h : Fr [] a b) : Fr T a b := h.mono (by simp)
theorem Fr.drewN {S : List Nat} {a b : World} (h : Fr S a b) (n : Nat) : Fr S a (b.drewN n) := ⟨h.os, h.tape, h.output, h.size, h.block⟩
theorem Fr.drew {S : List Nat} {a b : World} (h : Fr S a b) : Fr S a b.drew := ⟨h.os, h.tape, h.output, h.size, h.block⟩
theorem Fr.alloc {S : List Nat} {a b : World} (h : Fr S a b) (o : Obj) : Fr S a (b.alloc o) :=
  h.step (T := []) ⟨rfl, rfl, rfl, by simp, fun k hk _ => World.grownBy.block (World.grownBy_alloc b o none) k hk (by simp)⟩ (by simp)
theorem Fr.setCell {S : List Nat} {a b : World} (h : Fr S a b) {p : Addr} (hp : p.block ∈ S ∨ a.heap.size ≤ p.block) (v : Value) : Fr S a (b.setCell p v) :=
  h.step (T := [p.block]) ⟨rfl, rfl, rfl, by simp [World.setCell], fun k _ hn => heap_setCell_other b p k v (by simpa using hn)⟩ (by simpa using hp)
theorem Fr.setRow {S : List Nat} {a b : World} (h : Fr S a b) {g : Nat} (hp : g ∈ S ∨ a.heap.size ≤ g) (cs : Array Value) : Fr S a (b.setRow g cs) :=
  h.step (T := [g]) ⟨rfl, rfl, rfl, by simp, fun k _ hn => setRow_other b g k cs (by simpa using hn)⟩ (by simpa using hp)
theorem Fr.grown {S : List Nat} {a b c : World} {row : Option Nat} (h : Fr S a b) (hg : b.grownBy c row) (hr : ∀ g, row = some g → g ∈ S ∨ a.heap.size ≤ g) : Fr S a c :=
  h.step (T := row.toList) ⟨hg.os, hg.tape, hg.output, hg.size, fun k hk hn => hg.block k hk (by rintro rfl; simp at hn)⟩ (fun x hx => hr x (by simpa using hx))
theorem Fr.of_below {w w' : World} (h : Below w.heap.size w w') : Fr [] w w' := ⟨h.os, h.tape, h.output, h.size, fun k hk _ => h.block k hk⟩
theorem Fr.below {w w' : World} (h : Fr [] w w') : Below w.heap.size w w' := ⟨h.os, h.tape, h.output, h.size, fun k hk => h.block k hk (by simp)⟩
theorem Fr.get {S : List Nat} {w w' : World} (h : Fr S w w') {k : Nat} {o : Obj} (hk : w.heap[k]? = some o) (hn : k ∉ S) : w'.heap[k]? = some o :=
  (h.block k (Array.getElem?_eq_some_iff.1 hk).1 hn).trans hk
theorem Fr.cell {S : List Nat} {w w' : World} (h : Fr S w w') {p : Addr} {v : Value} (hk : w.cell? p = some v) (hn : p.block ∉ S) : w'.cell? p = some v :=
  (World.cell?_of_block (h.block p.block (block_lt_of_cell hk) hn)).trans hk
/-- The same world, but for draws. -/
def Dr (w w' : World) : Prop := ∃ n, w' = w.drewN n
theorem Dr.refl (w : World) : Dr w w := ⟨0, rfl⟩
theorem Dr.one (w : World) (n : Nat) : Dr w (w.drewN n) := ⟨n, rfl⟩
theorem Dr.two (w : World) (n m : Nat) : Dr w ((w.drewN n).drewN m) := ⟨n + m, by rw [World.drewN_drewN]⟩
theorem Dr.trans {a b c : World} (h : Dr a b) (k : Dr b c) : Dr a c := by
  obtain ⟨n, rfl⟩ := h
  obtain ⟨m, rfl⟩ := k
  exact Dr.two _ _ _
theorem Dr.cell {w w' : World} (h : Dr w w') (a : Addr) : w'.cell? a = w.cell? a := by
  obtain ⟨n, rfl⟩ := h
  rfl
theorem Dr.fr {w w' : World} (h : Dr w w') (S : List Nat) : Fr S w w' := by
  obtain ⟨n, rfl⟩ := h
  exact (Fr.refl S w).drewN n
theorem cell?_alloc_old {w : World} {a : Addr} {v : Value} (o : Obj) (h : w.cell? a = some v) : (w.alloc o).cell? a = some v :=
  (World.cell?_of_block (Below.heap_alloc w o a.block (block_lt_of_cell h))).trans h
theorem lt_of_heap {w : World} {k : Nat} {o : Obj} (hk : w.heap[k]? = some o) : k < w.heap.size := (Array.getElem?_eq_some_iff.1 hk).1

/-! ### A row of integers -/
/-- A number of a list, by its place (0 behind its end). A word of its own, so that no rule of simp lays it open. -/
def nth (l : List Int) (i : Nat) : Int := l.getD i 0
def ints (l : List Int) : Array Value := (l.map (Value.int .i64)).toArray
@[simp] theorem size_ints (l : List Int) : (ints l).size = l.length := by simp [ints]
theorem ints_get (l : List Int) (i : Nat) (h : i < l.length) : (ints l)[i]? = some (.int .i64 (nth l i)) := by simp [ints, h, nth, List.getD]
theorem ints_toList (l : List Int) : (ints l).toList = l.map (Value.int .i64) := rfl
/-- Is a number in a list? A word of its own. -/
def hasB (l : List Int) (x : Int) : Bool := l.contains x
theorem ints_set (l : List Int) (i : Nat) (x : Int) : (ints l).setIfInBounds i (.int .i64 x) = ints (l.set i x) := by
  apply Array.ext'
  simp [ints, List.map_set]
theorem cell_ints {w : World} {b i : Nat} {l : List Int} {t : TypeId} {fr : Nat × Nat} (h : w.heap[b]? = some (.cells (ints l) t fr)) (hi : i < l.length) :
    w.cell? ⟨b, i, none⟩ = some (.int .i64 (nth l i)) := by rw [cell_of_row w b i _ t fr h, ints_get l i hi]
theorem free_block {w : World} {b : Nat} {cs : Array Value} {t : TypeId} (h : w.heap[b]? = some (.cells cs t (0, 0))) (i : Nat) (s : Option Nat) : w.frozen? ⟨b, i, s⟩ = false := by
  simp [World.frozen?, h]
theorem set_block {w : World} {b i : Nat} {cs : Array Value} {t : TypeId} (h : w.heap[b]? = some (.cells cs t (0, 0))) (v : Value) :
    (w.setCell ⟨b, i, none⟩ v).heap[b]? = some (.cells (cs.setIfInBounds i v) t (0, 0)) := heap_setCell_same w b i cs t v h
theorem set_ints {w : World} {b i : Nat} {l : List Int} {t : TypeId} (h : w.heap[b]? = some (.cells (ints l) t (0, 0))) (x : Int) :
    (w.setCell ⟨b, i, none⟩ (.int .i64 x)).heap[b]? = some (.cells (ints (l.set i x)) t (0, 0)) := by rw [set_block h, ints_set]

/-- The value v reads, in w, as the integers xs; they lie in block g (if there are any). -/
def Sl (w : World) (v : Value) (g : Nat) (xs : List Int) : Prop :=
  (xs = [] ∧ ∃ A c, v = .slice A 0 c) ∨ ∃ o c, v = .slice (some ⟨g, o, none⟩) xs.length c ∧ xs.length ≤ c ∧ c ≤ maxLen ∧ ∀ i, i < xs.length → w.cell? ⟨g, o + i, none⟩ = some (.int .i64 (nth xs i))
/-- The same in one form: the address is there where an element is. -/
theorem Sl.form {w : World} {v : Value} {g : Nat} {xs : List Int} (h : Sl w v g xs) :
    ∃ (A : Option Addr) (o c : Nat), v = .slice A xs.length c ∧ xs.length ≤ 9223372036854775807 ∧ (0 < xs.length → A = some ⟨g, o, none⟩) ∧ ∀ i, i < xs.length → w.cell? ⟨g, o + i, none⟩ = some (.int .i64 (nth xs i)) := by
  rcases h with ⟨rfl, A, c, rfl⟩ | ⟨o, c, rfl, h1, h2, h3⟩
  · exact ⟨A, 0, c, rfl, by simp, by simp, by simp⟩
  · exact ⟨_, o, c, rfl, by unfold maxLen at h2; omega, fun _ => rfl, h3⟩
theorem Sl.fr {S : List Nat} {w w' : World} {v : Value} {g : Nat} {xs : List Int} (h : Sl w v g xs) (hf : Fr S w w') (hg : g ∉ S) : Sl w' v g xs := by
  rcases h with h | ⟨o, c, h0, h1, h2, h3⟩
  · exact .inl h
  · exact .inr ⟨o, c, h0, h1, h2, fun i hi => hf.cell (h3 i hi) hg⟩
/-- What the call owns as a row reads so. -/
theorem Sl.of_owns {w : World} {base e : Nat} {v : Value} {n : Nat} {xs : List Int} (h : w.ownsRow base e 1 v n (xs.map (Value.int .i64))) : ∃ g, (base ≤ g ∨ xs = []) ∧ (v.ownBlock = some g ∨ v.ownBlock = none) ∧ Sl w v g xs := by
  obtain ⟨hl, h⟩ := h
  simp only [List.length_map, Nat.mul_one] at hl
  subst hl
  rcases h with ⟨rfl, hn⟩ | ⟨g, cap, cur, rfl, hb, hg, hc, hm, hs, ht⟩
  · exact ⟨0, .inr (List.eq_nil_of_length_eq_zero hn), .inr rfl, .inl ⟨List.eq_nil_of_length_eq_zero hn, none, 0, rfl⟩⟩
  · refine ⟨g, .inl hb, .inl rfl, .inr ⟨0, cap, rfl, hc, hm, fun i hi => ?_⟩⟩
    rw [Nat.zero_add, cell_of_row w g i cur e _ hg]
    have h1 : cur.toList[i]? = (xs.map (Value.int .i64))[i]? := by
      rw [← ht, List.getElem?_take, if_pos (by omega)]
    simpa [hi, nth, List.getD] using h1

/-- What the call owns as a row that grows, the integers xs, in a block from B on. -/
def Own (w : World) (B e : Nat) (v : Value) (xs : List Int) : Prop := w.ownsRow B e 1 v xs.length (xs.map (Value.int .i64))
theorem Own.nil (w : World) (B e : Nat) : Own w B e (.slice none 0 0) [] := World.ownsRow_nil w B e 1
theorem Own.sl {w : World} {B e : Nat} {v : Value} {xs : List Int} (h : Own w B e v xs) : ∃ g, (B ≤ g ∨ xs = []) ∧ Sl w v g xs := by
  obtain ⟨g, h1, _, h2⟩ := Sl.of_owns h
  exact ⟨g, h1, h2⟩
theorem Own.alloc {w : World} {B e : Nat} {v : Value} {xs : List Int} (h : Own w B e v xs) (o : Obj) : Own (w.alloc o) B e v xs := World.ownsRow.alloc h o
theorem Own.drewN {w : World} {B e : Nat} {v : Value} {xs : List Int} (h : Own w B e v xs) (n : Nat) : Own (w.drewN n) B e v xs := h
/-- Another step that leaves the row's own block alone. -/
theorem Own.kept {w w' : World} {B e : Nat} {v : Value} {xs : List Int} {S : List Nat} (h : Own w B e v xs) (hf : Fr S w w') (hS : ∀ g ∈ S, v.ownBlock ≠ some g) : Own w' B e v xs := by
  obtain ⟨h1, h2⟩ := h
  refine ⟨h1, ?_⟩
  rcases h2 with h2 | ⟨g, cap, cur, rfl, hb, hg, r⟩
  · exact .inl h2
  · exact .inr ⟨g, cap, cur, rfl, hb, hf.get hg (fun hm => hS g hm rfl), r⟩
theorem Own.ge {w : World} {B e : Nat} {v : Value} {xs : List Int} (h : Own w B e v xs) : ∀ g, v.ownBlock = some g → B ≤ g ∧ g < w.heap.size := World.ownsRow.lt h
theorem Fr.below_step {S : List Nat} {a b c : World} {B : Nat} (h : Fr S a b) (k : Below B b c) (hB : a.heap.size ≤ B) : Fr S a c :=
  ⟨k.os.trans h.os, k.tape.trans h.tape, k.output.trans h.output, Nat.le_trans h.size k.size, fun i hi hn => (k.block i (Nat.lt_of_lt_of_le hi hB)).trans (h.block i hi hn)⟩
/-- A slice type of integers, in the program's table. -/
structure IntT (P : Program) (t e : TypeId) : Prop where
  ht : P.underlying t = some (.slice e)
  hi : (P.info? e).map (fun i => (i.zero, i.size, i.bytes)) = some (some (.int .i64 0), 1, 8)
/-- 'out = append(out, y)': one integer more. -/
theorem wpList_push_int {P : Program} {ops : Array Oper} {rest : List Oper} {o : Oper} {a : Act} {Q : Exit → Act → World → Prop} {wr : World} {y : Int} {t e : TypeId} (hT : IntT P t e) (hgd : o.guard = none) (s x : Operand)
    (ho : o.op = .call { callee := .builtin .append, args := #[s, x], argTypes := #[t, t] })
    (B : Nat) (v : Value) (xs : List Int) (hs : a.eval s = v) (hown : Own wr B e v xs) (hx : a.eval x = .slice (some ⟨wr.heap.size, 0, none⟩) 1 1) (hl : xs.length < 1000000) (hB : B ≤ wr.heap.size)
    (h : ∀ v' w', Own w' B e v' (xs ++ [y]) → wr.grownBy w' v.ownBlock → Below B wr w' → wpList P ops Q rest (a.put o.dst v') w') : wpList P ops Q (o :: rest) a (wr.alloc (.cells #[.int .i64 y] e)) := by
  obtain ⟨i0, hi, hz0, hz1, hz2⟩ := info_parts hT.hi
  refine wpList_append_own _ hgd s x t ho B e i0 (.int .i64 0) 1 8 hT.ht hi hz0 hz1 hz2 rfl (by decide) v xs.length _ hs (hown.alloc _) ⟨wr.heap.size, 0, none⟩ 1 1 [.int .i64 y] hx rfl ?_ (by simp [Value.oneCell']) (by unfold maxLen; omega) (by omega) (by simp; omega) ?_
  · intro j u hu
    cases j with
    | zero => simp at hu; subst hu; rw [Addr.add_zero', cell_of_row _ _ _ _ _ _ (heap_alloc_new wr _)]; rfl
    | succ j => simp at hu
  · intro v' w' h1 h2 _
    have hg : wr.grownBy w' v.ownBlock := ⟨h2.os, h2.tape, h2.output, Nat.le_trans (by simp) h2.size, fun k hk hn => (h2.block k (by simp; omega) hn).trans (Below.heap_alloc wr _ k hk)⟩
    refine h v' w' (by unfold Own; simpa using h1) hg ?_
    exact ⟨hg.os, hg.tape, hg.output, hg.size, fun k hk => hg.block k (by omega) (fun e => by have := hown.ge k e.symm; omega)⟩

/-- A row of a list of lists, by its place. A word of its own. -/
def nthR (ls : List (List Int)) (i : Nat) : List Int := ls.getD i []
/-- A number that an int holds. -/
def I64 (x : Int) : Prop := -9223372036854775808 ≤ x ∧ x ≤ 9223372036854775807
/-- Rows of integers that came in: all of it lies below block B. -/
def RwF (B : Nat) (w : World) (A : Option Addr) (g o : Nat) (ls : List (List Int)) : Prop :=
  (0 < ls.length → A = some ⟨g, o, none⟩ ∧ g < B) ∧ ∀ i, i < ls.length → ∃ u k, w.cell? ⟨g, o + i, none⟩ = some u ∧ (k < B ∨ nthR ls i = []) ∧ Sl w u k (nthR ls i) ∧ ∀ x ∈ nthR ls i, I64 x
def Rw (B : Nat) (w : World) (v : Value) (ls : List (List Int)) : Prop := ∃ A g o c, v = .slice A ls.length c ∧ ls.length ≤ 9223372036854775807 ∧ RwF B w A g o ls
theorem Sl.below {B : Nat} {w w' : World} {v : Value} {g : Nat} {xs : List Int} (h : Sl w v g xs) (hb : Below B w w') (hg : g < B ∨ xs = []) : Sl w' v g xs := by
  rcases h with h | ⟨o, c, h0, h1, h2, h3⟩
  · exact .inl h
  · refine .inr ⟨o, c, h0, h1, h2, fun i hi => ?_⟩
    rcases hg with hg | rfl
    · exact (hb.cell (p := ⟨g, o + i, none⟩) hg).trans (h3 i hi)
    · simp at hi
theorem RwF.below {B : Nat} {w w' : World} {A : Option Addr} {g o : Nat} {ls : List (List Int)} (h : RwF B w A g o ls) (hb : Below B w w') : RwF B w' A g o ls :=
  ⟨h.1, fun i hi => by
    obtain ⟨u, k, h1, h2, h3, h4⟩ := h.2 i hi
    exact ⟨u, k, (hb.cell (p := ⟨g, o + i, none⟩) (h.1 (by omega)).2).trans h1, h2, h3.below hb h2, h4⟩⟩
theorem Rw.below {B : Nat} {w w' : World} {v : Value} {ls : List (List Int)} (h : Rw B w v ls) (hb : Below B w w') : Rw B w' v ls := by
  obtain ⟨A, g, o, c, h1, h2, h3⟩ := h
  exact ⟨A, g, o, c, h1, h2, h3.below hb⟩
theorem Fr.toBelow {S : List Nat} {w w' : World} {B : Nat} (h : Fr S w w') (hB : B ≤ w.heap.size) (hS : ∀ x ∈ S, B ≤ x) : Below B w w' :=
  ⟨h.os, h.tape, h.output, h.size, fun k hk => h.block k (by omega) (fun hm => by have := hS k hm; omega)⟩

/-! ### A part of a block, loaded and stored as one value -/
section
variable {P : Program}
theorem run_load_part (w : World) (g o n : Nat) (t ty : TypeId) (cur : Array Value) (fr : Nat × Nat) (d : TypeDesc) (hg : w.heap[g]? = some (.cells cur t fr))
    (hu : P.underlying ty = some d) (hd : (match d with | .struct _ | .array _ _ => true | _ => false) = true) (hi : (P.info? ty).map (·.size) = some n) (hn : o + n ≤ cur.size) :
    (loadVar ty ⟨g, o, none⟩).run P w = .ok (.agg ((cur.toList.drop o).take n).toArray) w := by
  have hlen : ((cur.toList.drop o).take n).length = n := by simp; omega
  have hl : (loadCells ⟨g, o, none⟩ ((cur.toList.drop o).take n).length).run P w = .ok ((cur.toList.drop o).take n).toArray w :=
    run_loadCells_list (P := P) w ⟨g, o, none⟩ _ (fun j v hv => by
      have hadd : (⟨g, o, none⟩ : Addr).add j = ⟨g, o + j, none⟩ := by unfold Addr.add; split <;> simp_all
      rw [hadd, cell_of_row w g _ cur t fr hg]
      rw [List.getElem?_take] at hv
      split at hv
      · simpa using hv
      · cases hv)
  rw [hlen] at hl
  cases hq : P.info? ty with
  | none => simp [hq] at hi
  | some i =>
    have hs : i.size = n := by simpa [hq] using hi
    have hagg : (isAgg ty).run P w = .ok true w := by
      unfold isAgg
      rw [Sem.run_bind, run_underlying hu w]
      cases d <;> simp_all
    simp [loadVar, Sem.run_bind, hagg, sizeOf, typeInfo, hq, hs, hl]
theorem wp_load_part {o : Oper} {a : Act} {w : World} {K : Act → World → Prop} {Q : Exit → Act → World → Prop} (ty : TypeId) (x : Operand) (ho : o.op = .load ty x)
    (g off n : Nat) (hx : a.eval x = .pointer (some ⟨g, off, none⟩)) (t : TypeId) (cur : Array Value) (fr : Nat × Nat) (d : TypeDesc) (hg : w.heap[g]? = some (.cells cur t fr))
    (hu : P.underlying ty = some d) (hd : (match d with | .struct _ | .array _ _ => true | _ => false) = true) (hi : (P.info? ty).map (·.size) = some n) (hn : off + n ≤ cur.size)
    (h : K (a.put o.dst (.agg ((cur.toList.drop off).take n).toArray)) w) : o.wp P a w K Q := by
  unfold Oper.wp execOp
  simp only [ho, hx, Instr.loadAt, Instr.sureAddr, Sem.run_bind, Sem.run_pure, Result.andThen_ok, run_load_part w g off n t ty cur fr d hg hu hd hi hn]
  exact h
/-- A load of n cells from a place in a block on. -/
theorem wpList_load_part {ops : Array Oper} {rest : List Oper} {o : Oper} {a : Act} {w : World} {Q : Exit → Act → World → Prop} (hgd : o.guard = none) (ty : TypeId) (x : Operand) (ho : o.op = .load ty x)
    (g off n : Nat) (hx : a.eval x = .pointer (some ⟨g, off, none⟩)) (t : TypeId) (cur : Array Value) (fr : Nat × Nat) (d : TypeDesc) (hg : w.heap[g]? = some (.cells cur t fr))
    (hu : P.underlying ty = some d) (hd : (match d with | .struct _ | .array _ _ => true | _ => false) = true) (hi : (P.info? ty).map (·.size) = some n) (hn : off + n ≤ cur.size)
    (vs : Array Value) (hvs : ((cur.toList.drop off).take n).toArray = vs)
    (h : wpList P ops Q rest (a.put o.dst (.agg vs)) w) : wpList P ops Q (o :: rest) a w :=
  wpList_plain hgd fun _ hK => wp_load_part ty x ho g off n hx t cur fr d hg hu hd hi hn (hK _ _ (by rw [hvs]; exact h))
theorem run_store_part (w : World) (g o : Nat) (t ty : TypeId) (cur vs : Array Value) (hg : w.heap[g]? = some (.cells cur t (0, 0))) (hi : (P.info? ty).map (·.size) = some vs.size)
    (hn : o + vs.size ≤ cur.size) (h1 : ∀ v ∈ vs.toList, v.oneCell' = true) :
    (storeVar ty ⟨g, o, none⟩ (.agg vs)).run P w = .ok () (w.setRow g (cur.toList.take o ++ vs.toList ++ cur.toList.drop (o + vs.size)).toArray) := by
  have h := run_storeCells_at (P := P) g o t vs.toList 0 cur w hg (by simpa using hn) h1
  cases hq : P.info? ty with
  | none => simp [hq] at hi
  | some i =>
    have hs : vs.size = i.size := by simp [hq] at hi; omega
    simp only [Nat.add_zero, Array.length_toList] at h
    simp [storeVar, sizeOf, typeInfo, hq, Value.cells, hs]
    rw [h, hs, List.append_assoc]
theorem wp_store_part {o : Oper} {a : Act} {w : World} {K : Act → World → Prop} {Q : Exit → Act → World → Prop} (ty : TypeId) (x y : Operand) (ho : o.op = .store ty x y)
    (g off : Nat) (vs : Array Value) (hx : a.eval x = .pointer (some ⟨g, off, none⟩)) (hy : a.eval y = .agg vs)
    (t : TypeId) (cur : Array Value) (hg : w.heap[g]? = some (.cells cur t (0, 0))) (hi : (P.info? ty).map (·.size) = some vs.size)
    (hn : off + vs.size ≤ cur.size) (h1 : ∀ v ∈ vs.toList, v.oneCell' = true)
    (h : K (a.put o.dst undef) (w.setRow g (cur.toList.take off ++ vs.toList ++ cur.toList.drop (off + vs.size)).toArray)) : o.wp P a w K Q := by
  unfold Oper.wp execOp
  simp only [ho, hx, hy, Instr.storeAt, Instr.sureAddr, Sem.run_bind, Sem.run_pure, Result.andThen_ok, run_store_part w g off t ty cur vs hg hi hn h1]
  exact h
/-- A store of a value of several cells at a place in a block. -/
theorem wpList_store_part {ops : Array Oper} {rest : List Oper} {o : Oper} {a : Act} {w : World} {Q : Exit → Act → World → Prop} (hgd : o.guard = none) (ty : TypeId) (x y : Operand) (ho : o.op = .store ty x y)
    (g off : Nat) (vs : Array Value) (hx : a.eval x = .pointer (some ⟨g, off, none⟩)) (hy : a.eval y = .agg vs)
    (t : TypeId) (cur : Array Value) (hg : w.heap[g]? = some (.cells cur t (0, 0))) (hi : (P.info? ty).map (·.size) = some vs.size)
    (hn : off + vs.size ≤ cur.size) (h1 : ∀ v ∈ vs.toList, v.oneCell' = true)
    (new : Array Value) (hnew : (cur.toList.take off ++ vs.toList ++ cur.toList.drop (off + vs.size)).toArray = new)
    (h : wpList P ops Q rest (a.put o.dst undef) (w.setRow g new)) : wpList P ops Q (o :: rest) a w :=
  wpList_plain hgd fun _ hK => wp_store_part ty x y ho g off vs hx hy t cur hg hi hn h1 (hK _ _ (by rw [hnew]; exact h))
end
theorem ints_one {l : List Int} : ∀ v ∈ (ints l).toList, v.oneCell' = true := by
  intro v hv
  simp only [ints_toList, List.mem_map] at hv
  obtain ⟨x, _, rfl⟩ := hv
  rfl

/-- An element of an array value, of one cell each. -/
theorem run_index_agg {P : Program} (w : World) (t e : TypeId) (n i : Nat) (cs : Array Value) (v : Value) (hu : P.underlying t = some (.array n e)) (hs : (P.info? e).map (·.size) = some 1)
    (ha : (match P.underlying e with | some (.struct _) | some (.array _ _) | none => false | _ => true) = true) (hi : i < n) (hv : cs[i]? = some v) : (Instr.index t (.agg cs) (.int .i64 i)).run P w = .ok v w := by
  cases hq : P.info? e with
  | none => simp [hq] at hs
  | some f =>
    have hs' : f.size = 1 := by simpa [hq] using hs
    cases he : P.underlying e with
    | none => simp [he] at ha
    | some d =>
      have hagg : (isAgg e).run P w = .ok false w := by
        unfold isAgg
        rw [Sem.run_bind, run_underlying he w]
        cases d <;> simp_all
      simp [Instr.index, asIntOf, run_underlying hu, sizeOf, typeInfo, hq, hs', hi, part, Sem.run_bind, hagg, hv]

/-- A contract, used where the goal tells the world and the arguments. -/
theorem useC {P : Program} {f : FuncId} {args : Array Value} {w : World} {R R' : Ending → World → Prop} (h : Calls P f args w R) (hr : ∀ e w', R e w' → R' e w') : Calls P f args w R' := h.mono hr

/-! ### What the walk of a law begins with -/
theorem ret_bool {a b : Bool} (h : a = b) : Ending.returned (.bool a) = .returned (.bool b) := by rw [h]
theorem ret_int {k : IntKind} {a b : Int} (h : a = b) : Ending.returned (.int k a) = .returned (.int k b) := by rw [h]
end Go.Proofs.YtnglhfeialomgaaGreatDoor
/- Maps from int to pointers: what a call reads, stores and strikes in one, and a range over it. No program in sight. -/
namespace Go.Proofs.YtnglhfeialomgaaGreatDoor
open Go.RowKit Go.Maps

theorem wf_int {x : Int} (h : I64 x) : (Lit.int .i64 x).wf = true := by
  unfold I64 at h
  simp [Lit.wf, IntKind.min, IntKind.max, IntKind.signed, IntKind.bits]
  omega
theorem same_int (x y : Int) : (Lit.int .i64 x).sameKey (.int .i64 y) = (x == y) := by
  by_cases e : x = y
  · subst e; simp [Lit.sameKey]
  · simp [Lit.sameKey, e]
/-- A pointer at a block's head, or nil; its number. -/
def ptrO (x : Option Nat) : Value := .pointer (x.map fun o => ⟨o, 0, none⟩)
def numO (x : Option Nat) : Int := match x with
  | none => -1
  | some o => o
theorem numO_inj {x y : Option Nat} (h : numO x = numO y) : x = y := by
  cases x <;> cases y <;> simp [numO] at h ⊢ <;> omega
/-- How a pointer in a map reads. -/
def ptrR (v : Value) : Option (DataW Unit × List MemPlace) := match v with
  | .pointer none => some (.lit (.int .i64 (-1)), [])
  | .pointer (some a) => if a = ⟨a.block, 0, none⟩ then some (.lit (.int .i64 a.block), []) else none
  | _ => none
theorem ptrR_mk (x : Option Nat) : ptrR (ptrO x) = some (.lit (.int .i64 (numO x)), []) := by
  cases x with
  | none => rfl
  | some o => simp [ptrR, ptrO, numO]
theorem ptrR_inv {v : Value} {z : DataW Unit × List MemPlace} (h : ptrR v = some z) : ∃ x, v = ptrO x ∧ z = (.lit (.int .i64 (numO x)), []) := by
  unfold ptrR at h
  split at h
  · exact ⟨none, rfl, (Option.some.inj h).symm⟩
  · rename_i a
    split at h
    · rename_i e
      exact ⟨some a.block, by unfold ptrO; rw [e]; rfl, (Option.some.inj h).symm⟩
    · cases h
  · cases h
/-- A map's datum says just what m says. -/
def MapIs (D : DataW Unit) (m : Int → Option Nat) : Prop := ∀ x z, D.atKey (.int .i64 x) z = match m x with
  | none => z
  | some o => .lit (.int .i64 o)
theorem MapIs.at {D : DataW Unit} {m : Int → Option Nat} (h : MapIs D m) (x : Int) : D.atKey (.int .i64 x) (.lit (.int .i64 (-1))) = .lit (.int .i64 (numO (m x))) := by
  rw [h x]
  cases m x <;> rfl
/-- Block b is a map that says what m says, of at most n entries. -/
def PMap (P : Program) (k : TypeId) (w : World) (b n : Nat) (m : Int → Option Nat) : Prop := ∃ D, w.ownsMap P k ptrR b n D ∧ MapIs D m
section
variable {P : Program} {k e t : TypeId} {w : World} {b n : Nat} {m : Int → Option Nat}
theorem PMap.fr {w' : World} {S : List Nat} (h : PMap P k w b n m) (hf : Fr S w w') (hb : b ∉ S) : PMap P k w' b n m := by
  obtain ⟨D, ⟨es, clock, h0, r⟩, hm⟩ := h
  exact ⟨D, ⟨es, clock, (hf.block b (lt_of_heap h0) hb).trans h0, r⟩, hm⟩
theorem PMap.lt (h : PMap P k w b n m) : b < w.heap.size := by obtain ⟨D, h, _⟩ := h; exact World.ownsMap.lt h
theorem PMap.made (w : World) (P : Program) (k : TypeId) : PMap P k (w.alloc (.map #[] 0)) w.heap.size 0 (fun _ => none) := ⟨_, World.ownsMap_made w P k _, fun _ _ => rfl⟩
theorem Fr.turnedM {w' : World} (h : w.mapTurned w' b) : Fr [b] w w' :=
  let g := h.grown
  ⟨g.os, g.tape, g.output, g.size, fun i hi hn => g.block i hi (by simp at hn; simpa using hn)⟩
theorem MapIs.put {D : DataW Unit} (hD : IsMap D) (h : MapIs D m) (y : Int) (o : Nat) : MapIs (D.put (.int .i64 y) (.lit (.int .i64 (numO (some o))))) (fun x => if x = y then some o else m x) := by
  intro x z
  show _ = match (if x = y then some o else m x) with
    | none => z
    | some o => .lit (.int .i64 o)
  by_cases e : x = y
  · subst e
    rw [atKey_put_same hD (show WideAt.IsKeyLit (.int .i64 x) from trivial), if_pos rfl]; rfl
  · rw [atKey_put_other (by simpa using e), h x z, if_neg e]
theorem MapIs.del {D : DataW Unit} (h : MapIs D m) (y : Int) : MapIs (D.del (.int .i64 y)) (fun x => if x = y then none else m x) := by
  intro x z
  show _ = match (if x = y then none else m x) with
    | none => z
    | some o => .lit (.int .i64 o)
  by_cases e : x = y
  · subst e
    rw [atKey_del_same, if_pos rfl]
  · rw [atKey_del_other (by simpa using e), h x z, if_neg e]
theorem run_lookup_ptr (h : PMap P k w b n m) (hk : P.underlying k = some (.int .i64)) (ht : P.underlying t = some (.map k e)) (hz : (zeroValue e).run P w = .ok (.pointer none) w) {x : Int} (hx : I64 x) :
    (Instr.lookup t (.map (some b)) (.int .i64 x) false).run P w = .ok (ptrO (m x)) w := by
  obtain ⟨D, h, hm⟩ := h
  obtain ⟨v, ps, hrun, hv⟩ := World.ownsMap.lookup (H := Unit) h (int_keyed hk) ht hz (ptrR_mk none) (keyOf_int_mk hk (wf_int hx))
  rw [show numO none = -1 from rfl, hm.at x] at hv
  obtain ⟨y, rfl, e1⟩ := ptrR_inv hv
  simp only [Prod.mk.injEq, DataW.lit.injEq, Lit.int.injEq, true_and] at e1
  rw [hrun, numO_inj e1.1]
/-- 'm[x]'. -/
theorem wpList_lookup_ptr {ops : Array Oper} {rest : List Oper} {o : Oper} {a : Act} {Q : Exit → Act → World → Prop} (hg : o.guard = none) (mm x : Operand) (hop : o.op = Op.lookup t mm x false) (h : PMap P k w b n m)
    (hk : P.underlying k = some (.int .i64)) (ht : P.underlying t = some (.map k e)) (hz : (zeroValue e).run P w = .ok (.pointer none) w) (hm : a.eval mm = .map (some b)) (y : Int) (hx : a.eval x = .int .i64 y) (hy : I64 y) (v : Value) (hv : ptrO (m y) = v)
    (hK : wpList P ops Q rest (a.put o.dst v) w) : wpList P ops Q (o :: rest) a w := by
  subst hv
  refine wpList_plain hg fun K' hK' => ?_
  unfold Oper.wp
  simp [execOp, hop, hm, hx, run_lookup_ptr h hk ht hz hy, Result.andThen]
  exact hK' _ _ hK
/-- 'm[x] = p'. -/
theorem wpList_update_ptr {ops : Array Oper} {rest : List Oper} {o : Oper} {a : Act} {Q : Exit → Act → World → Prop} (hg : o.guard = none) (mm x v : Operand) (hop : o.op = Op.mapUpdate t mm x v) (h : PMap P k w b n m)
    (hk : P.underlying k = some (.int .i64)) (ht : P.underlying t = some (.map k e)) (hn : n < maxLen) (hm : a.eval mm = .map (some b)) (y : Int) (hx : a.eval x = .int .i64 y) (p : Nat) (hv : a.eval v = .pointer (some ⟨p, 0, none⟩)) (hy : I64 y)
    (hK : ∀ w', PMap P k w' b (n + 1) (fun x => if x = y then some p else m x) → Fr [b] w w' → wpList P ops Q rest (a.put o.dst undef) w') : wpList P ops Q (o :: rest) a w := by
  obtain ⟨D, h, hmm⟩ := h
  have hD := World.ownsMap.isMap h
  refine wpList_mapUpdate_in (H := Unit) w hg mm x v t hop k e (int_keyed hk) ht _ b n _ hm h hn _ _ _ hx hv (keyOf_int_mk hk (wf_int hy)) _ [] (ptrR_mk (some p)) ?_
  intro w' h1 h2
  exact hK w' ⟨_, h1, hmm.put hD y p⟩ (Fr.turnedM h2)

/-! ### A range over it -/
/-- The range at block r: what the map says; which keys are still to come; how many. -/
def PRange (P : Program) (k : TypeId) (w : World) (b r n : Nat) (m : Int → Option Nat) (left : Int → Bool) (cnt : Nat) : Prop :=
  ∃ D L, w.ranges P k ptrR b r n D L cnt ∧ MapIs D m ∧ ∀ x, L (.int .i64 x) = left x
variable {r cnt : Nat} {left : Int → Bool}
theorem PRange.map (h : PRange P k w b r n m left cnt) : PMap P k w b n m := by
  obtain ⟨D, L, h, hm, _⟩ := h
  exact ⟨D, h.owns, hm⟩
theorem PRange.lt (h : PRange P k w b r n m left cnt) : r < w.heap.size ∧ r ≠ b := by
  obtain ⟨D, L, h, _, _⟩ := h
  exact ⟨h.lt, h.ne⟩
theorem PRange.fr {w' : World} {S : List Nat} (h : PRange P k w b r n m left cnt) (hf : Fr S w w') (hb : b ∉ S) (hr : r ∉ S) : PRange P k w' b r n m left cnt := by
  obtain ⟨D, L, ⟨es, clock, since, seen, c0, h0, q1, q2, q3, h4, q⟩, hm, hl⟩ := h
  exact ⟨D, L, ⟨es, clock, since, seen, c0, (hf.block b (lt_of_heap h0) hb).trans h0, q1, q2, q3, (hf.block r (lt_of_heap h4) hr).trans h4, q⟩, hm, hl⟩
theorem PRange.left_eq (h : PRange P k w b r n m left cnt) : w.rangeLeft b r = cnt := by
  obtain ⟨D, L, h, _, _⟩ := h
  exact h.left_eq
/-- 'range m'. -/
theorem wpList_range_ptr {ops : Array Oper} {rest : List Oper} {o : Oper} {a : Act} {Q : Exit → Act → World → Prop} (hg : o.guard = none) (mm : Operand) (hop : o.op = Op.range t mm) (h : PMap P k w b n m)
    (hk : P.underlying k = some (.int .i64)) (ht : P.underlying t = some (.map k e)) (hm : a.eval mm = .map (some b))
    (hK : ∀ w' left cnt, PRange P k w' b w.heap.size n m left cnt → (∀ x, left x = false → m x = none) → Fr [] w w' → w'.heap.size = w.heap.size + 1 → wpList P ops Q rest (a.put o.dst (.pointer (some ⟨w.heap.size, 0, none⟩))) w') : wpList P ops Q (o :: rest) a w := by
  obtain ⟨D, h, hmm⟩ := h
  refine wpList_range_own (H := Unit) w hg mm t hop k e (int_keyed hk) ht _ b n D hm h ?_
  intro w' h1 h2 h3
  refine hK w' (fun x => Maps.has D (.int .i64 x)) _ ⟨D, _, h1, hmm, fun _ => rfl⟩ (fun x hx => ?_) ⟨h2.os, h2.tape, h2.output, h2.size, fun i hi _ => h2.block i hi (by simp)⟩ h3
  have := Maps.atKey_of_not_has hx .nil
  rw [hmm x] at this
  cases e : m x with
  | none => rfl
  | some o => rw [e] at this; cases this
/-- The step. -/
theorem wpList_next_ptr {ops : Array Oper} {rest : List Oper} {o : Oper} {a : Act} {Q : Exit → Act → World → Prop} (hg : o.guard = none) (it : Operand) (hop : o.op = Op.next it false) (hk : P.underlying k = some (.int .i64))
    (hit : a.eval it = .pointer (some ⟨r, 0, none⟩)) (h : PRange P k w b r n m left cnt)
    (hDone : (∀ x, left x = false) → wpList P ops Q rest (a.put o.dst (.tuple #[.bool false])) w)
    (hMore : ∀ (x : Int) (q : Nat) (w' : World) (cnt' : Nat), I64 x → left x = true → m x = some q → PRange P k w' b r n m (fun z => left z && !(z == x)) cnt' → cnt' < cnt → Fr [r] w w' → w'.heap.size = w.heap.size →
      (Instr.entry (.pointer (some ⟨r, 0, none⟩))).run P w' = .ok (.tuple #[.int .i64 x, .pointer (some ⟨q, 0, none⟩)]) w' → wpList P ops Q rest (a.put o.dst (.tuple #[.bool true, .int .i64 x, .pointer (some ⟨q, 0, none⟩)])) w') :
    wpList P ops Q (o :: rest) a w := by
  obtain ⟨D, L, h, hmm, hl⟩ := h
  refine wpList_next_ranges (H := Unit) w hg it hop k (int_keyed hk) ptrR (Value.int .i64) ptrO (fun key kl hkey => by obtain ⟨x, rfl, _⟩ := Maps.keyOf_int_inv hk hkey; exact ⟨x, rfl⟩) (fun v y hv => by obtain ⟨c, rfl, _⟩ := ptrR_inv hv; exact ⟨c, rfl⟩) b r n D L cnt hit h ?_ ?_
  · intro _ h0
    exact hDone (fun x => by rw [← hl x]; exact h0 _)
  · intro x c kl y w' cnt' hkey hlk hv hat hrg hlt hgr hsz hen
    obtain ⟨x', ex, rfl, hwx⟩ := Maps.keyOf_int_inv hk hkey
    cases ex
    obtain ⟨c', ec, rfl⟩ := ptrR_inv hv
    have ec' : c = c' := by
      cases c <;> cases c' <;> simp [ptrO] at ec ⊢
      exact ec
    subst ec'
    have e1 := hat .nil
    rw [hmm x] at e1
    cases hmx : m x with
    | none => rw [hmx] at e1; cases e1
    | some q =>
      rw [hmx] at e1
      simp only [DataW.lit.injEq, Lit.int.injEq, true_and] at e1
      have e2 : c = some q := by
        cases c with
        | none => simp [numO] at e1
        | some y => simp only [numO] at e1; congr 1; omega
      subst e2
      refine hMore x q w' cnt' ?_ (by rw [← hl x]; exact hlk) hmx ⟨D, _, hrg, hmm, fun z => ?_⟩ hlt ⟨hgr.os, hgr.tape, hgr.output, hgr.size, fun i hi hn => hgr.block i hi (by simp at hn; simpa using hn)⟩ hsz hen
      · simp [Lit.wf, IntKind.min, IntKind.max, IntKind.signed, IntKind.bits] at hwx
        exact ⟨by omega, by omega⟩
      · show (L (.int .i64 z) && !Lit.sameKey (.int .i64 z) (.int .i64 x)) = _
        rw [hl z, same_int]
/-- 'delete(m, x)' in the round. -/
theorem wpList_delete_ptr {ops : Array Oper} {rest : List Oper} {o : Oper} {a : Act} {Q : Exit → Act → World → Prop} (hg : o.guard = none) (mm x : Operand) (hop : o.op = Op.call { callee := Callee.builtin Builtin.delete, args := #[mm, x], argTypes := #[t, k] })
    (hk : P.underlying k = some (.int .i64)) (ht : P.underlying t = some (.map k e)) (hm : a.eval mm = .map (some b)) (h : PRange P k w b r n m left cnt) (y : Int) (hx : a.eval x = .int .i64 y) (hy : I64 y)
    (hK : ∀ w' cnt', PRange P k w' b r n (fun z => if z = y then none else m z) (fun z => left z && !(z == y)) cnt' → cnt' ≤ cnt → Fr [b] w w' → wpList P ops Q rest (a.put o.dst (.tuple #[])) w') :
    wpList P ops Q (o :: rest) a w := by
  obtain ⟨D, L, h, hmm, hl⟩ := h
  refine wpList_delete_ranges (H := Unit) w hg mm x t k hop e (int_keyed hk) ht ptrR b r n D L cnt hm h _ _ hx (keyOf_int_mk hk (wf_int hy)) ?_
  intro w' cnt' h1 h2 h3
  refine hK w' cnt' ⟨_, _, h1, hmm.del y, fun z => ?_⟩ h2 (Fr.turnedM h3)
  · show (L (.int .i64 z) && !Lit.sameKey (.int .i64 z) (.int .i64 y)) = _
    rw [hl z, same_int]
end
end Go.Proofs.YtnglhfeialomgaaGreatDoor
