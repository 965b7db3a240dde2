/- The contract of core.All at a row of numbers. -/
import Derived.Deep.LoopGhost
import Derived.Handy
import Derived.Test.YtokbhiokcoldbaaTkM02
import Derived.Test.YtokbhiokcoldbaaTkM03
namespace Go.Proofs.Ytokbhiokcoldbaa
open Go.RowKit

theorem sl_new {w : World} {g : Nat} {t : TypeId} {fr : Nat × Nat} (xs : List Int) (h : w.heap[g]? = some (.cells (ints xs) t fr)) (hl : xs.length ≤ maxLen) : Sl w (.slice (some ⟨g, 0, none⟩) xs.length xs.length) g xs :=
  .inr ⟨0, xs.length, rfl, Nat.le_refl _, hl, fun i hi => by rw [Nat.zero_add]; exact cell_ints h hi⟩
/-- Are all within bounds? -/
def allIn (xs : List Int) (lo hi : Int) : Bool := xs.all fun x => decide (lo ≤ x ∧ x ≤ hi)
theorem allIn_cut {xs : List Int} {lo hi : Int} {k : Nat} (hk : k < xs.length) (h : decide (lo ≤ nth xs k ∧ nth xs k ≤ hi) = false) : allIn xs lo hi = false := by
  unfold allIn
  rw [List.all_eq_false]
  exact ⟨nth xs k, getD_mem hk, by rw [h]; decide⟩
theorem allIn_full {xs : List Int} {lo hi : Int} (h : ∀ k, k < xs.length → decide (lo ≤ nth xs k ∧ nth xs k ≤ hi) = true) : allIn xs lo hi = true := by
  unfold allIn
  rw [List.all_eq_true]
  intro x hx
  obtain ⟨k, hk, e⟩ := List.getElem_of_mem hx
  have := h k hk
  rw [show nth xs k = x by simp [nth, List.getD, hk, e]] at this
  exact this
theorem all_any (w : World) (v : Value) (g : Nat) (xs : List Int) (lo hi : Int) (h : Sl w v g xs) :
    Calls Try.prog 46 #[v, .int .i64 lo, .int .i64 hi] w fun e w' => e = .returned (.bool (allIn xs lo hi)) ∧ w = w' := by
  obtain ⟨A, o, c, rfl, hm, hA, hc⟩ := h.form
  clear h
  have HA := Lib.hid hA
  have HC := Lib.hid hc
  clear hA hc
  go_enter Try.func46, Try.ntmps46
  go_wp2
  go_loop [11] (fun i => ∃ k : Nat, k ≤ xs.length ∧ i = .int .i64 k ∧ Hid (∀ j, j < k → decide (lo ≤ nth xs j ∧ nth xs j ≤ hi) = true)) (fun i => xs.length - (intOf i).toNat)
  case atStart => exact ⟨0, Nat.zero_le _, rfl, fun j hj => absurd hj (Nat.not_lt_zero _)⟩
  case round =>
    obtain ⟨k, hk, rfl, hs⟩ := hrel
    by_cases hlt : k < xs.length
    · obtain rfl := HA.out (by omega)
      have hcell := HC.out k hlt
      by_cases hy : lo ≤ nth xs k ∧ nth xs k ≤ hi
      · have e1 := decide_eq_true hy
        have HS : Hid (∀ j, j < k + 1 → decide (lo ≤ nth xs j ∧ nth xs j ≤ hi) = true) := fun j hj => by
          by_cases e : j = k
          · subst e; exact e1
          · exact hs.out j (by omega)
        clear hy
        generalize nth xs k = y at *
        go_wp2_with (go_at_call 36; (with_reducible refine useC (within_is _ _ _ true _ e1) ?_); rintro e w2 ⟨rfl, rfl⟩)
        go_round
        case rel => exact ⟨k + 1, by omega, by go_num, HS⟩
        case measure => simp [intOf]; omega
      · have e1 := decide_eq_false hy
        have hr := Lib.hid (allIn_cut hlt e1)
        clear hy
        generalize nth xs k = y at *
        go_wp2_with (go_at_call 36; (with_reducible refine useC (within_is _ _ _ false _ e1) ?_); rintro e w2 ⟨rfl, rfl⟩)
        go_ret
        exact ⟨ret_bool hr.out.symm, rfl⟩
    · have hr := Lib.hid (allIn_full (fun j hj => hs.out j (by omega)))
      go_wp2
      go_ret
      exact ⟨ret_bool hr.out.symm, rfl⟩
end Go.Proofs.Ytokbhiokcoldbaa
/- Several rows of a call's own that grow side by side: an append leaves the others alone; the row lies in its own block behind it, or in a new one. No program in sight. -/
namespace Go.Proofs.Ytokbhiokcoldbaa
open Go.RowKit

/-- Behind an append a row lies where it lay, or in block n. -/
def Moved (n : Nat) (v v' : Value) : Prop := v'.ownBlock = v.ownBlock ∨ v'.ownBlock = some n
/-- Two rows lie in different blocks. -/
def Apart (u v : Value) : Prop := ∀ g, u.ownBlock = some g → v.ownBlock ≠ some g
theorem Apart.symm {u v : Value} (h : Apart u v) : Apart v u := fun g h1 h2 => h g h2 h1
theorem Apart.nil (u : Value) (n c : Nat) : Apart u (.slice none n c) := fun g _ h => by cases h
theorem Apart.nil' (u : Value) (n c : Nat) : Apart (.slice none n c) u := fun g h => by cases h
theorem Apart.moved {u v v' : Value} {n : Nat} (h : Apart u v) (hm : Moved n v v') (hu : ∀ g, u.ownBlock = some g → g < n) : Apart u v' := fun g hg => by
  rcases hm with hm | hm
  · rw [hm]; exact h g hg
  · rw [hm]; intro e; injection e with e; have := hu g hg; omega
theorem Own.other {w w' : World} {B e : Nat} {u v : Value} {xs : List Int} (h : Own w B e u xs) (hg : w.grownBy w' v.ownBlock) (ha : Apart u v) : Own w' B e u xs :=
  World.ownsRow.kept h hg (by
    cases hu : u.ownBlock with
    | none => exact .inl rfl
    | some g => exact .inr fun hx => ha g hu hx.symm)
theorem Own.lt {w : World} {B e : Nat} {v : Value} {xs : List Int} (h : Own w B e v xs) : ∀ g, v.ownBlock = some g → g < w.heap.size := fun g hg => (World.ownsRow.lt h g hg).2
theorem OwnR.other {α : Type} {E : Enc α} {w w' : World} {B e : Nat} {u v : Value} {l : List α} (h : OwnR E w B e u l) (hg : w.grownBy w' v.ownBlock) (ha : Apart u v) : OwnR E w' B e u l :=
  World.ownsRow.kept h hg (by
    cases hu : u.ownBlock with
    | none => exact .inl rfl
    | some g => exact .inr fun hx => ha g hu hx.symm)
theorem OwnR.lt {α : Type} {E : Enc α} {w : World} {B e : Nat} {v : Value} {l : List α} (h : OwnR E w B e v l) : ∀ g, v.ownBlock = some g → g < w.heap.size := fun g hg => (World.ownsRow.lt h g hg).2
theorem fr_grown {w w' : World} {v : Value} (hg : w.grownBy w' v.ownBlock) : Fr v.ownBlock.toList w w' := ⟨hg.os, hg.tape, hg.output, hg.size, fun k hk hn => hg.block k hk (fun e => hn (by rw [← e]; simp))⟩

/-! ### Several rows -/
structure Row where
  e : TypeId
  size : Nat
  v : Value
  n : Nat
  xs : List Value
def Row.in (r : Row) (w : World) (B : Nat) : Prop := w.ownsRow B r.e r.size r.v r.n r.xs
def rI (e : TypeId) (v : Value) (xs : List Int) : Row := ⟨e, 1, v, xs.length, xs.map (Value.int .i64)⟩
def rE {α : Type} (E : Enc α) (e : TypeId) (v : Value) (l : List α) : Row := ⟨e, E.k, v, l.length, E.cells l⟩
/-- The rows lie from block B on, each in its own block. -/
def Rows_ (w : World) (B : Nat) (rs : List Row) : Prop := (∀ r ∈ rs, r.in w B) ∧ rs.Pairwise fun a b => Apart a.v b.v
theorem Rows_.push {w w' : World} {B n : Nat} {l1 l2 : List Row} {r r' : Row} (h : Rows_ w B (l1 ++ r :: l2)) (ho : r'.in w' B) (hg : w.grownBy w' r.v.ownBlock) (hm : Moved n r.v r'.v) (hn : w.heap.size ≤ n) : Rows_ w' B (l1 ++ r' :: l2) := by
  obtain ⟨h1, h2⟩ := h
  rw [List.pairwise_append] at h2
  obtain ⟨p1, p2, p3⟩ := h2
  rw [List.pairwise_cons] at p2
  have hlt : ∀ x : Row, x ∈ l1 ∨ x ∈ l2 → ∀ g, x.v.ownBlock = some g → g < n := fun x hx g hg => by
    have h3 : x.in w B := h1 x (by rcases hx with hx | hx <;> simp [hx])
    have := (World.ownsRow.lt h3 g hg).2
    omega
  have ha : ∀ x : Row, x ∈ l1 ∨ x ∈ l2 → Apart x.v r.v := fun x hx => by
    rcases hx with hx | hx
    · exact p3 x hx r (by simp)
    · exact (p2.1 x hx).symm
  have hk : ∀ x : Row, x ∈ l1 ∨ x ∈ l2 → x.in w' B := fun x hx =>
    World.ownsRow.kept (h1 x (by rcases hx with hx | hx <;> simp [hx])) hg (by
      cases hu : x.v.ownBlock with
      | none => exact .inl rfl
      | some g => exact .inr fun e => ha x hx g hu e.symm)
  refine ⟨fun x hx => ?_, ?_⟩
  · rcases List.mem_append.1 hx with hx | hx
    · exact hk x (.inl hx)
    · rcases List.mem_cons.1 hx with hx | hx
      · subst hx; exact ho
      · exact hk x (.inr hx)
  · rw [List.pairwise_append, List.pairwise_cons]
    refine ⟨p1, ⟨fun x hx => ((ha x (.inr hx)).moved hm (hlt x (.inr hx))).symm, p2.2⟩, fun x hx y hy => ?_⟩
    rcases List.mem_cons.1 hy with hy | hy
    · subst hy; exact (ha x (.inl hx)).moved hm (hlt x (.inl hx))
    · exact p3 x hx y (by simp [hy])
theorem Rows_.fr {w w' : World} {B : Nat} {rs : List Row} {S : List Nat} (h : Rows_ w B rs) (hf : Fr S w w') (hS : ∀ g ∈ S, g < B) : Rows_ w' B rs :=
  ⟨fun r hr => by
    have h1 : r.in w B := h.1 r hr
    obtain ⟨a, b⟩ := h1
    refine ⟨a, ?_⟩
    rcases b with b | ⟨g, cap, cur, e1, hb, hg, q⟩
    · exact .inl b
    · exact .inr ⟨g, cap, cur, e1, hb, hf.get hg (fun hm => by have := hS g hm; omega), q⟩, h.2⟩
theorem Rows_.p0 {w : World} {B : Nat} {a : Row} {l : List Row} (h : Rows_ w B (a :: l)) : a.in w B := h.1 a (by simp)
theorem Rows_.p1 {w : World} {B : Nat} {a b : Row} {l : List Row} (h : Rows_ w B (a :: b :: l)) : b.in w B := h.1 b (by simp)
theorem Rows_.p2 {w : World} {B : Nat} {a b c : Row} {l : List Row} (h : Rows_ w B (a :: b :: c :: l)) : c.in w B := h.1 c (by simp)
theorem Rows_.p3 {w : World} {B : Nat} {a b c d : Row} {l : List Row} (h : Rows_ w B (a :: b :: c :: d :: l)) : d.in w B := h.1 d (by simp)
theorem Rows_.push0 {w w' : World} {B n : Nat} {l : List Row} {r r' : Row} (h : Rows_ w B (r :: l)) (ho : r'.in w' B) (hg : w.grownBy w' r.v.ownBlock) (hm : Moved n r.v r'.v) (hn : w.heap.size ≤ n) : Rows_ w' B (r' :: l) := Rows_.push (l1 := []) h ho hg hm hn
theorem Rows_.push1 {w w' : World} {B n : Nat} {a : Row} {l : List Row} {r r' : Row} (h : Rows_ w B (a :: r :: l)) (ho : r'.in w' B) (hg : w.grownBy w' r.v.ownBlock) (hm : Moved n r.v r'.v) (hn : w.heap.size ≤ n) : Rows_ w' B (a :: r' :: l) := Rows_.push (l1 := [a]) h ho hg hm hn
theorem Rows_.push2 {w w' : World} {B n : Nat} {a b : Row} {l : List Row} {r r' : Row} (h : Rows_ w B (a :: b :: r :: l)) (ho : r'.in w' B) (hg : w.grownBy w' r.v.ownBlock) (hm : Moved n r.v r'.v) (hn : w.heap.size ≤ n) : Rows_ w' B (a :: b :: r' :: l) := Rows_.push (l1 := [a, b]) h ho hg hm hn
theorem Rows_.push3 {w w' : World} {B n : Nat} {a b c : Row} {l : List Row} {r r' : Row} (h : Rows_ w B (a :: b :: c :: r :: l)) (ho : r'.in w' B) (hg : w.grownBy w' r.v.ownBlock) (hm : Moved n r.v r'.v) (hn : w.heap.size ≤ n) : Rows_ w' B (a :: b :: c :: r' :: l) := Rows_.push (l1 := [a, b, c]) h ho hg hm hn
theorem Row.ge {r : Row} {w : World} {B : Nat} (h : r.in w B) : ∀ g, r.v.ownBlock = some g → B ≤ g ∧ g < w.heap.size := World.ownsRow.lt h
/-- A frame across an append to a row that lies from block B on. -/
theorem Fr.push {S : List Nat} {a b c : World} {r : Row} {B : Nat} (h : Fr S a b) (hr : r.in b B) (hg : b.grownBy c r.v.ownBlock) (hB : a.heap.size ≤ B) : Fr S a c :=
  h.grown hg (fun g e => .inr (by have := (Row.ge hr g e).1; omega))

section
variable {P : Program} (w : World)
theorem append_moved (base : Nat) (t ty e : TypeId) (i : TypeInfo) (z : Value) (size bytes : Nat) (ht : P.underlying t = some (.slice e)) (hi : P.info? e = some i) (hz : i.zero = some z)
    (hsize : i.size = size) (hby : i.bytes = bytes) (hzs : z.cells.size = size) (hsz : 0 < size) (v : Value) (n : Nat) (xs : List Value) (hown : w.ownsRow base e size v n xs)
    (a : Addr) (m c : Nat) (news : List Value) (hl : news.length = m * size) (hnews : ∀ j u, news[j]? = some u → w.cell? (a.add j) = some u) (h1 : ∀ u ∈ news, u.oneCell' = true)
    (h63 : n + m ≤ maxLen) (hbytes : (n + m) * bytes ≤ 140737488355328) (hbase : base ≤ w.heap.size) {v' : Value} {w' : World} (hr : (Builtin.append_ #[t, t] ty #[v, .slice (some a) m c]).run P w = .ok v' w') : Moved w.heap.size v v' := by
  have hb := run_append_own (P := P) w base t ty e i z size bytes ht hi hz hsize hby hzs hsz v n xs hown a m c news hl hnews h1 h63 hbytes hbase
  have hsmall : n + m ≤ 9223372036854775807 := by simp only [maxLen] at h63; omega
  subst hsize
  subst hby
  rcases hown.2 with ⟨rfl, rfl⟩ | ⟨g, cap, cur, rfl, hbg, hg, hnc, hcm, hcs, htake⟩
  · by_cases hm : m = 0
    · obtain ⟨v1, w1, hr1, _, _, h4⟩ := hb
      have e1 := h4.2 ⟨rfl, hm⟩
      rw [hr] at hr1
      injection hr1 with e2 _
      rw [e2, e1]
      exact .inl rfl
    · have hr1 := run_append_nil (P := P) w t ty e i z ht hi hz a m c news hl hnews (by omega) (by omega) (by have hb := hbytes; simp only [Nat.zero_add] at hb; omega)
      rw [hr] at hr1
      injection hr1 with e2 _
      rw [e2]
      exact .inr rfl
  · by_cases hroom : n + m ≤ cap
    · have hfit : n * i.size + news.length ≤ cur.size := by rw [hl, hcs, ← Nat.add_mul]; exact Nat.mul_le_mul_right _ hroom
      have hr1 := run_append_room (P := P) w t ty e i ht hi g n cap cur hg a m c news hl hnews h1 hroom hfit
      rw [hr] at hr1
      injection hr1 with e2 _
      rw [e2]
      exact .inl rfl
    · have holds : ∀ j u, xs[j]? = some u → w.cell? ((⟨g, 0, none⟩ : Addr).add j) = some u := hown.cells (g := g) rfl
      have hr1 := run_append_grow (P := P) w t ty e i z ht hi hz ⟨g, 0, none⟩ n cap xs hown.1 holds a m c news hl hnews (by omega) (by omega) (growslice_fits (by omega) hbytes)
      rw [hr] at hr1
      injection hr1 with e2 _
      rw [e2]
      exact .inr rfl
theorem wpList_append_own2 {ops : Array Oper} {rest : List Oper} {o : Oper} {a : Act} {Q : Exit → Act → World → Prop} (hgd : o.guard = none) (s x : Operand) (t : TypeId)
    (ho : o.op = .call { callee := .builtin .append, args := #[s, x], argTypes := #[t, t] }) (base : Nat) (e : TypeId) (i : TypeInfo) (z : Value) (size bytes : Nat) (ht : P.underlying t = some (.slice e)) (hi : P.info? e = some i) (hz : i.zero = some z)
    (hsize : i.size = size) (hby : i.bytes = bytes) (hzs : z.cells.size = size) (hsz : 0 < size) (v : Value) (n : Nat) (xs : List Value) (hs : a.eval s = v) (hown : w.ownsRow base e size v n xs)
    (ad : Addr) (m c : Nat) (news : List Value) (hx : a.eval x = .slice (some ad) m c) (hl : news.length = m * size) (hnews : ∀ j u, news[j]? = some u → w.cell? (ad.add j) = some u) (h1 : ∀ u ∈ news, u.oneCell' = true)
    (h63 : n + m ≤ maxLen) (hbytes : (n + m) * bytes ≤ 140737488355328) (hbase : base ≤ w.heap.size)
    (h : ∀ v' w', w'.ownsRow base e size v' (n + m) (xs ++ news) → w.grownBy w' v.ownBlock → Moved w.heap.size v v' → wpList P ops Q rest (a.put o.dst v') w') : wpList P ops Q (o :: rest) a w :=
  wpList_plain hgd fun _ hK => by
    obtain ⟨v', w', hr, h2, h3, _⟩ := run_append_own (P := P) w base t o.type e i z size bytes ht hi hz hsize hby hzs hsz v n xs hown ad m c news hl hnews h1 h63 hbytes hbase
    have h5 := append_moved w base t o.type e i z size bytes ht hi hz hsize hby hzs hsz v n xs hown ad m c news hl hnews h1 h63 hbytes hbase hr
    unfold Oper.wp execOp
    simp only [ho, resolve, invoke, builtin, Sem.run_bind, Sem.run_pure, Result.andThen_ok, List.map_toArray, List.map_cons, List.map_nil, hs, hx, hr]
    exact hK _ _ (h v' w' h2 h3 h5)
end
section
variable {P : Program} {ops : Array Oper} {rest : List Oper} {o : Oper} {a : Act} {Q : Exit → Act → World → Prop} {wr : World}
/-- 'out = append(out, y)': one integer more; where the row lies then. -/
theorem wpList_push_int2 {y : Int} {t e : TypeId} (hT : IntT P t e) (hgd : o.guard = none) (s x : Operand)
    (ho : o.op = .call { callee := .builtin .append, args := #[s, x], argTypes := #[t, t] })
    (B : Nat) (v : Value) (xs : List Int) (hs : a.eval s = v) (hown : Own wr B e v xs) (hx : a.eval x = .slice (some ⟨wr.heap.size, 0, none⟩) 1 1) (hl : xs.length < 1000000) (hB : B ≤ wr.heap.size)
    (h : ∀ v' w', Own w' B e v' (xs ++ [y]) → wr.grownBy w' v.ownBlock → Moved (wr.heap.size + 1) v v' → wpList P ops Q rest (a.put o.dst v') w') : wpList P ops Q (o :: rest) a (wr.alloc (.cells #[.int .i64 y] e)) := by
  obtain ⟨i0, hi, hz0, hz1, hz2⟩ := info_parts hT.hi
  refine wpList_append_own2 _ hgd s x t ho B e i0 (.int .i64 0) 1 8 hT.ht hi hz0 hz1 hz2 rfl (by decide) v xs.length _ hs (hown.alloc _) ⟨wr.heap.size, 0, none⟩ 1 1 [.int .i64 y] hx rfl ?_ (by simp [Value.oneCell']) (by unfold maxLen; omega) (by omega) (by simp; omega) ?_
  · intro j u hu
    cases j with
    | zero => simp at hu; subst hu; rw [Addr.add_zero', cell_of_row _ _ _ _ _ _ (heap_alloc_new wr _)]; rfl
    | succ j => simp at hu
  · intro v' w' h1 h2 h3
    rw [show (wr.alloc (.cells #[.int .i64 y] e)).heap.size = wr.heap.size + 1 by simp] at h3
    exact h v' w' (by unfold Own; simpa using h1) ⟨h2.os, h2.tape, h2.output, Nat.le_trans (by simp) h2.size, fun k hk hn => (h2.block k (by simp; omega) hn).trans (Below.heap_alloc wr _ k hk)⟩ h3
/-- The same for a struct. -/
theorem wpList_push_enc2 {α : Type} {E : Enc α} {e : TypeId} {w1 : World} {y : α} {t : TypeId} {z : Value} {bytes : Nat} (ht : P.underlying t = some (.slice e))
    (hi : (P.info? e).map (fun i => (i.zero, i.size, i.bytes)) = some (some z, E.k, bytes)) (hz : z.cells.size = E.k) (hby : bytes ≤ 1000) (hgd : o.guard = none) (s x : Operand)
    (ho : o.op = .call { callee := .builtin .append, args := #[s, x], argTypes := #[t, t] })
    (B : Nat) (v : Value) (l : List α) (hs : a.eval s = v) (hw : w1 = wr.alloc (.cells (E.enc y).toArray e)) (hown : OwnR E wr B e v l) (hx : a.eval x = .slice (some ⟨wr.heap.size, 0, none⟩) 1 1) (hl : l.length < 1000000) (hB : B ≤ wr.heap.size)
    (h : ∀ v' w', OwnR E w' B e v' (l ++ [y]) → wr.grownBy w' v.ownBlock → Moved (wr.heap.size + 1) v v' → wpList P ops Q rest (a.put o.dst v') w') : wpList P ops Q (o :: rest) a w1 := by
  subst hw
  obtain ⟨i0, hi, hz0, hz1, hz2⟩ := info_parts hi
  refine wpList_append_own2 _ hgd s x t ho B e i0 z E.k bytes ht hi hz0 hz1 hz2 hz E.pos v l.length _ hs (World.ownsRow.alloc hown _) ⟨wr.heap.size, 0, none⟩ 1 1 (E.enc y) hx (by rw [E.len, Nat.one_mul]) ?_ (E.one y) (by unfold maxLen; omega) ?_ (by simp; omega) ?_
  · have := World.news_of_block (cs := (E.enc y).toArray) (t := e) (fr := (0, 0)) (heap_alloc_new wr _)
    simpa using this
  · have := Nat.mul_le_mul (show l.length + 1 ≤ 1000000 by omega) hby
    omega
  · intro v' w' h1 h2 h3
    rw [show (wr.alloc (.cells (E.enc y).toArray e)).heap.size = wr.heap.size + 1 by simp] at h3
    refine h v' w' ?_ ⟨h2.os, h2.tape, h2.output, Nat.le_trans (by simp) h2.size, fun k hk hn => (h2.block k (by simp; omega) hn).trans (Below.heap_alloc wr _ k hk)⟩ h3
    unfold OwnR
    rw [E.cells_append, List.length_append]
    have e1 : E.cells [y] = E.enc y := by simp [Enc.cells]
    rw [e1]
    exact h1
end
end Go.Proofs.Ytokbhiokcoldbaa

/- The contracts of package cow: New, root, Get, Put. -/
namespace Go.Proofs.Ytokbhiokcoldbaa
open Go.RowKit

theorem Try.info_ptn : (Try.prog.info? 85).map (fun i => (i.zero, i.size, i.bytes)) = some (some (.pointer none), 1, 8) := by kernel_rfl
theorem co_new (w : World) : Calls Try.prog 25 #[] w fun e w' => ∃ sb, e = .returned (.pointer (some ⟨sb, 0, none⟩)) ∧ CoS w.heap.size w' sb [.nil] ∧ Fr [] w w' := by
  go_enter Try.func25, Try.ntmps25
  go_wp2_with fail
  go_ret
  have hf1 : Fr [] w (w.alloc (.cells #[.pointer none] 85)) := (Fr.refl _ _).alloc _
  have hf : Fr [] w ((w.alloc (.cells #[.pointer none] 85)).alloc (.cells #[.slice (some ⟨w.heap.size, 0, none⟩) 1 1] 83)) := hf1.alloc _
  refine ⟨w.heap.size + 1, rfl, ⟨by omega, ⟨_, w.heap.size, 1, ?_, rfl, ?_⟩, fun T hT => ?_, Co.new_ok _⟩, hf⟩
  · have := heap_alloc_new (w.alloc (.cells #[.pointer none] 85)) (.cells #[.slice (some ⟨w.heap.size, 0, none⟩) 1 1] 83)
    rw [show (w.alloc (.cells #[.pointer none] 85)).heap.size = w.heap.size + 1 by simp] at this
    exact this
  · refine ⟨rfl, .inr ⟨w.heap.size, 1, #[.pointer none], rfl, Nat.le_refl _, ?_, Nat.le_refl _, by unfold maxLen; decide, rfl, rfl⟩⟩
    exact ((Fr.refl [] _).alloc _).get (heap_alloc_new w _) (by simp)
  · simp only [List.mem_singleton] at hT
    subst hT
    trivial
/-- What root hands back. -/
def coRoot (st : List Ct) (v : Int) : Value := if Co.has st v then .tuple #[(Co.tree st v).ptr, .nilIface] else .tuple #[.pointer none, .iface 67 (.int .i64 1)]
theorem CoS.facts {B : Nat} {w : World} {sb : Nat} {st : List Ct} (h : CoS B w sb st) : ∃ g c, w.cell? ⟨sb, 0, none⟩ = some (.slice (some ⟨g, 0, none⟩) st.length c) ∧ w.frozen? ⟨sb, 0, none⟩ = false ∧ (∀ i (hi : i < st.length), w.cell? ⟨g, i, none⟩ = some st[i].ptr) := by
  obtain ⟨g, c, cur, h1, h2, -, -, -, h5⟩ := h.row
  exact ⟨g, c, by rw [cell_of_row w sb 0 _ _ _ h1]; rfl, free_block h1 0 none, h5⟩
theorem co_root (w : World) (B sb : Nat) (st : List Ct) (v : Int) (hS : CoS B w sb st) :
    Calls Try.prog 45 #[.pointer (some ⟨sb, 0, none⟩), .int .i64 v] w fun e w' => e = .returned (coRoot st v) ∧ w' = w := by
  obtain ⟨g, c, c0, -, hc⟩ := hS.facts
  obtain ⟨l1, l2⟩ := hS.ok.len
  have n1 : (st.length : Int) - 1 ≤ 20 := by omega
  have n0 : (0 : Int) ≤ (st.length : Int) - 1 := by omega
  by_cases hv : Co.has st v
  · have e1 : decide (0 ≤ v ∧ v ≤ (st.length : Int) - 1) = true := decide_eq_true hv
    have HR : Hid (coRoot st v = .tuple #[(Co.tree st v).ptr, .nilIface]) := if_pos hv
    unfold Co.has at hv
    obtain ⟨q, rfl⟩ : ∃ q : Nat, v = q := ⟨v.toNat, by omega⟩
    have hq : q < st.length := by omega
    have hqI : (q : Int) < st.length := by omega
    have hq0 : (0 : Int) ≤ q := by omega
    have ht : Co.tree st q = st[q] := by
      unfold Co.tree
      rw [Int.toNat_natCast, List.getD_eq_getElem?_getD, List.getElem?_eq_getElem hq]
      rfl
    have cq := hc q hq
    rw [← ht] at cq
    obtain ⟨u, hu⟩ := (Co.tree st q).ptr_form
    rw [hu] at cq HR
    clear hS hc hv ht hu
    go_enter Try.func45, Try.ntmps45
    go_wp2_with (go_at_call 36; (with_reducible refine useC (within_is _ _ _ true _ e1) ?_); rintro e w ⟨rfl, rfl⟩)
    go_ret2
    exact ⟨by rw [HR.out]; rfl, rfl⟩
  · have e1 : decide (0 ≤ v ∧ v ≤ (st.length : Int) - 1) = false := decide_eq_false hv
    have HR : Hid (coRoot st v = .tuple #[.pointer none, .iface 67 (.int .i64 1)]) := if_neg hv
    clear hS hc hv
    go_enter Try.func45, Try.ntmps45
    go_wp2_with (go_at_call 36; (with_reducible refine useC (within_is _ _ _ false _ e1) ?_); rintro e w ⟨rfl, rfl⟩)
    go_ret2
    exact ⟨by rw [HR.out]; rfl, rfl⟩
/-- What Get hands back. -/
def coGet (st : List Ct) (v a : Int) : Value := if Co.has st v then (match Co.get (Co.tree st v) a with | some x => .tuple #[.int .i64 x, .nilIface] | none => .tuple #[.int .i64 0, .iface 67 (.int .i64 5)]) else .tuple #[.int .i64 0, .iface 67 (.int .i64 1)]
def coGetT (T : Ct) (a : Int) : Value := match Co.get T a with | some x => .tuple #[.int .i64 x, .nilIface] | none => .tuple #[.int .i64 0, .iface 67 (.int .i64 5)]
def Ct.high : Ct → Nat
  | .nil => 0
  | .node _ _ _ l r => max l.high r.high + 1
theorem co_get (w : World) (B sb : Nat) (st : List Ct) (v a : Int) (hS : CoS B w sb st) :
    Calls Try.prog 30 #[.pointer (some ⟨sb, 0, none⟩), .int .i64 v, .int .i64 a] w fun e w' => e = .returned (coGet st v a) ∧ w' = w := by
  have HRT := Lib.hid (co_root w B sb st v hS)
  by_cases hv : Co.has st v
  · have HR : Hid (coGet st v a = coGetT (Co.tree st v) a) := if_pos hv
    have hr : coRoot st v = .tuple #[(Co.tree st v).ptr, .nilIface] := if_pos hv
    have hin := hS.ins _ (Co.tree_mem hv)
    rw [hr] at HRT
    clear hr hS hv
    generalize Co.tree st v = T0 at *
    obtain ⟨u, hu⟩ := T0.ptr_form
    rw [hu] at HRT
    have HU := Lib.hid hu
    have HI := Lib.hid hin
    clear hu hin
    go_enter Try.func30, Try.ntmps30
    go_wp2_with (go_at_call 45; (with_reducible refine useC HRT.out ?_); rintro e w ⟨rfl, rfl⟩)
    go_loopg [8] T0.high (fun n p wr => ∃ T : Ct, Hid (p = T.ptr) ∧ Hid (T.high ≤ n) ∧ Hid (CoIn w T) ∧ Hid (Co.get T0 a = Co.get T a) ∧ wr = w)
    case atStart => exact ⟨T0, HU.out.symm, Nat.le_refl _, HI, rfl, rfl⟩
    case round =>
      obtain ⟨T, hp, hn, hI, hg, rfl⟩ := hrel
      cases T with
      | nil =>
        have hpp := hp.out
        rw [show Ct.nil.ptr = .pointer none from rfl] at hpp
        subst hpp
        have HQ : Hid (coGet st v a = .tuple #[.int .i64 0, .iface 67 (.int .i64 5)]) := by
          show _ = _
          rw [HR.out]
          unfold coGetT
          rw [hg.out]; rfl
        clear hp hn hg hI
        go_wp2
        go_ret2
        exact ⟨by rw [HQ.out]; rfl, rfl⟩
      | node b k x l r =>
        have hpp := hp.out
        rw [show (Ct.node b k x l r).ptr = .pointer (some ⟨b, 0, none⟩) from rfl] at hpp
        subst hpp
        obtain ⟨c0, c1, c2, c3⟩ := hI.out.cells
        obtain ⟨ul, hul⟩ := l.ptr_form
        obtain ⟨ur, hur⟩ := r.ptr_form
        rw [hul] at c2
        rw [hur] at c3
        have HUL := Lib.hid hul.symm
        have HUR := Lib.hid hur.symm
        have hhn := hn.out
        unfold Ct.high at hhn
        have HG : Hid (Co.get T0 a = if k = a then some x else if a < k then Co.get l a else Co.get r a) := hg
        clear hul hur hn hg hp
        by_cases hk : k = a
        · have b1 : (k != a) = false := by simp [hk]
          have HQ : Hid (coGet st v a = .tuple #[.int .i64 x, .nilIface]) := by
            show _ = _
            rw [HR.out]
            unfold coGetT
            rw [HG.out, if_pos hk]
          clear hk HG hhn
          go_wp2
          go_ret2
          exact ⟨by rw [HQ.out]; rfl, rfl⟩
        · have b1 : (k != a) = true := by simp [hk]
          have HG2 := Lib.hid (HG.out.trans (if_neg hk))
          clear hk HG
          by_cases hlt : a < k
          · have HG3 := Lib.hid (HG2.out.trans (if_pos hlt))
            clear HG2
            go_wp2
            go_roundg l.high
            case measure => omega
            case rel => exact ⟨l, HUL, Nat.le_refl _, hI.out.2.1, HG3, rfl⟩
          · have HG3 := Lib.hid (HG2.out.trans (if_neg hlt))
            clear HG2
            go_wp2
            go_roundg r.high
            case measure => omega
            case rel => exact ⟨r, HUR, Nat.le_refl _, hI.out.2.2, HG3, rfl⟩
  · have HR : Hid (coGet st v a = .tuple #[.int .i64 0, .iface 67 (.int .i64 1)]) := if_neg hv
    have hr : coRoot st v = .tuple #[.pointer none, .iface 67 (.int .i64 1)] := if_neg hv
    rw [hr] at HRT
    clear hr hS hv
    go_enter Try.func30, Try.ntmps30
    go_wp2_with (go_at_call 45; (with_reducible refine useC HRT.out ?_); rintro e w ⟨rfl, rfl⟩)
    go_ret2
    exact ⟨by rw [HR.out]; rfl, rfl⟩
end Go.Proofs.Ytokbhiokcoldbaa

/- The contract of cow.each: the nodes are handed over as keys rise. Printed by wip/gen_coeach.py. -/
namespace Go.Proofs.Ytokbhiokcoldbaa
open Go.RowKit

theorem CoIn.key_at {w : World} : ∀ {T : Ct}, CoIn w T → ∀ p ∈ Co.nodes T, w.cell? ⟨p.1, 0, none⟩ = some (.int .i64 p.2) ∧ ∃ cs, w.heap[p.1]? = some (.cells cs 93 (0, 0))
  | .nil, _, p, h => by simp [Co.nodes] at h
  | .node b k v l r, hi, p, h => by
    simp only [Co.nodes, List.mem_append, List.mem_cons] at h
    rcases h with h | rfl | h
    · exact hi.2.1.key_at p h
    · exact ⟨hi.cells.1, _, hi.1⟩
    · exact hi.2.2.key_at p h
set_option maxRecDepth 100000 in
set_option maxHeartbeats 1000000 in
theorem each_keys (p0 : Value) (N : List (Nat × Int)) (J : Nat → World → Prop)
    (hc : ∀ i (hi : i < N.length) w, J i w → Calls Try.prog 50 #[.pointer (some ⟨(N[i]).1, 0, none⟩), p0] w fun e w' => e = .returned (.tuple #[]) ∧ J (i + 1) w') :
    ∀ (T : Ct) (pre post : List (Nat × Int)) (w : World), N = pre ++ Co.nodes T ++ post → (∀ i w, J i w → CoIn w T) → J pre.length w →
      Calls Try.prog 49 #[T.ptr, .func (.func 50) #[] #[p0]] w fun e w' => e = .returned (.tuple #[]) ∧ J (pre.length + (Co.nodes T).length) w' := by
  intro T
  induction T with
  | nil =>
    intro pre post w _ _ hJ
    rw [show Ct.nil.ptr = .pointer none from rfl]
    have HJ := Lib.hid hJ
    clear hJ
    go_enter Try.func49, Try.ntmps49
    go_wp2_with fail
    go_returns
    exact ⟨rfl, by simpa [Co.nodes] using HJ.out⟩
  | node b k v l r ihl ihr =>
    intro pre post w hN hIn hJ
    have hi0 := hIn _ w hJ
    obtain ⟨c0, c1, c2, c3⟩ := hi0.cells
    obtain ⟨ul, hul⟩ := l.ptr_form
    obtain ⟨ur, hur⟩ := r.ptr_form
    rw [hul] at c2
    have e0 : Co.nodes (.node b k v l r) = Co.nodes l ++ (b, k) :: Co.nodes r := rfl
    have e1 : N = pre ++ Co.nodes l ++ ((b, k) :: Co.nodes r ++ post) := by rw [hN, e0]; simp
    have e2 : N = (pre ++ Co.nodes l ++ [(b, k)]) ++ Co.nodes r ++ post := by rw [hN, e0]; simp
    have hL := ihl pre ((b, k) :: Co.nodes r ++ post) w e1 (fun i w h => (hIn i w h).2.1) hJ
    rw [hul] at hL
    have HL := Lib.hid hL
    have hlt : pre.length + (Co.nodes l).length < N.length := by rw [e1]; simp
    have hat : N[pre.length + (Co.nodes l).length]'hlt = (b, k) := by
      have h1 : N[pre.length + (Co.nodes l).length]? = some (b, k) := by
        rw [e1, ← List.length_append, List.getElem?_append_right (Nat.le_refl _), Nat.sub_self]
        rfl
      rw [List.getElem?_eq_getElem hlt] at h1
      exact Option.some.inj h1
    have hC : ∀ w', J (pre.length + (Co.nodes l).length) w' → Calls Try.prog 50 #[.pointer (some ⟨b, 0, none⟩), p0] w' fun e w'' => e = .returned (.tuple #[]) ∧ J (pre.length + (Co.nodes l).length + 1) w'' := fun w' hw' => by
      have := hc _ hlt w' hw'
      rw [hat] at this
      exact this
    have HC := Lib.hid hC
    have hR : ∀ w', J (pre.length + (Co.nodes l).length + 1) w' → Calls Try.prog 49 #[.pointer ur, .func (.func 50) #[] #[p0]] w' fun e w'' => e = .returned (.tuple #[]) ∧ J (pre.length + (Co.nodes l).length + 1 + (Co.nodes r).length) w'' := fun w' hw' => by
      have hl3 : (pre ++ Co.nodes l ++ [(b, k)]).length = pre.length + (Co.nodes l).length + 1 := by rw [List.length_append, List.length_append, List.length_singleton]
      have := ihr (pre ++ Co.nodes l ++ [(b, k)]) post w' e2 (fun i w h => (hIn i w h).2.2) (by rw [hl3]; exact hw')
      rw [hur, hl3] at this
      exact this
    have HR := Lib.hid hR
    have HX := Lib.hid (fun i w h => (hIn i w h).cells.2.2.2)
    rw [show (Ct.node b k v l r).ptr = .pointer (some ⟨b, 0, none⟩) from rfl]
    have hlen : pre.length + (Co.nodes l).length + 1 + (Co.nodes r).length = pre.length + (Co.nodes (.node b k v l r)).length := by rw [e0]; simp; omega
    have HLEN := Lib.hid hlen
    have HUR := Lib.hid hur
    clear hlen hR hC hat hlt hL e0 e1 e2 hul hur hi0 c0 c1 c3 ihl ihr hN hIn hJ hc
    go_enter Try.func49, Try.ntmps49
    go_wp2_with (first
      | (go_at_call 49; (with_reducible refine useC HL.out ?_); rintro e w1 ⟨rfl, hj⟩; have HJ1 := Lib.hid hj; clear hj HL)
      | (go_at_call 50; (with_reducible refine useC (HC.out w1 HJ1.out) ?_); rintro e w2 ⟨rfl, hj⟩; have HJ2 := Lib.hid hj; clear hj HJ1; have c3 := HX.out _ w2 HJ2.out; rw [HUR.out] at c3)
      | (have h' := HJ2; clear h'; go_at_call 49; (with_reducible refine useC (HR.out w2 HJ2.out) ?_); rintro e w3 ⟨rfl, hj⟩; have HJ3 := Lib.hid hj; clear hj))
    go_returns
    exact ⟨rfl, by rw [← HLEN.out]; exact HJ3.out⟩
end Go.Proofs.Ytokbhiokcoldbaa
