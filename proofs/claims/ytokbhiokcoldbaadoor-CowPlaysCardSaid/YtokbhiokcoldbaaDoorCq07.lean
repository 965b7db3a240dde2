/- The document's versions in memory: rows that share blocks; an append to one of them leaves the others alone; what floats beside. -/

import Derived.Test.YtokbhiokcoldbaaDoorCq03
import Derived.Test.YtokbhiokcoldbaaDoorCq04
import Derived.Test.YtokbhiokcoldbaaDoorCq05
import Derived.Test.YtokbhiokcoldbaaDoorCq06
namespace Go.Proofs.YtokbhiokcoldbaaDoor
open Go.RowKit

theorem fr_grownB {w w' : World} {b : Option Nat} (hg : w.grownBy w' b) : Fr b.toList w w' := (Fr.refl _ w).grown hg (fun g e => .inl (by simp [e]))
/-- A block behind a step: as long, and its first n cells are what they were. -/
def KeepB (w w' : World) (g n : Nat) : Prop := ∀ cur t, w.heap[g]? = some (.cells cur t (0, 0)) → ∃ cur', w'.heap[g]? = some (.cells cur' t (0, 0)) ∧ cur'.size = cur.size ∧ cur'.toList.take n = cur.toList.take n
theorem KeepB.same {w w' : World} {g n : Nat} (h : w'.heap[g]? = w.heap[g]?) : KeepB w w' g n := fun cur t e => ⟨cur, h.trans e, rfl, rfl⟩
theorem KeepB.trans {a b c : World} {g n : Nat} (h : KeepB a b g n) (k : KeepB b c g n) : KeepB a c g n := fun cur t e => by
  obtain ⟨c1, e1, s1, t1⟩ := h cur t e
  obtain ⟨c2, e2, s2, t2⟩ := k c1 t e1
  exact ⟨c2, e2, s2.trans s1, t2.trans t1⟩
/-- Only blocks of P turned, and what is new; of those of P the first L cells are what they were. -/
structure KpL (P : Nat → Prop) (L : Nat → Nat) (w w' : World) : Prop where
  fr : FrP P w w'
  keep : ∀ g, P g → g < w.heap.size → KeepB w w' g (L g)
section
variable {P R : Nat → Prop} {L : Nat → Nat} {w w1 w' : World}
theorem KpL.refl (P : Nat → Prop) (L : Nat → Nat) (w : World) : KpL P L w w := ⟨FrP.refl P w, fun _ _ _ => KeepB.same rfl⟩
theorem KpL.own (h : KpL P L w w1) (k : FrP R w1 w') (hR : ∀ g, R g → w.heap.size ≤ g) : KpL P L w w' :=
  ⟨h.fr.trans k (fun g hg => .inr (hR g hg)), fun g hg hl => (h.keep g hg hl).trans (KeepB.same (k.block g (Nat.lt_of_lt_of_le hl h.fr.size) (fun hr => by have := hR g hr; omega)))⟩
theorem KpL.step (h : KpL P L w w1) (k : Fr [] w1 w') : KpL P L w w' := h.own (R := fun _ => False) ((FrP.refl _ _).step k (by simp)) (fun _ h => h.elim)
/-- A row of P is pushed to. -/
theorem KpL.push (h : KpL P L w w1) {b : Option Nat} (k : w1.grownBy w' b) (hP : ∀ g, b = some g → P g) (hk : ∀ g, b = some g → KeepB w1 w' g (L g)) : KpL P L w w' := by
  have hf : FrP P w1 w' := (FrP.refl P w1).step (fr_grownB k) (fun g hg => .inl (hP g (by simpa using hg)))
  refine ⟨h.fr.trans hf (fun g hg => .inl hg), fun g hg hl => (h.keep g hg hl).trans ?_⟩
  by_cases e : b = some g
  · exact hk g e
  · exact KeepB.same (k.block g (Nat.lt_of_lt_of_le hl h.fr.size) (fun he => e he.symm))
/-- A row of which the first cells stay. -/
def VR (L : Nat → Nat) (w : World) (v : Value) (xs : List Int) : Prop := Own w 0 3 v xs ∧ ∀ g, v.ownBlock = some g → L g = xs.length
theorem VR.keep {v : Value} {xs : List Int} (h : VR L w v xs) (k : KpL P L w w') : VR L w' v xs := by
  refine ⟨?_, h.2⟩
  obtain ⟨h1, h2⟩ := h.1
  refine ⟨h1, ?_⟩
  rcases h2 with h2 | ⟨g, cap, cur, rfl, hb, hg, hc, hm, hs, ht⟩
  · exact .inl h2
  · have hl := lt_of_heap hg
    have hL := h.2 g rfl
    by_cases hP : P g
    · obtain ⟨c1, e1, s1, t1⟩ := k.keep g hP hl cur _ hg
      rw [hL] at t1
      exact .inr ⟨g, cap, c1, rfl, hb, e1, hc, hm, by rw [s1]; exact hs, by rw [Nat.mul_one] at ht ⊢; rw [t1]; exact ht⟩
    · exact .inr ⟨g, cap, cur, rfl, hb, (k.fr.block g hl hP).trans hg, hc, hm, hs, ht⟩
theorem VR.step {v : Value} {xs : List Int} (h : VR L w v xs) (k : Fr [] w w') : VR L w' v xs := h.keep ((KpL.refl (fun _ => False) L w).step k)
end
/-! ### An append, told in full -/
section
variable {P : Program} (w : World)
theorem append_keep (base : Nat) (t ty e : TypeId) (i : TypeInfo) (z : Value) (size bytes : Nat) (ht : P.underlying t = some (.slice e)) (hi : P.info? e = some i) (hz : i.zero = some z)
    (hsize : i.size = size) (hby : i.bytes = bytes) (hzs : z.cells.size = size) (hsz : 0 < size) (v : Value) (n : Nat) (xs : List Value) (hown : w.ownsRow base e size v n xs)
    (a : Addr) (m c : Nat) (news : List Value) (hl : news.length = m * size) (hnews : ∀ j u, news[j]? = some u → w.cell? (a.add j) = some u) (h1 : ∀ u ∈ news, u.oneCell' = true)
    (h63 : n + m ≤ maxLen) (hbytes : (n + m) * bytes ≤ 140737488355328) (_hbase : base ≤ w.heap.size) {v' : Value} {w' : World} (hr : (Builtin.append_ #[t, t] ty #[v, .slice (some a) m c]).run P w = .ok v' w') : ∀ g, v.ownBlock = some g → KeepB w w' g (n * size) := by
  have hsmall : n + m ≤ 9223372036854775807 := by simp only [maxLen] at h63; omega
  subst hsize
  subst hby
  intro g hg0
  rcases hown.2 with ⟨rfl, rfl⟩ | ⟨g', cap, cur, rfl, hbg, hg, hnc, hcm, hcs, htake⟩
  · cases hg0
  · obtain rfl : g' = g := by simpa [Value.ownBlock] using hg0
    by_cases hroom : n + m ≤ cap
    · have hfit : n * i.size + news.length ≤ cur.size := by rw [hl, hcs, ← Nat.add_mul]; exact Nat.mul_le_mul_right _ hroom
      have hr1 := run_append_room (P := P) w t ty e i ht hi g' n cap cur hg a m c news hl hnews h1 hroom hfit
      rw [hr] at hr1
      injection hr1 with _ e2
      intro cur0 t0 hc0
      rw [hg] at hc0
      injection hc0 with hc0
      injection hc0 with hc1 hc2 _
      subst hc1 hc2
      rw [e2]
      refine ⟨_, setRow_heap _ _ _ _ _ _ hg, ?_, ?_⟩
      · rw [List.size_toArray, List.length_append, List.length_append, List.length_take, List.length_drop, Array.length_toList, Nat.min_eq_left (by omega)]
        omega
      · have hl2 : (cur.toList.take (n * i.size)).length = n * i.size := by rw [List.length_take, Array.length_toList]; omega
        rw [List.append_assoc, List.take_append, hl2, Nat.sub_self, List.take_zero, List.append_nil, List.take_take, Nat.min_self]
    · have holds : ∀ j u, xs[j]? = some u → w.cell? ((⟨g', 0, none⟩ : Addr).add j) = some u := hown.cells (g := g') rfl
      have hr1 := run_append_grow (P := P) w t ty e i z ht hi hz ⟨g', 0, none⟩ n cap xs hown.1 holds a m c news hl hnews (by omega) (by omega) (growslice_fits (by omega) hbytes)
      rw [hr] at hr1
      injection hr1 with _ e2
      rw [e2]
      exact KeepB.same (Below.heap_alloc _ _ _ (lt_of_heap hg))
end
section
variable {P : Program} {ops : Array Oper} {rest : List Oper} {o : Oper} {a : Act} {Q : Exit → Act → World → Prop} {w : World}
/-- 'append(out, y)', y laid at whatever time. -/
theorem wpList_push_sh {y : Int} {t e : TypeId} (hT : IntT P t e) (hgd : o.guard = none) (s x : Operand)
    (ho : o.op = .call { callee := .builtin .append, args := #[s, x], argTypes := #[t, t] })
    (B : Nat) (v : Value) (xs : List Int) (hs : a.eval s = v) (hown : Own w B e v xs) (gx : Nat) (hx : a.eval x = .slice (some ⟨gx, 0, none⟩) 1 1) (hcell : w.heap[gx]? = some (.cells #[.int .i64 y] e (0, 0))) (hl : xs.length < 1000000) (hB : B ≤ w.heap.size)
    (h : ∀ v' w', Own w' B e v' (xs ++ [y]) → w.grownBy w' v.ownBlock → Moved w.heap.size v v' → (∀ g, v.ownBlock = some g → KeepB w w' g xs.length) → wpList P ops Q rest (a.put o.dst v') w') : wpList P ops Q (o :: rest) a w := by
  obtain ⟨i0, hi, hz0, hz1, hz2⟩ := info_parts hT.hi
  have hnews : ∀ (j : Nat) (u : Value), ([Value.int .i64 y] : List Value)[j]? = some u → w.cell? ((⟨gx, 0, none⟩ : Addr).add j) = some u := fun j u hu => by
    cases j with
    | zero => simp at hu; subst hu; rw [Addr.add_zero', cell_of_row _ _ _ _ _ _ hcell]; rfl
    | succ j => simp at hu
  have h1 : ∀ u ∈ ([Value.int .i64 y] : List Value), u.oneCell' = true := by simp [Value.oneCell']
  refine wpList_plain hgd fun _ hK => ?_
  obtain ⟨v', w', hr, h2, h3, _⟩ := run_append_own (P := P) w B t o.type e i0 (.int .i64 0) 1 8 hT.ht hi hz0 hz1 hz2 rfl (by decide) v xs.length _ hown ⟨gx, 0, none⟩ 1 1 [.int .i64 y] rfl hnews h1 (by unfold maxLen; omega) (by omega) hB
  have h5 := append_moved w B t o.type e i0 (.int .i64 0) 1 8 hT.ht hi hz0 hz1 hz2 rfl (by decide) v xs.length _ hown ⟨gx, 0, none⟩ 1 1 [.int .i64 y] rfl hnews h1 (by unfold maxLen; omega) (by omega) hB hr
  have h6 := append_keep w B t o.type e i0 (.int .i64 0) 1 8 hT.ht hi hz0 hz1 hz2 rfl (by decide) v xs.length _ hown ⟨gx, 0, none⟩ 1 1 [.int .i64 y] rfl hnews h1 (by unfold maxLen; omega) (by omega) hB hr
  rw [Nat.mul_one] at h6
  unfold Oper.wp execOp
  simp only [ho, resolve, invoke, builtin, Sem.run_bind, Sem.run_pure, Result.andThen_ok, List.map_toArray, List.map_cons, List.map_nil, hs, hx, hr]
  exact hK _ _ (h v' w' (by unfold Own; simpa using h2) h3 h5 h6)
end
/-! ### What floats: each block belongs to someone -/
/-- Behind a step: what is new belongs to t. -/
def rho (ρ : Nat → Nat) (s t g : Nat) : Nat := if g < s then ρ g else t
/-- What a step of t may turn: the old rows, and what belongs to t. -/
def Tn (P : Nat → Prop) (N : Nat) (ρ : Nat → Nat) (t g : Nat) : Prop := P g ∨ (N ≤ g ∧ ρ g = t)
/-- A laid element. -/
def AlF (N : Nat) (ρ : Nat → Nat) (w : World) (x : Value) (y : Int) (tag : Nat) : Prop := ∃ g, x = .slice (some ⟨g, 0, none⟩) 1 1 ∧ w.heap[g]? = some (.cells #[.int .i64 y] 3 (0, 0)) ∧ N ≤ g ∧ ρ g = tag
/-- A row of one's own. -/
def OwF (N : Nat) (ρ : Nat → Nat) (w : World) (x : Value) (xs : List Int) (tag : Nat) : Prop := Own w N 3 x xs ∧ ∀ g, x.ownBlock = some g → ρ g = tag
section
variable {P : Nat → Prop} {N : Nat} {ρ : Nat → Nat} {w w' : World} {x : Value} {y : Int} {xs : List Int} {tag t : Nat}
theorem AlF.far (h : AlF N ρ w x y tag) (k : FrP (Tn P N ρ t) w w') (hP : ∀ g, P g → g < N) (ne : t ≠ tag) : AlF N (rho ρ w.heap.size t) w' x y tag := by
  obtain ⟨g, rfl, h1, h2, h3⟩ := h
  have hl := lt_of_heap h1
  refine ⟨g, rfl, (k.block g hl (fun hT => hT.elim (fun hp => by have := hP g hp; omega) (fun hp => ne (hp.2.symm.trans h3)))).trans h1, h2, ?_⟩
  unfold rho
  rw [if_pos hl, h3]
theorem OwF.far (h : OwF N ρ w x xs tag) (k : FrP (Tn P N ρ t) w w') (hP : ∀ g, P g → g < N) (ne : t ≠ tag) : OwF N (rho ρ w.heap.size t) w' x xs tag := by
  obtain ⟨h1, h2⟩ := h
  obtain ⟨a, b⟩ := id h1
  refine ⟨⟨a, ?_⟩, fun g hg => ?_⟩
  · rcases b with b | ⟨g, cap, cur, rfl, hb, hg, r⟩
    · exact .inl b
    · exact .inr ⟨g, cap, cur, rfl, hb, (k.block g (lt_of_heap hg) (fun hT => hT.elim (fun hp => by have := hP g hp; omega) (fun hp => ne (hp.2.symm.trans (h2 g rfl))))).trans hg, r⟩
  · unfold rho
    rw [if_pos (h1.ge g hg).2, h2 g hg]
theorem AlF.still (h : AlF N ρ w x y tag) (k : Fr [] w w') (t : Nat) : AlF N (rho ρ w.heap.size t) w' x y tag := by
  obtain ⟨g, rfl, h1, h2, h3⟩ := h
  refine ⟨g, rfl, k.get h1 (by simp), h2, ?_⟩
  unfold rho
  rw [if_pos (lt_of_heap h1), h3]
theorem OwF.still (h : OwF N ρ w x xs tag) (k : Fr [] w w') (t : Nat) : OwF N (rho ρ w.heap.size t) w' x xs tag := by
  refine ⟨h.1.kept k (by simp), fun g hg => ?_⟩
  unfold rho
  rw [if_pos (h.1.ge g hg).2, h.2 g hg]
/-- An element is laid. -/
theorem AlF.make (w : World) (y : Int) (hN : N ≤ w.heap.size) (ρ : Nat → Nat) (t : Nat) : AlF N (rho ρ w.heap.size t) (w.alloc (.cells #[.int .i64 y] 3)) (.slice (some ⟨w.heap.size, 0, none⟩) 1 1) y t :=
  ⟨w.heap.size, rfl, heap_alloc_new w _, hN, if_neg (by omega)⟩
/-- A row that was made by a step of t. -/
theorem OwF.make (h : Own w' w.heap.size 3 x xs) (hN : N ≤ w.heap.size) (ρ : Nat → Nat) (t : Nat) : OwF N (rho ρ w.heap.size t) w' x xs t := by
  refine ⟨?_, fun g hg => if_neg (by have := h.ge g hg; omega)⟩
  obtain ⟨a, b⟩ := h
  refine ⟨a, ?_⟩
  rcases b with b | ⟨g, cap, cur, e, hb, r⟩
  · exact .inl b
  · exact .inr ⟨g, cap, cur, e, by omega, r⟩
/-- A row of t is pushed to. -/
theorem OwF.push {x' : Value} {ys : List Int} (h : OwF N ρ w x xs t) (ho : Own w' N 3 x' ys) (hm : Moved w.heap.size x x') : OwF N (rho ρ w.heap.size t) w' x' ys t := by
  refine ⟨ho, fun g hg => ?_⟩
  unfold rho
  rcases hm with hm | hm
  · rw [hm] at hg
    rw [if_pos (h.1.ge g hg).2, h.2 g hg]
  · rw [hm] at hg
    injection hg with hg
    rw [if_neg (by omega)]
theorem OwF.turn (h : OwF N ρ w x xs t) (hg : w.grownBy w' x.ownBlock) : FrP (Tn P N ρ t) w w' :=
  (FrP.refl _ w).step (fr_grownB hg) (fun g hm => .inl (.inr ⟨(h.1.ge g (by simpa using hm)).1, h.2 g (by simpa using hm)⟩))
theorem Tn.old {b : Option Nat} (hg : w.grownBy w' b) (hP : ∀ g, b = some g → P g) : FrP (Tn P N ρ t) w w' :=
  (FrP.refl _ w).step (fr_grownB hg) (fun g hm => .inl (.inl (hP g (by simpa using hm))))
theorem Tn.still (k : Fr [] w w') : FrP (Tn P N ρ t) w w' := (FrP.refl _ w).step k (by simp)
end
/-- The values of one of the three chains: the element that is laid, the row with it, set, cut, the other element, the row. -/
structure Six where
  a1 : Value
  r : Value
  s : Value
  c : Value
  a2 : Value
  f : Value
structure SixF (N : Nat) (ρ : Nat → Nat) (w : World) (listed : Array Bool) (k1 k2 tg : Nat) (xs : List Int) (z : Int) (p : Nat) (X : Six) : Prop where
  e1 : listed.getD k1 true = true → AlF N ρ w X.a1 0 k1
  e2 : listed.getD k2 true = true → AlF N ρ w X.a2 z k2
  r : p = 1 → Own w 0 3 X.r (xs ++ [0])
  s : p = 2 → OwF N ρ w X.s (xs ++ [z]) tg
  c : p = 3 → OwF N ρ w X.c xs tg
  f : 4 ≤ p → OwF N ρ w X.f (xs ++ [z]) tg
section
variable {P : Nat → Prop} {N : Nat} {ρ : Nat → Nat} {w w' : World} {listed listed' : Array Bool} {k1 k2 tg t p : Nat} {xs : List Int} {z : Int} {X : Six}
/-- Another one's step. -/
theorem SixF.far (h : SixF N ρ w listed k1 k2 tg xs z p X) (k : FrP (Tn P N ρ t) w w') (hP : ∀ g, P g → g < N) (h1 : t ≠ k1) (h2 : t ≠ k2) (h3 : t ≠ tg) (hp : p ≠ 1) (l1 : listed'.getD k1 true = listed.getD k1 true) (l2 : listed'.getD k2 true = listed.getD k2 true) : SixF N (rho ρ w.heap.size t) w' listed' k1 k2 tg xs z p X :=
  ⟨fun e => (h.e1 (l1 ▸ e)).far k hP h1, fun e => (h.e2 (l2 ▸ e)).far k hP h2, fun e => absurd e hp, fun e => (h.s e).far k hP h3, fun e => (h.c e).far k hP h3, fun e => (h.f e).far k hP h3⟩
/-- A step that only makes blocks. -/
theorem SixF.still (h : SixF N ρ w listed k1 k2 tg xs z p X) (k : Fr [] w w') (t : Nat) (l1 : listed'.getD k1 true = listed.getD k1 true) (l2 : listed'.getD k2 true = listed.getD k2 true) : SixF N (rho ρ w.heap.size t) w' listed' k1 k2 tg xs z p X :=
  ⟨fun e => (h.e1 (l1 ▸ e)).still k t, fun e => (h.e2 (l2 ▸ e)).still k t, fun e => (h.r e).kept k (by simp), fun e => (h.s e).still k t, fun e => (h.c e).still k t, fun e => (h.f e).still k t⟩
/-- Its first element is laid. -/
theorem SixF.lay1 (h : SixF N ρ w listed k1 k2 tg xs z p X) (hN : N ≤ w.heap.size) (l2 : listed'.getD k2 true = listed.getD k2 true) : SixF N (rho ρ w.heap.size k1) (w.alloc (.cells #[.int .i64 0] 3)) listed' k1 k2 tg xs z p { X with a1 := .slice (some ⟨w.heap.size, 0, none⟩) 1 1 } :=
  have k : Fr [] w (w.alloc (.cells #[.int .i64 0] 3)) := (Fr.refl _ _).alloc _
  ⟨fun _ => AlF.make w 0 hN ρ k1, fun e => (h.e2 (l2 ▸ e)).still k k1, fun e => (h.r e).kept k (by simp), fun e => (h.s e).still k k1, fun e => (h.c e).still k k1, fun e => (h.f e).still k k1⟩
theorem SixF.lay2 (h : SixF N ρ w listed k1 k2 tg xs z p X) (hN : N ≤ w.heap.size) (l1 : listed'.getD k1 true = listed.getD k1 true) : SixF N (rho ρ w.heap.size k2) (w.alloc (.cells #[.int .i64 z] 3)) listed' k1 k2 tg xs z p { X with a2 := .slice (some ⟨w.heap.size, 0, none⟩) 1 1 } :=
  have k : Fr [] w (w.alloc (.cells #[.int .i64 z] 3)) := (Fr.refl _ _).alloc _
  ⟨fun e => (h.e1 (l1 ▸ e)).still k k2, fun _ => AlF.make w z hN ρ k2, fun e => (h.r e).kept k (by simp), fun e => (h.s e).still k k2, fun e => (h.c e).still k k2, fun e => (h.f e).still k k2⟩
/-- Its own steps. -/
theorem SixF.go1 (h : SixF N ρ w listed k1 k2 tg xs z 0 X) (k : FrP (Tn P N ρ tg) w w') (hP : ∀ g, P g → g < N) (h1 : tg ≠ k1) (h2 : tg ≠ k2) (l1 : listed'.getD k1 true = listed.getD k1 true) (l2 : listed'.getD k2 true = listed.getD k2 true) {v : Value} (ho : Own w' 0 3 v (xs ++ [0])) : SixF N (rho ρ w.heap.size tg) w' listed' k1 k2 tg xs z 1 { X with r := v } :=
  ⟨fun e => (h.e1 (l1 ▸ e)).far k hP h1, fun e => (h.e2 (l2 ▸ e)).far k hP h2, fun _ => ho, fun e => by omega, fun e => by omega, fun e => by omega⟩
theorem SixF.go2 (h : SixF N ρ w listed k1 k2 tg xs z 1 X) (k : Fr [] w w') (hN : N ≤ w.heap.size) (l1 : listed'.getD k1 true = listed.getD k1 true) (l2 : listed'.getD k2 true = listed.getD k2 true) {v : Value} (ho : Own w' w.heap.size 3 v (xs ++ [z])) : SixF N (rho ρ w.heap.size tg) w' listed' k1 k2 tg xs z 2 { X with s := v } :=
  ⟨fun e => (h.e1 (l1 ▸ e)).still k tg, fun e => (h.e2 (l2 ▸ e)).still k tg, fun e => by omega, fun _ => OwF.make ho hN ρ tg, fun e => by omega, fun e => by omega⟩
theorem own_cut {B e : Nat} {g c : Nat} {y : Int} (h : Own w B e (.slice (some ⟨g, 0, none⟩) (xs.length + 1) c) (xs ++ [y])) : Own w B e (.slice (some ⟨g, 0, none⟩) xs.length c) xs := by
  obtain ⟨h1, h2⟩ := h
  rcases h2 with ⟨h2, -⟩ | ⟨g', cap, cur, he, hb, hg, hc, hm, hs, ht⟩
  · cases h2
  · injection he with e1 e2 e3
    injection e1 with e1
    injection e1 with e1 _ _
    subst e1 e3
    rw [List.length_append, List.length_singleton] at hc ht
    refine ⟨by simp, .inr ⟨g, c, cur, rfl, hb, hg, by omega, hm, hs, ?_⟩⟩
    rw [Nat.mul_one] at ht ⊢
    have h3 : cur.toList.take xs.length = (cur.toList.take (xs.length + 1)).take xs.length := by rw [List.take_take, Nat.min_eq_left (by omega)]
    rw [h3, ht, List.map_append, List.take_left' (by simp)]
theorem SixF.go3 (h : SixF N ρ w listed k1 k2 tg xs z 2 X) (l1 : listed'.getD k1 true = listed.getD k1 true) (l2 : listed'.getD k2 true = listed.getD k2 true) {g c : Nat} (hs : X.s = .slice (some ⟨g, 0, none⟩) (xs.length + 1) c) : SixF N ρ w listed' k1 k2 tg xs z 3 { X with c := .slice (some ⟨g, 0, none⟩) xs.length c } := by
  refine ⟨fun e => h.e1 (l1 ▸ e), fun e => h.e2 (l2 ▸ e), fun e => by omega, fun e => by omega, fun _ => ?_, fun e => by omega⟩
  obtain ⟨a, b⟩ := h.s rfl
  rw [hs] at a b
  exact ⟨own_cut a, b⟩
theorem SixF.go4 (h : SixF N ρ w listed k1 k2 tg xs z 3 X) (hP : ∀ g, P g → g < N) (h1 : tg ≠ k1) (h2 : tg ≠ k2) (l1 : listed'.getD k1 true = listed.getD k1 true) (l2 : listed'.getD k2 true = listed.getD k2 true) {v : Value} (ho : Own w' N 3 v (xs ++ [z])) (hg : w.grownBy w' X.c.ownBlock) (hm : Moved w.heap.size X.c v) : SixF N (rho ρ w.heap.size tg) w' listed' k1 k2 tg xs z 4 { X with f := v } :=
  have k : FrP (Tn P N ρ tg) w w' := (h.c rfl).turn hg
  ⟨fun e => (h.e1 (l1 ▸ e)).far k hP h1, fun e => (h.e2 (l2 ▸ e)).far k hP h2, fun e => by omega, fun e => by omega, fun e => by omega, fun _ => (h.c rfl).push ho hm⟩
end
end Go.Proofs.YtokbhiokcoldbaaDoor
