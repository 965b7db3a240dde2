/- slices.Clone at []*btree.node: a row that the call owns. -/
import Derived.Handy
import Derived.Test.YtokbhiokcoldbaaDoorBq01
import Derived.Test.YtokbhiokcoldbaaDoorBq04
import Derived.Test.YtokbhiokcoldbaaDoorBq08
namespace Go.Proofs.YtokbhiokcoldbaaDoor
open Go.RowKit

theorem cloneP (w : World) (v : Value) (g : Nat) (l : List Nat) (h : SlR pbE w v g l) (hb : l.length ≤ 100000) :
    Calls Tryd.prog 83 #[v] w fun e w' => ∃ v', e = .returned v' ∧ OwnR pbE w' w.heap.size 99 v' l ∧ Fr [] w w' := by
  obtain ⟨i0, hi, hz0, hz1, hz2⟩ := info_parts Tryd.info_insP
  obtain ⟨A, o, c, rfl, _, hA, hc⟩ := h.form
  clear h
  cases A with
  | none =>
    have hx : l = [] := by
      cases l with
      | nil => rfl
      | cons x xs => cases hA (by simp)
    subst hx
    have hnil := fun W => Lib.run_eql_slice_nil (P := Tryd.prog) W 100 99 none 0 c 0 0 Tryd.underlying100
    clear hA hc
    go_enter Tryd.func83, Tryd.ntmps83
    go_wp2
    all_goals (go_ret; exact ⟨_, rfl, OwnR.nil, Fr.refl _ _⟩)
  | some a =>
    have hnil := fun W => Lib.run_eql_slice_nil (P := Tryd.prog) W 100 99 (some a) l.length c 0 0 Tryd.underlying100
    have hown := World.ownsRow_made (base := w.heap.size) (e := 99) (size := pbE.k) w #[] 0 (Nat.le_refl _) (Nat.zero_le _) rfl
    have HA := Lib.hid hA
    have H3 := Lib.hid hc
    clear hA hc
    go_enter Tryd.func83, Tryd.ntmps83
    go_wp2_with (at_builtin; refine wpList_append_own _ rfl _ _ 100 rfl w.heap.size 99 i0 _ pbE.k 8 Tryd.underlying100 hi hz0 hz1 hz2 rfl (by decide) _ _ _ rfl hown a l.length c (pbE.cells l) rfl (pbE.cells_len l) ?c1 ?c2 ?c3 ?c4 ?c5 ?_)
    case c1 =>
      intro j u hu
      have hjl : j < l.length * pbE.k := by
        rw [← pbE.cells_len l]
        exact (List.getElem?_eq_some_iff.1 hu).1
      have hk := pbE.pos
      have hdiv : j / pbE.k < l.length := Nat.div_lt_of_lt_mul (by rw [Nat.mul_comm]; exact hjl)
      have hmod := Nat.mod_lt j hk
      have hdm : j / pbE.k * pbE.k + j % pbE.k = j := by rw [Nat.mul_comm]; exact Nat.div_add_mod j pbE.k
      obtain rfl : a = ⟨g, o, none⟩ := Option.some.inj (HA.out (Nat.lt_of_le_of_lt (Nat.zero_le _) hdiv))
      have hcl := H3.out (j / pbE.k) hdiv (j % pbE.k) hmod
      rw [← pbE.cells_get l (j / pbE.k) (j % pbE.k) hdiv hmod, hdm, hu] at hcl
      rw [Addr.add_lit]
      rw [Nat.add_assoc, hdm] at hcl
      exact cell?_alloc_old _ hcl
    case c2 => exact pbE.cells_one l
    case c3 => unfold maxLen; omega
    case c4 => omega
    case c5 => simp
    intro v' w1 hown1 hgr _
    have H4 : Hid (OwnR pbE w1 w.heap.size 99 v' l) := hown1
    have H5 := Lib.hid (((Fr.refl [] w).alloc (.cells #[] 99)).grown hgr (by simp [Value.ownBlock]))
    clear hown1 hgr hown hnil
    go_wp2
    go_ret
    exact ⟨_, rfl, H4.out, H5.out⟩
end Go.Proofs.YtokbhiokcoldbaaDoor
/- A frame by a predicate: nothing has turned but blocks of which P holds, and what is new. No program in sight. -/
namespace Go.Proofs.YtokbhiokcoldbaaDoor
open Go.RowKit

/-- From w to w' nothing has turned but blocks of which P holds, and what is new. -/
structure FrP (P : Nat → Prop) (w w' : World) : Prop where
  os : w'.os = w.os
  tape : w'.tape = w.tape
  output : w'.output = w.output
  size : w.heap.size ≤ w'.heap.size
  block : ∀ k, k < w.heap.size → ¬ P k → w'.heap[k]? = w.heap[k]?
theorem FrP.refl (P : Nat → Prop) (w : World) : FrP P w w := ⟨rfl, rfl, rfl, Nat.le_refl _, fun _ _ _ => rfl⟩
theorem FrP.step {P : Nat → Prop} {S : List Nat} {a b c : World} (h : FrP P a b) (k : Fr S b c) (hS : ∀ x ∈ S, P x ∨ a.heap.size ≤ x) : FrP P a c :=
  ⟨k.os.trans h.os, k.tape.trans h.tape, k.output.trans h.output, Nat.le_trans h.size k.size, fun i hi hn =>
    (k.block i (Nat.lt_of_lt_of_le hi h.size) (fun hx => (hS i hx).elim hn (fun h' => absurd hi (Nat.not_lt.2 h')))).trans (h.block i hi hn)⟩
theorem FrP.trans {P Q : Nat → Prop} {a b c : World} (h : FrP P a b) (k : FrP Q b c) (hQ : ∀ x, Q x → P x ∨ a.heap.size ≤ x) : FrP P a c :=
  ⟨k.os.trans h.os, k.tape.trans h.tape, k.output.trans h.output, Nat.le_trans h.size k.size, fun i hi hn =>
    (k.block i (Nat.lt_of_lt_of_le hi h.size) (fun hx => (hQ i hx).elim hn (fun h' => absurd hi (Nat.not_lt.2 h')))).trans (h.block i hi hn)⟩
theorem FrP.below {B : Nat} {w w' : World} (h : FrP (B ≤ ·) w w') (hB : B ≤ w.heap.size) : Below B w w' := ⟨h.os, h.tape, h.output, h.size, fun k hk => h.block k (by omega) (by omega)⟩
theorem FrP.fr {P : Nat → Prop} {a w w' : World} (h0 : Fr [] a w) (h : FrP P w w') (hP : ∀ k, P k → a.heap.size ≤ k) : Fr [] a w' :=
  ⟨h.os.trans h0.os, h.tape.trans h0.tape, h.output.trans h0.output, Nat.le_trans h0.size h.size, fun k hk _ => (h.block k (Nat.lt_of_lt_of_le hk h0.size) (fun hp => by have := hP k hp; omega)).trans (h0.block k hk (by simp))⟩
theorem FrP.cell {P : Nat → Prop} {w w' : World} (h : FrP P w w') {p : Addr} {v : Value} (hk : w.cell? p = some v) (hn : ¬ P p.block) : w'.cell? p = some v :=
  (World.cell?_of_block (h.block p.block (block_lt_of_cell hk) hn)).trans hk
theorem Sl.frP {P : Nat → Prop} {w w' : World} {v : Value} {g : Nat} {xs : List Int} (h : Sl w v g xs) (hf : FrP P w w') (hg : xs = [] ∨ ¬ P g) : Sl w' v g xs := by
  rcases h with h | ⟨o, c, h0, h1, h2, h3⟩
  · exact .inl h
  · rcases hg with rfl | hg
    · exact .inr ⟨o, c, h0, h1, h2, fun i hi => absurd hi (by simp)⟩
    · exact .inr ⟨o, c, h0, h1, h2, fun i hi => hf.cell (h3 i hi) hg⟩
/-- Parts of which P held at w, and new ones. -/
def OrNew (P : Nat → Prop) (w : World) (k : Nat) : Prop := P k ∨ w.heap.size ≤ k
end Go.Proofs.YtokbhiokcoldbaaDoor

/- A tree of keys in memory: nodes, each in its block, with a row of keys and a row of kids. -/
namespace Go.Proofs.YtokbhiokcoldbaaDoor
open Go.RowKit

section
variable {α β : Type} {E : Enc α} {F : Enc β} {w : World} {B C e f : Nat} {u v : Value} {l : List α} {m : List β}
theorem own_ne_block {b : Nat} {cur : Array Value} {t : TypeId} {fr : Nat × Nat} (h : OwnR E w B e v l) (hg : w.heap[b]? = some (.cells cur t fr)) (hne : e ≠ t) : v.ownBlock ≠ some b := by
  rcases h.2 with ⟨rfl, _⟩ | ⟨g, cap, cur', rfl, _, hg', _⟩
  · intro e; cases e
  · intro he
    have he : g = b := by simpa [Value.ownBlock] using he
    subst he
    rw [hg] at hg'
    injection hg' with hg'
    injection hg' with _ hg' _
    exact hne hg'.symm
theorem own_ne_own (h : OwnR E w B e u l) (k : OwnR F w C f v m) (hne : e ≠ f) : ∀ g, u.ownBlock = some g → v.ownBlock ≠ some g := fun g hg => by
  rcases h.2 with ⟨rfl, _⟩ | ⟨g', cap, cur, rfl, _, hg', _⟩
  · cases hg
  · have he : g' = g := by simpa [Value.ownBlock] using hg
    subst he
    exact own_ne_block k hg' (Ne.symm hne)
theorem OwnR.frP' {P : Nat → Prop} {w' : World} (h : OwnR E w B e v l) (hf : FrP P w w') (hn : ∀ g, v.ownBlock = some g → ¬ P g) : OwnR E w' B e v l := by
  obtain ⟨h1, h2⟩ := h
  refine ⟨h1, ?_⟩
  rcases h2 with h2 | ⟨g, cap, cur, e0, hb, hg, r⟩
  · exact .inl h2
  · exact .inr ⟨g, cap, cur, e0, hb, (hf.block g (lt_of_heap hg) (hn g (by rw [e0]; rfl))).trans hg, r⟩
theorem OwnR.form' (h : OwnR E w B e v l) : ∃ A c, v = .slice A l.length c ∧ l.length ≤ c ∧ c ≤ maxLen ∧ ((A = none ∧ c = 0 ∧ l = []) ∨ ∃ g, A = some ⟨g, 0, none⟩) := by
  rcases h.2 with ⟨rfl, hn⟩ | ⟨g, cap, cur, rfl, _, _, hc, hm, _⟩
  · exact ⟨none, 0, by rw [hn], by omega, Nat.zero_le _, .inl ⟨rfl, rfl, List.eq_nil_of_length_eq_zero hn⟩⟩
  · exact ⟨_, cap, rfl, hc, hm, .inr ⟨g, rfl⟩⟩
theorem OwnR.base' (h : OwnR E w B e v l) : OwnR E w 0 e v l := by
  obtain ⟨h1, h2⟩ := h
  refine ⟨h1, ?_⟩
  rcases h2 with h2 | ⟨g, cap, cur, e0, hb, r⟩
  · exact .inl h2
  · exact .inr ⟨g, cap, cur, e0, Nat.zero_le _, r⟩
end
def obl (v : Value) : List Nat := v.ownBlock.toList
theorem mem_obl {v : Value} {x : Nat} : x ∈ obl v ↔ v.ownBlock = some x := by unfold obl; simp
/-- A kid: its block, the tree, the blocks of it. -/
abbrev Kd (d : Nat) := Nat × Bt.T d × List Nat
/-- Block b holds a tree of depth d; F are its blocks. -/
def Nd : (d : Nat) → World → Nat → Bt.T d → List Nat → Prop
  | 0, w, b, t, F => ∃ vk, w.heap[b]? = some (.cells #[vk, .slice none 0 0] 102 (0, 0)) ∧ OwnR inE w 0 3 vk t ∧ F = b :: obl vk
  | d + 1, w, b, t, F => ∃ vk vc, ∃ K : List (Kd d), w.heap[b]? = some (.cells #[vk, vc] 102 (0, 0)) ∧ OwnR inE w 0 3 vk t.1 ∧ OwnR pbE w 0 99 vc (K.map (·.1)) ∧ t.2 = K.map (·.2.1) ∧
      (∀ p ∈ K, Nd d w p.1 p.2.1 p.2.2) ∧ F = b :: (obl vk ++ obl vc ++ (K.map (·.2.2)).flatten)
theorem Nd.lt : ∀ {d : Nat} {w : World} {b : Nat} {t : Bt.T d} {F : List Nat}, Nd d w b t F → ∀ x ∈ F, x < w.heap.size
  | 0, w, b, t, F, h, x, hx => by
    obtain ⟨vk, h1, h2, rfl⟩ := h
    rcases List.mem_cons.1 hx with rfl | hx
    · exact lt_of_heap h1
    · exact (h2.ge x (mem_obl.1 hx)).2
  | d + 1, w, b, t, F, h, x, hx => by
    obtain ⟨vk, vc, K, h1, h2, h3, h4, h5, rfl⟩ := h
    rcases List.mem_cons.1 hx with rfl | hx
    · exact lt_of_heap h1
    · simp only [List.mem_append, List.mem_flatten, List.mem_map] at hx
      rcases hx with (hx | hx) | ⟨_, ⟨p, hp, rfl⟩, hx⟩
      · exact (h2.ge x (mem_obl.1 hx)).2
      · exact (h3.ge x (mem_obl.1 hx)).2
      · exact Nd.lt (h5 p hp) x hx
theorem Nd.frP : ∀ {d : Nat} {w w' : World} {b : Nat} {t : Bt.T d} {F : List Nat} {P : Nat → Prop}, Nd d w b t F → FrP P w w' → (∀ x ∈ F, ¬ P x) → Nd d w' b t F
  | 0, w, w', b, t, F, P, h, hf, hn => by
    obtain ⟨vk, h1, h2, rfl⟩ := h
    exact ⟨vk, (hf.block b (lt_of_heap h1) (hn b (by simp))).trans h1, h2.frP' hf (fun g hg => hn g (by simp [mem_obl.2 hg])), rfl⟩
  | d + 1, w, w', b, t, F, P, h, hf, hn => by
    obtain ⟨vk, vc, K, h1, h2, h3, h4, h5, rfl⟩ := h
    refine ⟨vk, vc, K, (hf.block b (lt_of_heap h1) (hn b (by simp))).trans h1, h2.frP' hf (fun g hg => hn g (by simp [mem_obl.2 hg])), h3.frP' hf (fun g hg => hn g (by simp [mem_obl.2 hg])), h4, fun p hp => ?_, rfl⟩
    refine Nd.frP (h5 p hp) hf (fun x hx => hn x ?_)
    simp only [List.mem_cons, List.mem_append, List.mem_flatten, List.mem_map]
    exact .inr (.inr ⟨_, ⟨p, hp, rfl⟩, hx⟩)
theorem Nd.fr {d : Nat} {w w' : World} {b : Nat} {t : Bt.T d} {F : List Nat} {S : List Nat} (h : Nd d w b t F) (hf : Fr S w w') (hn : ∀ x ∈ S, x ∉ F) : Nd d w' b t F :=
  h.frP (P := (· ∈ S)) ((FrP.refl _ w).step hf (fun x hx => .inl hx)) (fun x hx hq => hn x hq hx)
theorem Nd.keep {d : Nat} {w w' : World} {b : Nat} {t : Bt.T d} {F : List Nat} (h : Nd d w b t F) (hf : Fr [] w w') : Nd d w' b t F := h.fr hf (by simp)
/-- What the node's own block holds: its keys. -/
theorem Nd.keys : ∀ {d : Nat} {w : World} {b : Nat} {t : Bt.T d} {F : List Nat}, Nd d w b t F → ∃ vk vc, w.heap[b]? = some (.cells #[vk, vc] 102 (0, 0)) ∧ OwnR inE w 0 3 vk (Bt.ks d t)
  | 0, _, _, _, _, ⟨vk, h1, h2, _⟩ => ⟨vk, _, h1, h2⟩
  | _ + 1, _, _, _, _, ⟨vk, vc, _, h1, h2, _⟩ => ⟨vk, vc, h1, h2⟩
theorem nd_cells {w : World} {b : Nat} {x y : Value} (h : w.heap[b]? = some (.cells #[x, y] 102 (0, 0))) : w.cell? ⟨b, 0, none⟩ = some x ∧ w.cell? ⟨b, 1, none⟩ = some y ∧ ∀ i, w.frozen? ⟨b, i, none⟩ = false :=
  ⟨by rw [cell_of_row w b _ _ _ _ h]; rfl, by rw [cell_of_row w b _ _ _ _ h]; rfl, fun i => free_block h i none⟩
/-- The cells of a row that the call owns, one an element. -/
theorem own_cellP {w : World} {B e : Nat} {v : Value} {l : List Nat} (h : OwnR pbE w B e v l) (h0 : 0 < l.length) : ∃ g c, v = .slice (some ⟨g, 0, none⟩) l.length c ∧ l.length ≤ c ∧ c ≤ maxLen ∧ ∀ i (hi : i < l.length), w.cell? ⟨g, i, none⟩ = some (.pointer (some ⟨l[i], 0, none⟩)) := by
  rcases h.2 with ⟨rfl, hn⟩ | ⟨g, cap, cur, rfl, hb, hg, hc, hm, hs, ht⟩
  · omega
  · refine ⟨g, cap, rfl, hc, hm, fun i hi => ?_⟩
    rw [cell_of_row w g i cur e _ hg]
    have h1 := pbE.cells_get l i 0 hi (by decide)
    rw [← ht, List.getElem?_take] at h1
    rw [show i * pbE.k + 0 = i from by show i * 1 + 0 = i; omega] at h1
    split at h1
    · simpa [pbE] using h1
    · simp [pbE] at h1
theorem own_cellI {w : World} {B e : Nat} {v : Value} {l : List Int} (h : OwnR inE w B e v l) (h0 : 0 < l.length) : ∃ g c, v = .slice (some ⟨g, 0, none⟩) l.length c ∧ l.length ≤ c ∧ c ≤ maxLen ∧ ∀ i (hi : i < l.length), w.cell? ⟨g, i, none⟩ = some (.int .i64 l[i]) := by
  rcases h.2 with ⟨rfl, hn⟩ | ⟨g, cap, cur, rfl, hb, hg, hc, hm, hs, ht⟩
  · omega
  · refine ⟨g, cap, rfl, hc, hm, fun i hi => ?_⟩
    rw [cell_of_row w g i cur e _ hg]
    have h1 := inE.cells_get l i 0 hi (by decide)
    rw [← ht, List.getElem?_take] at h1
    rw [show i * inE.k + 0 = i from by show i * 1 + 0 = i; omega] at h1
    split at h1
    · simpa [inE] using h1
    · simp [inE] at h1
end Go.Proofs.YtokbhiokcoldbaaDoor

/- add of package btree at a leaf. -/
namespace Go.Proofs.YtokbhiokcoldbaaDoor
open Go.RowKit

/-- What add leaves: the node b, and what was split off it. -/
def BtA (d : Nat) (w : World) (b : Nat) (F : List Nat) (p : Bt.T d × Option (Int × Bt.T d)) (e : Ending) (w' : World) : Prop :=
  ∃ F' F2, Nd d w' b p.1 F' ∧ (F' ++ F2).Nodup ∧ (∀ y ∈ F' ++ F2, y ∈ F ∨ w.heap.size ≤ y) ∧ FrP (· ∈ F) w w' ∧
    match p.2 with
    | none => F2 = [] ∧ e = .returned (.tuple #[.int .i64 0, .pointer none])
    | some (u, r) => ∃ b2, e = .returned (.tuple #[.int .i64 u, .pointer (some ⟨b2, 0, none⟩)]) ∧ Nd d w' b2 r F2
/-- The node's keys get another row. -/
theorem nd_setK {w w2 : World} {b : Nat} {vk vc v' : Value} {kk : List Int} {l : List Int} (h : w.heap[b]? = some (.cells #[vk, vc] 102 (0, 0))) (ho : OwnR inE w 0 3 vk l) (hf : Fr (obl vk) w w2) (hn : OwnR inE w2 0 3 v' kk) (hv : Moves w vk v') :
    (w2.setCell ⟨b, 0, none⟩ v').heap[b]? = some (.cells #[v', vc] 102 (0, 0)) ∧ OwnR inE (w2.setCell ⟨b, 0, none⟩ v') 0 3 v' kk ∧ Fr (b :: obl vk) w (w2.setCell ⟨b, 0, none⟩ v') ∧ (∀ y ∈ obl v', y ∈ obl vk ∨ w.heap.size ≤ y) ∧ b ∉ obl v' := by
  have hb : b ∉ obl vk := fun hm => own_ne_block ho h (by decide) (mem_obl.1 hm)
  have h2 := hf.get h hb
  have hb' : v'.ownBlock ≠ some b := own_ne_block hn h2 (by decide)
  have hs : Fr [b] w2 (w2.setCell ⟨b, 0, none⟩ v') := (Fr.refl _ _).setCell (.inl (by simp)) _
  refine ⟨set_block h2 _, hn.kept hs (by simpa using hb'), (hf.mono (fun x hx => .inl (List.mem_cons_of_mem _ hx))).step hs (fun x hx => .inl (by simp only [List.mem_singleton] at hx; simp [hx])), fun y hy => ?_, fun hm => hb' (mem_obl.1 hm)⟩
  rcases hv with e | ⟨g, e1, e2⟩
  · exact .inl (mem_obl.2 (by rw [← e]; exact mem_obl.1 hy))
  · have := mem_obl.1 hy
    rw [e1] at this
    injection this with this
    exact .inr (by omega)
theorem obl_nodup (v : Value) : (obl v).Nodup := by
  unfold obl
  cases v.ownBlock <;> simp
theorem sl_part {w : World} {B e : Nat} {α : Type} {E : Enc α} {v : Value} {l : List α} (h : OwnR E w B e v l) {g n c : Nat} (hv : v = .slice (some ⟨g, 0, none⟩) n c) {i m c' : Nat} (hi : i ≤ l.length) (hm : m = l.length - i) (hc : m ≤ c') (hc' : c' ≤ maxLen) (o : Nat) (ho : o = i * E.k) :
    SlR E w (.slice (some ⟨g, o, none⟩) m c') g (l.drop i) := by
  subst ho
  rcases h.2 with ⟨e, _⟩ | ⟨g', cap, cur, e, hb, hg, _, _, hs, ht⟩
  · rw [e] at hv; cases hv
  · rw [e] at hv
    injection hv with e1 _ _
    injection e1 with e1
    injection e1 with e1 _ _
    subst e1
    refine .inr ⟨i * E.k, c', by rw [List.length_drop, hm], by rw [List.length_drop, ← hm]; exact hc, hc', fun j hj r hr => ?_⟩
    rw [List.length_drop] at hj
    have h1 := E.cells_get l (i + j) r (by omega) hr
    rw [cell_of_row w g' _ cur _ _ hg]
    rw [← ht, List.getElem?_take] at h1
    rw [Nat.add_mul] at h1
    split at h1
    · rw [List.getElem_drop, ← h1]
      simp
    · rw [List.getElem_drop, ← h1]
      rename_i hlt
      have hle : (i + j + 1) * E.k ≤ l.length * E.k := Nat.mul_le_mul_right _ (by omega)
      rw [Nat.succ_mul, Nat.add_mul] at hle
      omega
/-- A leaf that is split. -/
theorem nd_cut0 {w w1 : World} {b g c : Nat} {cl : Value} {kk : List Int} (h : w.heap[b]? = some (.cells #[.slice (some ⟨g, 0, none⟩) 5 c, .slice none 0 0] 102 (0, 0))) (ho : OwnR inE w 0 3 (.slice (some ⟨g, 0, none⟩) 5 c) kk) (h5 : kk.length = 5)
    (hf : Fr [] w w1) (hc : OwnR inE w1 w.heap.size 3 cl (kk.drop 3)) (w3 : World) (hw3 : w3 = (w1.alloc (.cells #[cl, .slice none 0 0] 102)).setCell ⟨b, 0, none⟩ (.slice (some ⟨g, 0, none⟩) 2 c)) :
    Nd 0 w3 b (kk.take 2) [b, g] ∧ Nd 0 w3 w1.heap.size (kk.drop 3) (w1.heap.size :: obl cl) ∧ ([b, g] ++ (w1.heap.size :: obl cl)).Nodup ∧ (∀ y ∈ w1.heap.size :: obl cl, w.heap.size ≤ y) ∧ Fr [b] w w3 := by
  have hbw := lt_of_heap h
  have hgw : g < w.heap.size := (ho.ge g rfl).2
  have hbg : b ≠ g := fun e => own_ne_block ho h (by decide) (by rw [e]; rfl)
  have hsz := hf.size
  have hsa : (w1.alloc (.cells #[cl, .slice none 0 0] 102)).heap.size = w1.heap.size + 1 := by simp
  have hfa : Fr [] w1 (w1.alloc (.cells #[cl, .slice none 0 0] 102)) := (Fr.refl _ _).alloc _
  have hf2 := hf.trans hfa
  have hb2 := hf2.get h (by simp)
  have hs : Fr [b] (w1.alloc (.cells #[cl, .slice none 0 0] 102)) w3 := by rw [hw3]; exact (Fr.refl _ _).setCell (.inl (by simp)) _
  have hcge : ∀ y ∈ obl cl, w.heap.size ≤ y ∧ y < w1.heap.size := fun y hy => hc.ge y (mem_obl.1 hy)
  have hok := (ho.kept hf2 (by simp)).kept hs (fun x hx e => by
    simp only [List.mem_singleton] at hx
    subst hx
    injection e with e
    exact hbg e.symm)
  have hct := hok.take 2 (by omega)
  have hcc := (hc.kept hfa (by simp)).kept hs (fun x hx e => by
    simp only [List.mem_singleton] at hx
    have := hcge x (mem_obl.2 e)
    omega)
  refine ⟨⟨_, by rw [hw3]; exact set_block hb2 _, hct, rfl⟩, ⟨cl, hs.get (heap_alloc_new w1 _) (by simp; omega), hcc.base', rfl⟩, ?_, fun y hy => ?_, (hf2.nil).step hs (fun x hx => .inl hx)⟩
  · rw [List.nodup_append]
    refine ⟨by simp [hbg], List.nodup_cons.2 ⟨fun hm => by have := (hcge _ hm).2; omega, obl_nodup cl⟩, fun y hy z hz => ?_⟩
    have hz' : w.heap.size ≤ z := by
      rcases List.mem_cons.1 hz with rfl | hz
      · omega
      · exact (hcge z hz).1
    simp only [List.mem_cons, List.not_mem_nil, or_false] at hy
    rcases hy with rfl | rfl <;> omega
  · rcases List.mem_cons.1 hy with rfl | hy
    · omega
    · exact (hcge y hy).1
set_option maxRecDepth 100000 in
set_option maxHeartbeats 4000000 in
theorem bt_add0 (w : World) (b : Nat) (t : List Int) (F : List Nat) (x : Int) (h : Nd 0 w b t F) (hok : t.length ≤ 4) (hu : Bt.Up t) :
    Calls Tryd.prog 64 #[.pointer (some ⟨b, 0, none⟩), .int .i64 x] w (BtA 0 w b F (Bt.add 0 t x)) := by
  obtain ⟨vk, hb, ho, rfl⟩ := h
  have HBS := Lib.hid (bs_own w vk t x ho hu (by omega))
  obtain ⟨A, c, hvk, -⟩ := ho.form'
  have hlb := Bt.lb_le x t
  have HINS : Hid (∀ w1, Fr [] w w1 → Calls Tryd.prog 81 #[vk, .int .i64 (Bt.lb x t : Nat), .slice (some ⟨w1.heap.size, 0, none⟩) 1 1] (w1.alloc (.cells #[.int .i64 x] 3)) (InsAI w 0 vk (Bt.ins t (Bt.lb x t) x))) := fun w1 hf =>
    (insI (w1.alloc (.cells #[.int .i64 x] 3)) 0 vk (Bt.lb x t) t x w1.heap.size ((ho.kept hf (by simp)).alloc _) hlb (heap_alloc_new w1 _) (fun e => by have := ((ho.kept hf (by simp)).ge _ e).2; omega) (by omega) (Nat.zero_le _)).mono fun e w' ha => ha.of (hf.alloc _)
  have HSET : Hid (∀ w2 v', InsAI w 0 vk (Bt.ins t (Bt.lb x t) x) (.returned v') w2 → OwnR inE w2 0 3 v' (Bt.ins t (Bt.lb x t) x) ∧ Moves w vk v' → _) := fun w2 v' ha hm => nd_setK hb ho (fr_grown ha.grown) hm.1 hm.2
  have HNI := Lib.hid (fun W => Lib.run_eql_slice_nil (P := Tryd.prog) W 100 99 none 0 0 0 0 Tryd.und_insP)
  have HB := Lib.hid hb
  have HO := Lib.hid ho
  have hlen := Bt.ins_len t (Bt.lb x t) x hlb
  have HBO : Hid (b ∉ obl vk) := fun hm => own_ne_block ho hb (by decide) (mem_obl.1 hm)
  obtain ⟨c0, c1, cf⟩ := nd_cells hb
  obtain ⟨kk, hkk⟩ : ∃ kk, Bt.ins t (Bt.lb x t) x = kk := ⟨_, rfl⟩
  have HADD : Hid (Bt.add 0 t x = Bt.cut0 kk) := by rw [← hkk]; rfl
  rw [hkk] at HINS HSET hlen
  clear hkk hu
  have HMP := Lib.hid (fun W (hW : Fr [] w W) => nd_cells (hW.get hb (by simp)))
  clear hb ho cf
  by_cases h4 : kk.length ≤ 4
  · have hc0 : Bt.cut0 kk = (kk, none) := by unfold Bt.cut0; rw [if_pos h4]
    have h4I : (kk.length : Int) ≤ 4 := by omega
    have HADD2 := Lib.hid (HADD.out.trans hc0)
    have HFIN : Hid (∀ w2 v' w3, InsAI w 0 vk kk (.returned v') w2 → OwnR inE w2 0 3 v' kk ∧ Moves w vk v' → w2.setCell ⟨b, 0, none⟩ v' = w3 → BtA 0 w b (b :: obl vk) (Bt.add 0 t x) (.returned (.tuple #[.int .i64 0, .pointer none])) w3) := fun w2 v' w3 ha hm e => by
      obtain ⟨k1, k2, k3, k4, k5⟩ := HSET.out w2 v' ha hm
      rw [HADD2.out]
      subst e
      refine ⟨b :: obl v', [], ⟨v', k1, k2, rfl⟩, by rw [List.append_nil]; exact List.nodup_cons.2 ⟨k5, obl_nodup v'⟩, fun y hy => ?_, (FrP.refl _ w).step k3 (fun z hz => .inl hz), rfl, rfl⟩
      rw [List.append_nil] at hy
      rcases List.mem_cons.1 hy with rfl | hy
      · exact .inl (by simp)
      · exact (k4 y hy).imp (fun h => List.mem_cons_of_mem _ h) id
    clear hc0 HADD HADD2 hlen
    subst hvk
    go_enter Tryd.func64, Tryd.ntmps64
    go_wp2_with (first
      | (go_at_call 66; (with_reducible refine useC HBS.out ?_); rintro e w1 ⟨rfl, hf⟩; have HF1 := Lib.hid hf; obtain ⟨q0, q1, -⟩ := HMP.out w1 hf; have hnl := HNI.out w1; have HI1 := Lib.hid (HINS.out w1 hf); clear hf)
      | (have hi' := HI1; go_at_call 81; (with_reducible refine useC HI1.out ?_); intro e w2 ha; obtain ⟨⟨v', he, ho2, hv2⟩, hg2⟩ := ha; subst he; obtain ⟨A', c', hv', -⟩ := ho2.form'; subst hv'; have HA := Lib.hid (HFIN.out w2 _ _ ⟨⟨_, rfl, ho2, hv2⟩, hg2⟩ ⟨ho2, hv2⟩ rfl); have hb2 := (fr_grown hg2).get HB.out HBO.out; obtain ⟨r0, -, rf⟩ := nd_cells hb2; have s0 := (nd_cells (set_block hb2 (.slice A' kk.length c') (i := 0))).1; obtain ⟨w3, hw3⟩ : ∃ w3, w2.setCell ⟨b, 0, none⟩ (.slice A' kk.length c') = w3 := ⟨_, rfl⟩; rw [hw3] at HA s0; have HW3 := Lib.hid hw3; clear hw3 hb2 ho2 hv2 hg2)
      | (have hw' := HW3; rw [HW3.out]))
    go_ret2
    exact HA.out
  · have h5 : kk.length = 5 := by omega
    have hc0 : Bt.cut0 kk = (kk.take 2, some (kk.getD 2 0, kk.drop 3)) := by unfold Bt.cut0; rw [if_neg h4]
    have HADD2 := Lib.hid (HADD.out.trans hc0)
    have H5 := Lib.hid h5
    have HFIN : Hid (∀ w2 v' w3 g' c', v' = .slice (some ⟨g', 0, none⟩) 5 c' → InsAI w 0 vk kk (.returned v') w2 → OwnR inE w2 0 3 v' kk ∧ Moves w vk v' → w2.setCell ⟨b, 0, none⟩ v' = w3 →
        (w3.heap[b]? = some (.cells #[.slice (some ⟨g', 0, none⟩) 5 c', .slice none 0 0] 102 (0, 0)) ∧ OwnR inE w3 0 3 (.slice (some ⟨g', 0, none⟩) 5 c') kk) ∧
        ∀ w4 v4 w5, Fr [] w3 w4 → OwnR inE w4 w3.heap.size 3 v4 (kk.drop 3) → (w4.alloc (.cells #[v4, .slice none 0 0] 102)).setCell ⟨b, 0, none⟩ (.slice (some ⟨g', 0, none⟩) 2 c') = w5 →
        BtA 0 w b (b :: obl vk) (Bt.add 0 t x) (.returned (.tuple #[.int .i64 (kk.getD 2 0), .pointer (some ⟨w4.heap.size, 0, none⟩)])) w5) := fun w2 v' w3 g' c' ev ha hm e => by
      obtain ⟨k1, k2, k3, k4, k5⟩ := HSET.out w2 v' ha hm
      subst e
      subst ev
      refine ⟨⟨k1, k2⟩, fun w4 v4 w5 j1 j2 j3 => ?_⟩
      obtain ⟨l1, l2, l3, l4, l5⟩ := nd_cut0 k1 k2 H5.out j1 j2 w5 j3.symm
      rw [HADD2.out]
      have hz := k3.size
      refine ⟨[b, g'], w4.heap.size :: obl v4, l1, l3, fun y hy => ?_, ((FrP.refl _ w).step k3 (fun z hz => .inl hz)).step l5 (fun z hz => .inl (by simp only [List.mem_singleton] at hz; simp [hz])), w4.heap.size, rfl, l2⟩
      rcases List.mem_append.1 hy with hy | hy
      · simp only [List.mem_cons, List.not_mem_nil, or_false] at hy
        rcases hy with rfl | rfl
        · exact .inl (by simp)
        · exact (k4 y (mem_obl.2 rfl)).imp (fun h => List.mem_cons_of_mem _ h) id
      · exact .inr (Nat.le_trans hz (l4 y hy))
    obtain ⟨u, hu⟩ : ∃ u, kk.getD 2 0 = u := ⟨_, rfl⟩
    rw [hu] at HFIN
    have HU := Lib.hid hu
    clear hu
    have HDL : Hid ((kk.drop 3).length ≤ 100000) := by show (kk.drop 3).length ≤ 100000; rw [List.length_drop]; omega
    clear hc0 HADD HADD2 hlen h4 h5
    subst hvk
    go_enter Tryd.func64, Tryd.ntmps64
    go_wp2_with (first
      | (go_at_call 66; (with_reducible refine useC HBS.out ?_); rintro e w1 ⟨rfl, hf⟩; have HF1 := Lib.hid hf; obtain ⟨q0, q1, -⟩ := HMP.out w1 hf; have hnl := HNI.out w1; have HI1 := Lib.hid (HINS.out w1 hf); clear hf)
      | (have hi' := HI1; go_at_call 81; (with_reducible refine useC HI1.out ?_); intro e w2 ha; obtain ⟨⟨v', he, ho2, hv2⟩, hg2⟩ := ha; subst he; obtain ⟨g', c', hv', hc5, hcm, -⟩ := own_cellI ho2 (by have := H5.out; omega); rw [H5.out] at hv' hc5; subst hv'; have hfin := HFIN.out w2 _ _ g' c' rfl ⟨⟨_, rfl, ho2, hv2⟩, hg2⟩ ⟨ho2, hv2⟩ rfl; have hb2 := (fr_grown hg2).get HB.out HBO.out; obtain ⟨r0, -, rf⟩ := nd_cells hb2; obtain ⟨w3, hw3⟩ : ∃ w3, w2.setCell ⟨b, 0, none⟩ (.slice (some ⟨g', 0, none⟩) 5 c') = w3 := ⟨_, rfl⟩; rw [hw3] at hfin; obtain ⟨⟨hb3, ho3⟩, hfin⟩ := hfin; obtain ⟨s0, s1, sf⟩ := nd_cells hb3; obtain ⟨g9, c9, e9, -, -, hcl⟩ := own_cellI ho3 (by have := H5.out; omega); rw [H5.out] at e9; injection e9 with e9 e11 e10; injection e9 with e9; injection e9 with e9 e12 e13; subst e9 e10; clear e11 e12 e13; have s2 := hcl 2 (by have := H5.out; omega); have hk2 : kk.getD 2 0 = kk[2]'(by have := H5.out; omega) := (by simp [List.getD, H5.out]); rw [← hk2, HU.out] at s2; have HSL := Lib.hid (sl_part (i := 3) (m := 2) (c' := c' - 3) ho3 rfl (by have := H5.out; omega) (by rw [H5.out]) (by omega) (by omega) 3 rfl); have HCL := Lib.hid (cloneI w3 _ g' _ HSL.out HDL.out); have HA := Lib.hid hfin; have HW3 := Lib.hid hw3; have HB3 := Lib.hid hb3; have hc3 : ¬ c' = 3 := (by omega); have hc3I : (3 : Int) ≤ c' := (by omega); have hc2I : (2 : Int) ≤ c' := (by omega); have hc0' : ¬ c' = 0 := (by omega); clear hw3 hb2 ho2 hv2 hg2 hfin hb3 ho3 hcl hk2)
      | (have hw' := HW3; rw [HW3.out])
      | (have hi' := HCL; go_at_call 65; (with_reducible refine useC HCL.out ?_); rintro e w4 ⟨v4, rfl, ho4, hf4⟩; obtain ⟨A4, k4, hv4, -⟩ := ho4.form'; obtain ⟨L4, hL4⟩ : ∃ L4, (kk.drop 3).length = L4 := ⟨_, rfl⟩; rw [hL4] at hv4; clear hL4; subst hv4; have hbb := hf4.get HB3.out (by simp); obtain ⟨t0, t1, tf⟩ := nd_cells hbb; have hb4 := lt_of_heap hbb; have HA4 := Lib.hid (HA.out w4 _ _ hf4 ho4 rfl); have hnl := HNI.out; clear ho4 hf4 hbb))
    go_ret2
    have hlast := HA4.out
    rw [World.setCell_alloc_past _ _ _ _ hb4] at hlast
    exact hlast
end Go.Proofs.YtokbhiokcoldbaaDoor
