/- slices.Clone at []*btree.node: a row that the call owns. -/

import Derived.Test.YtokbhiokcoldbaaDoorCq04
import Derived.Test.YtokbhiokcoldbaaDoorCq05
import Derived.Test.YtokbhiokcoldbaaDoorCq11
import Derived.Test.YtokbhiokcoldbaaDoorCq12
import Derived.Test.YtokbhiokcoldbaaDoorCq13
import Derived.Test.YtokbhiokcoldbaaDoorCq14
import Derived.Test.YtokbhiokcoldbaaDoorCq15
import Derived.Test.YtokbhiokcoldbaaDoorCq16
import Derived.Test.YtokbhiokcoldbaaDoorCq18
namespace Go.Proofs.YtokbhiokcoldbaaDoor
open Go.RowKit

theorem cloneP (w : World) (v : Value) (g : Nat) (l : List Nat) (h : SlR pbE w v g l) (hb : l.length ≤ 100000) :
    Calls Tryd.prog 83 #[v] w fun e w' => ∃ v', e = .returned v' ∧ OwnR pbE w' w.heap.size 99 v' l ∧ Fr [] w w' := by
  obtain ⟨i0, hi, hz0, hz1, hz2⟩ := info_parts Tryd.info_insP
  obtain ⟨A, o, c, rfl, _, hA, hc⟩ := h.form
  clear h
  cases A with
  | none =>
    have hx : l = [] := by
      cases l with
      | nil => rfl
      | cons x xs => cases hA (by simp)
    subst hx
    have hnil := fun W => Lib.run_eql_slice_nil (P := Tryd.prog) W 100 99 none 0 c 0 0 Tryd.underlying100
    clear hA hc
    go_enter Tryd.func83, Tryd.ntmps83
    go_wp2
    all_goals (go_ret; exact ⟨_, rfl, OwnR.nil, Fr.refl _ _⟩)
  | some a =>
    have hnil := fun W => Lib.run_eql_slice_nil (P := Tryd.prog) W 100 99 (some a) l.length c 0 0 Tryd.underlying100
    have hown := World.ownsRow_made (base := w.heap.size) (e := 99) (size := pbE.k) w #[] 0 (Nat.le_refl _) (Nat.zero_le _) rfl
    have HA := Lib.hid hA
    have H3 := Lib.hid hc
    clear hA hc
    go_enter Tryd.func83, Tryd.ntmps83
    go_wp2_with (at_builtin; refine wpList_append_own _ rfl _ _ 100 rfl w.heap.size 99 i0 _ pbE.k 8 Tryd.underlying100 hi hz0 hz1 hz2 rfl (by decide) _ _ _ rfl hown a l.length c (pbE.cells l) rfl (pbE.cells_len l) ?c1 ?c2 ?c3 ?c4 ?c5 ?_)
    case c1 =>
      intro j u hu
      have hjl : j < l.length * pbE.k := by
        rw [← pbE.cells_len l]
        exact (List.getElem?_eq_some_iff.1 hu).1
      have hk := pbE.pos
      have hdiv : j / pbE.k < l.length := Nat.div_lt_of_lt_mul (by rw [Nat.mul_comm]; exact hjl)
      have hmod := Nat.mod_lt j hk
      have hdm : j / pbE.k * pbE.k + j % pbE.k = j := by rw [Nat.mul_comm]; exact Nat.div_add_mod j pbE.k
      obtain rfl : a = ⟨g, o, none⟩ := Option.some.inj (HA.out (Nat.lt_of_le_of_lt (Nat.zero_le _) hdiv))
      have hcl := H3.out (j / pbE.k) hdiv (j % pbE.k) hmod
      rw [← pbE.cells_get l (j / pbE.k) (j % pbE.k) hdiv hmod, hdm, hu] at hcl
      rw [Addr.add_lit]
      rw [Nat.add_assoc, hdm] at hcl
      exact cell?_alloc_old _ hcl
    case c2 => exact pbE.cells_one l
    case c3 => unfold maxLen; omega
    case c4 => omega
    case c5 => simp
    intro v' w1 hown1 hgr _
    have H4 : Hid (OwnR pbE w1 w.heap.size 99 v' l) := hown1
    have H5 := Lib.hid (((Fr.refl [] w).alloc (.cells #[] 99)).grown hgr (by simp [Value.ownBlock]))
    clear hown1 hgr hown hnil
    go_wp2
    go_ret
    exact ⟨_, rfl, H4.out, H5.out⟩
end Go.Proofs.YtokbhiokcoldbaaDoor
/- A tree of keys in memory: nodes, each in its block, with a row of keys and a row of kids. -/
namespace Go.Proofs.YtokbhiokcoldbaaDoor
open Go.RowKit

section
variable {α β : Type} {E : Enc α} {F : Enc β} {w : World} {B C e f : Nat} {u v : Value} {l : List α} {m : List β}
theorem own_ne_block {b : Nat} {cur : Array Value} {t : TypeId} {fr : Nat × Nat} (h : OwnR E w B e v l) (hg : w.heap[b]? = some (.cells cur t fr)) (hne : e ≠ t) : v.ownBlock ≠ some b := by
  rcases h.2 with ⟨rfl, _⟩ | ⟨g, cap, cur', rfl, _, hg', _⟩
  · intro e; cases e
  · intro he
    have he : g = b := by simpa [Value.ownBlock] using he
    subst he
    rw [hg] at hg'
    injection hg' with hg'
    injection hg' with _ hg' _
    exact hne hg'.symm
theorem own_ne_own (h : OwnR E w B e u l) (k : OwnR F w C f v m) (hne : e ≠ f) : ∀ g, u.ownBlock = some g → v.ownBlock ≠ some g := fun g hg => by
  rcases h.2 with ⟨rfl, _⟩ | ⟨g', cap, cur, rfl, _, hg', _⟩
  · cases hg
  · have he : g' = g := by simpa [Value.ownBlock] using hg
    subst he
    exact own_ne_block k hg' (Ne.symm hne)
theorem OwnR.frP' {P : Nat → Prop} {w' : World} (h : OwnR E w B e v l) (hf : FrP P w w') (hn : ∀ g, v.ownBlock = some g → ¬ P g) : OwnR E w' B e v l := by
  obtain ⟨h1, h2⟩ := h
  refine ⟨h1, ?_⟩
  rcases h2 with h2 | ⟨g, cap, cur, e0, hb, hg, r⟩
  · exact .inl h2
  · exact .inr ⟨g, cap, cur, e0, hb, (hf.block g (lt_of_heap hg) (hn g (by rw [e0]; rfl))).trans hg, r⟩
theorem OwnR.form' (h : OwnR E w B e v l) : ∃ A c, v = .slice A l.length c ∧ l.length ≤ c ∧ c ≤ maxLen ∧ ((A = none ∧ c = 0 ∧ l = []) ∨ ∃ g, A = some ⟨g, 0, none⟩) := by
  rcases h.2 with ⟨rfl, hn⟩ | ⟨g, cap, cur, rfl, _, _, hc, hm, _⟩
  · exact ⟨none, 0, by rw [hn], by omega, Nat.zero_le _, .inl ⟨rfl, rfl, List.eq_nil_of_length_eq_zero hn⟩⟩
  · exact ⟨_, cap, rfl, hc, hm, .inr ⟨g, rfl⟩⟩
theorem OwnR.base' (h : OwnR E w B e v l) : OwnR E w 0 e v l := by
  obtain ⟨h1, h2⟩ := h
  refine ⟨h1, ?_⟩
  rcases h2 with h2 | ⟨g, cap, cur, e0, hb, r⟩
  · exact .inl h2
  · exact .inr ⟨g, cap, cur, e0, Nat.zero_le _, r⟩
end
def obl (v : Value) : List Nat := v.ownBlock.toList
theorem mem_obl {v : Value} {x : Nat} : x ∈ obl v ↔ v.ownBlock = some x := by unfold obl; simp
/-- A kid: its block, the tree, the blocks of it. -/
abbrev Kd (d : Nat) := Nat × Bt.T d × List Nat
/-- Block b holds a tree of depth d; F are its blocks. -/
def Nd : (d : Nat) → World → Nat → Bt.T d → List Nat → Prop
  | 0, w, b, t, F => ∃ vk, w.heap[b]? = some (.cells #[vk, .slice none 0 0] 102 (0, 0)) ∧ OwnR inE w 0 3 vk t ∧ F = b :: obl vk
  | d + 1, w, b, t, F => ∃ vk vc, ∃ K : List (Kd d), w.heap[b]? = some (.cells #[vk, vc] 102 (0, 0)) ∧ OwnR inE w 0 3 vk t.1 ∧ OwnR pbE w 0 99 vc (K.map (·.1)) ∧ t.2 = K.map (·.2.1) ∧
      (∀ p ∈ K, Nd d w p.1 p.2.1 p.2.2) ∧ F = b :: (obl vk ++ obl vc ++ (K.map (·.2.2)).flatten)
theorem Nd.lt : ∀ {d : Nat} {w : World} {b : Nat} {t : Bt.T d} {F : List Nat}, Nd d w b t F → ∀ x ∈ F, x < w.heap.size
  | 0, w, b, t, F, h, x, hx => by
    obtain ⟨vk, h1, h2, rfl⟩ := h
    rcases List.mem_cons.1 hx with rfl | hx
    · exact lt_of_heap h1
    · exact (h2.ge x (mem_obl.1 hx)).2
  | d + 1, w, b, t, F, h, x, hx => by
    obtain ⟨vk, vc, K, h1, h2, h3, h4, h5, rfl⟩ := h
    rcases List.mem_cons.1 hx with rfl | hx
    · exact lt_of_heap h1
    · simp only [List.mem_append, List.mem_flatten, List.mem_map] at hx
      rcases hx with (hx | hx) | ⟨_, ⟨p, hp, rfl⟩, hx⟩
      · exact (h2.ge x (mem_obl.1 hx)).2
      · exact (h3.ge x (mem_obl.1 hx)).2
      · exact Nd.lt (h5 p hp) x hx
theorem Nd.frP : ∀ {d : Nat} {w w' : World} {b : Nat} {t : Bt.T d} {F : List Nat} {P : Nat → Prop}, Nd d w b t F → FrP P w w' → (∀ x ∈ F, ¬ P x) → Nd d w' b t F
  | 0, w, w', b, t, F, P, h, hf, hn => by
    obtain ⟨vk, h1, h2, rfl⟩ := h
    exact ⟨vk, (hf.block b (lt_of_heap h1) (hn b (by simp))).trans h1, h2.frP' hf (fun g hg => hn g (by simp [mem_obl.2 hg])), rfl⟩
  | d + 1, w, w', b, t, F, P, h, hf, hn => by
    obtain ⟨vk, vc, K, h1, h2, h3, h4, h5, rfl⟩ := h
    refine ⟨vk, vc, K, (hf.block b (lt_of_heap h1) (hn b (by simp))).trans h1, h2.frP' hf (fun g hg => hn g (by simp [mem_obl.2 hg])), h3.frP' hf (fun g hg => hn g (by simp [mem_obl.2 hg])), h4, fun p hp => ?_, rfl⟩
    refine Nd.frP (h5 p hp) hf (fun x hx => hn x ?_)
    simp only [List.mem_cons, List.mem_append, List.mem_flatten, List.mem_map]
    exact .inr (.inr ⟨_, ⟨p, hp, rfl⟩, hx⟩)
theorem Nd.fr {d : Nat} {w w' : World} {b : Nat} {t : Bt.T d} {F : List Nat} {S : List Nat} (h : Nd d w b t F) (hf : Fr S w w') (hn : ∀ x ∈ S, x ∉ F) : Nd d w' b t F :=
  h.frP (P := (· ∈ S)) ((FrP.refl _ w).step hf (fun x hx => .inl hx)) (fun x hx hq => hn x hq hx)
theorem Nd.keep {d : Nat} {w w' : World} {b : Nat} {t : Bt.T d} {F : List Nat} (h : Nd d w b t F) (hf : Fr [] w w') : Nd d w' b t F := h.fr hf (by simp)
/-- What the node's own block holds: its keys. -/
theorem Nd.keys : ∀ {d : Nat} {w : World} {b : Nat} {t : Bt.T d} {F : List Nat}, Nd d w b t F → ∃ vk vc, w.heap[b]? = some (.cells #[vk, vc] 102 (0, 0)) ∧ OwnR inE w 0 3 vk (Bt.ks d t)
  | 0, _, _, _, _, ⟨vk, h1, h2, _⟩ => ⟨vk, _, h1, h2⟩
  | _ + 1, _, _, _, _, ⟨vk, vc, _, h1, h2, _⟩ => ⟨vk, vc, h1, h2⟩
theorem nd_cells {w : World} {b : Nat} {x y : Value} (h : w.heap[b]? = some (.cells #[x, y] 102 (0, 0))) : w.cell? ⟨b, 0, none⟩ = some x ∧ w.cell? ⟨b, 1, none⟩ = some y ∧ ∀ i, w.frozen? ⟨b, i, none⟩ = false :=
  ⟨by rw [cell_of_row w b _ _ _ _ h]; rfl, by rw [cell_of_row w b _ _ _ _ h]; rfl, fun i => free_block h i none⟩
/-- The cells of a row that the call owns, one an element. -/
theorem own_cellP {w : World} {B e : Nat} {v : Value} {l : List Nat} (h : OwnR pbE w B e v l) (h0 : 0 < l.length) : ∃ g c, v = .slice (some ⟨g, 0, none⟩) l.length c ∧ l.length ≤ c ∧ c ≤ maxLen ∧ ∀ i (hi : i < l.length), w.cell? ⟨g, i, none⟩ = some (.pointer (some ⟨l[i], 0, none⟩)) := by
  rcases h.2 with ⟨rfl, hn⟩ | ⟨g, cap, cur, rfl, hb, hg, hc, hm, hs, ht⟩
  · omega
  · refine ⟨g, cap, rfl, hc, hm, fun i hi => ?_⟩
    rw [cell_of_row w g i cur e _ hg]
    have h1 := pbE.cells_get l i 0 hi (by decide)
    rw [← ht, List.getElem?_take] at h1
    rw [show i * pbE.k + 0 = i from by show i * 1 + 0 = i; omega] at h1
    split at h1
    · simpa [pbE] using h1
    · simp [pbE] at h1
theorem own_cellI {w : World} {B e : Nat} {v : Value} {l : List Int} (h : OwnR inE w B e v l) (h0 : 0 < l.length) : ∃ g c, v = .slice (some ⟨g, 0, none⟩) l.length c ∧ l.length ≤ c ∧ c ≤ maxLen ∧ ∀ i (hi : i < l.length), w.cell? ⟨g, i, none⟩ = some (.int .i64 l[i]) := by
  rcases h.2 with ⟨rfl, hn⟩ | ⟨g, cap, cur, rfl, hb, hg, hc, hm, hs, ht⟩
  · omega
  · refine ⟨g, cap, rfl, hc, hm, fun i hi => ?_⟩
    rw [cell_of_row w g i cur e _ hg]
    have h1 := inE.cells_get l i 0 hi (by decide)
    rw [← ht, List.getElem?_take] at h1
    rw [show i * inE.k + 0 = i from by show i * 1 + 0 = i; omega] at h1
    split at h1
    · simpa [inE] using h1
    · simp [inE] at h1
end Go.Proofs.YtokbhiokcoldbaaDoor

/- A store of versions beside other stores: what another one's turn leaves alone. -/
namespace Go.Proofs.YtokbhiokcoldbaaDoor
open Go.RowKit

/-- Block k is one of the store's: its own, its row's, a node's. -/
def CoQ (w : World) (sb : Nat) (st : List Ct) (k : Nat) : Prop := CoF w sb k ∨ ∃ T ∈ st, k ∈ Co.blks T
theorem CoS.frP {P : Nat → Prop} {B : Nat} {w w' : World} {sb : Nat} {st : List Ct} (h : CoS B w sb st) (hf : FrP P w w') (hn : ∀ k, CoQ w sb st k → ¬ P k) : CoS B w' sb st ∧ ∀ k, CoQ w' sb st k → CoQ w sb st k := by
  obtain ⟨A, g, c, h1, rfl, h2⟩ := h.main
  have hb := (hf.block sb (lt_of_heap h1) (hn sb (.inl (.inl rfl)))).trans h1
  have c0 : w.cell? ⟨sb, 0, none⟩ = some (.slice (some ⟨g, 0, none⟩) st.length c) := by rw [cell_of_row w sb 0 _ _ _ h1]; rfl
  have c1 : w'.cell? ⟨sb, 0, none⟩ = some (.slice (some ⟨g, 0, none⟩) st.length c) := by rw [cell_of_row w' sb 0 _ _ _ hb]; rfl
  refine ⟨⟨h.ge, ⟨_, g, c, hb, rfl, h2.frP' hf (fun x hx => hn x (.inl (.inr ⟨_, c0, hx⟩)))⟩, fun T hT => (h.ins T hT).keep (fun b hb' => hf.block b ((h.ins T hT).lt hb') (hn b (.inr ⟨T, hT, hb'⟩))), h.ok.mono hf.size⟩, fun k hk => ?_⟩
  rcases hk with (rfl | ⟨v, hv, hk⟩) | hk
  · exact .inl (.inl rfl)
  · rw [c1] at hv
    obtain rfl := Option.some.inj hv
    exact .inl (.inr ⟨_, c0, hk⟩)
  · exact .inr hk
theorem coQ_put {w w' : World} {sb N : Nat} {st : List Ct} {v k x : Int} (hK : CoK sb w w') (hN : w.heap.size ≤ N) (hv : Co.has st v) {i : Nat} (hi : CoQ w' sb (st ++ [Co.put (Co.tree st v) N k x]) i) : CoQ w sb st i ∨ w.heap.size ≤ i := by
  rcases hi with hi | ⟨T, hT, hb⟩
  · exact (hK.2 i hi).elim (fun h => .inl (.inl h)) .inr
  · rcases List.mem_append.1 hT with hT | hT
    · exact .inl (.inr ⟨T, hT, hb⟩)
    · rw [List.mem_singleton] at hT
      subst hT
      rcases Co.blks_put k x i _ _ hb with hb | hb
      · exact .inr (Nat.le_trans hN hb)
      · exact .inl (.inr ⟨_, Co.tree_mem hv, hb⟩)
theorem coQ_lt {B : Nat} {w : World} {sb : Nat} {st : List Ct} (h : CoS B w sb st) {i : Nat} (hi : CoQ w sb st i) : i < w.heap.size := by
  rcases hi with hi | ⟨T, hT, hb⟩
  · exact h.footLt i hi
  · exact (h.ins T hT).lt hb
end Go.Proofs.YtokbhiokcoldbaaDoor

/- Slices as elements of a row. No program in sight. -/
namespace Go.Proofs.YtokbhiokcoldbaaDoor
open Go.RowKit

/-- A slice, by its parts. -/
structure SlV where
  A : Option Addr
  n : Nat
  c : Nat
def SlV.val (s : SlV) : Value := .slice s.A s.n s.c
/-- A slice as an element of a row. -/
def slE : Enc SlV where
  k := 1
  enc := fun s => [s.val]
  len := fun _ => rfl
  one := fun e v hv => by simp only [List.mem_cons, List.not_mem_nil, or_false] at hv; rcases hv with rfl; rfl
  pos := by decide
end Go.Proofs.YtokbhiokcoldbaaDoor

/- CowPlays: the store of versions and the document's row of versions side by side. -/
namespace Go.Proofs.YtokbhiokcoldbaaDoor
open Go.RowKit

theorem drop_take3 {l : List Value} {i : Nat} {a b c : Value} (h0 : l[i]? = some a) (h1 : l[i + 1]? = some b) (h2 : l[i + 2]? = some c) : (l.drop i).take 3 = [a, b, c] := by
  obtain ⟨p0, q0⟩ := List.getElem?_eq_some_iff.1 h0
  obtain ⟨p1, q1⟩ := List.getElem?_eq_some_iff.1 h1
  obtain ⟨p2, q2⟩ := List.getElem?_eq_some_iff.1 h2
  rw [List.drop_eq_getElem_cons p0, List.drop_eq_getElem_cons p1, List.drop_eq_getElem_cons p2]
  simp [q0, q1, q2]
abbrev V3 := SlV × SlV × SlV
/-- A version as an element of a row: three slices. -/
def vrE : Enc V3 where
  k := 3
  enc := fun p => [p.1.val, p.2.1.val, p.2.2.val]
  len := fun _ => rfl
  one := fun e v hv => by simp only [List.mem_cons, List.not_mem_nil, or_false] at hv; rcases hv with rfl | rfl | rfl <;> rfl
  pos := by decide
def B3 (v : V3) : Nat → Prop := P3 v.1.val v.2.1.val v.2.2.val
def VV (L : Nat → Nat) (w : World) (v : V3) (q : Co.Vr) : Prop := VR L w v.1.val q.K ∧ VR L w v.2.1.val q.V ∧ VR L w v.2.2.val q.M
section
variable {L L' : Nat → Nat} {P : Nat → Prop} {w w' : World} {v : V3} {q : Co.Vr} {x : Value} {xs : List Int}
theorem VV.keep (h : VV L w v q) (k : KpL P L w w') : VV L w' v q := ⟨h.1.keep k, h.2.1.keep k, h.2.2.keep k⟩
theorem VV.step (h : VV L w v q) (k : Fr [] w w') : VV L w' v q := ⟨h.1.step k, h.2.1.step k, h.2.2.step k⟩
theorem VV.lt (h : VV L w v q) {g : Nat} (hg : B3 v g) : g < w.heap.size := by
  rcases hg with hg | hg | hg
  · exact (h.1.1.ge g hg).2
  · exact (h.2.1.1.ge g hg).2
  · exact (h.2.2.1.ge g hg).2
theorem VR.relab (h : VR L w x xs) (hL : ∀ g, g < w.heap.size → L' g = L g) : VR L' w x xs := ⟨h.1, fun g hg => (hL g (h.1.ge g hg).2).trans (h.2 g hg)⟩
theorem VV.relab (h : VV L w v q) (hL : ∀ g, g < w.heap.size → L' g = L g) : VV L' w v q := ⟨h.1.relab hL, h.2.1.relab hL, h.2.2.relab hL⟩
theorem KpL.relab (h : KpL P L w w') (hL : ∀ g, g < w.heap.size → L' g = L g) : KpL P L' w w' := ⟨h.fr, fun g hg hl => by rw [hL g hl]; exact h.keep g hg hl⟩
/-- The block of a row of integers holds integers. -/
theorem own_typed {B : Nat} {g : Nat} (h : Own w B 3 x xs) (hg : x.ownBlock = some g) : ∃ cs, w.heap[g]? = some (.cells cs 3 (0, 0)) := by
  rcases h.2 with ⟨rfl, -⟩ | ⟨g', cap, cur, rfl, hb, hq, -⟩
  · cases hg
  · obtain rfl : g' = g := by simpa [Value.ownBlock] using hg
    exact ⟨cur, hq⟩
theorem VV.typed (h : VV L w v q) {g : Nat} (hg : B3 v g) : ∃ cs, w.heap[g]? = some (.cells cs 3 (0, 0)) := by
  rcases hg with hg | hg | hg
  · exact own_typed h.1.1 hg
  · exact own_typed h.2.1.1 hg
  · exact own_typed h.2.2.1 hg
theorem vr_typed {B : Nat} {vs : List V3} {g : Nat} (h : OwnR vrE w B 27 x vs) (hg : x.ownBlock = some g) : ∃ cs, w.heap[g]? = some (.cells cs 27 (0, 0)) := by
  rcases h.2 with ⟨rfl, -⟩ | ⟨g', cap, cur, rfl, hb, hq, -⟩
  · cases hg
  · obtain rfl : g' = g := by simpa [Value.ownBlock] using hg
    exact ⟨cur, hq⟩
theorem coQ_typed {B sb k : Nat} {st : List Ct} (h : CoS B w sb st) (hk : CoQ w sb st k) : ∃ cs t, w.heap[k]? = some (.cells cs t (0, 0)) ∧ t ≠ 3 ∧ t ≠ 27 := by
  obtain ⟨g, c, cur, h1, h2, -⟩ := h.row
  rcases hk with (rfl | ⟨v, hv, hk⟩) | ⟨T, hT, hb⟩
  · exact ⟨_, _, h1, by decide, by decide⟩
  · rw [cell_of_row w sb 0 _ _ _ h1] at hv
    simp at hv
    subst hv
    simp [Value.ownBlock] at hk
    subst hk
    exact ⟨_, _, h2, by decide, by decide⟩
  · obtain ⟨cs, hc⟩ := (h.ins T hT).node_at hb
    exact ⟨_, _, hc, by decide, by decide⟩
theorem typed_ne {g t t' : Nat} {cs cs' : Array Value} (h : w.heap[g]? = some (.cells cs t (0, 0))) (h' : w.heap[g]? = some (.cells cs' t' (0, 0))) : t = t' := by
  rw [h] at h'
  injection h' with h'
  injection h' with _ h' _
end
/-- In a law that began at w: the store, the row of versions. -/
structure CqS (w wr : World) (sb : Nat) (st : List Ct) (hx : Value) (vs : List V3) (qs : List Co.Vr) (L : Nat → Nat) : Prop where
  s : CoS w.heap.size wr sb st
  x : OwnR vrE wr w.heap.size 27 hx vs
  len : vs.length = qs.length
  row : ∀ j (h : j < vs.length), VV L wr vs[j] (qs.getD j Co.vr0)
  ge : ∀ j (h : j < vs.length), ∀ g, B3 vs[j] g → w.heap.size ≤ g
  fr : Fr [] w wr
section
variable {w wr w' : World} {sb : Nat} {st st' : List Ct} {hx hx' : Value} {vs : List V3} {qs : List Co.Vr} {q : Co.Vr} {L L' : Nat → Nat} {P : Nat → Prop} {y : V3}
theorem CqS.notQ (h : CqS w wr sb st hx vs qs L) {j : Nat} (hj : j < vs.length) {g : Nat} (hg : B3 vs[j] g) : ¬ CoQ wr sb st g := fun hq => by
  obtain ⟨cs, h1⟩ := (h.row j hj).typed hg
  obtain ⟨cs', t, h2, h3, -⟩ := coQ_typed h.s hq
  exact h3 (typed_ne h1 h2).symm
theorem CqS.notX (h : CqS w wr sb st hx vs qs L) {j : Nat} (hj : j < vs.length) {g : Nat} (hg : B3 vs[j] g) : hx.ownBlock ≠ some g := fun hq => by
  obtain ⟨cs, h1⟩ := (h.row j hj).typed hg
  obtain ⟨cs', h2⟩ := vr_typed h.x hq
  exact absurd (typed_ne h1 h2) (by decide)
theorem CqS.xQ (h : CqS w wr sb st hx vs qs L) {g : Nat} (hg : hx.ownBlock = some g) : ¬ CoQ wr sb st g := fun hq => by
  obtain ⟨cs, h1⟩ := vr_typed h.x hg
  obtain ⟨cs', t, h2, -, h3⟩ := coQ_typed h.s hq
  exact h3 (typed_ne h1 h2).symm
theorem CqS.step (h : CqS w wr sb st hx vs qs L) (hf : Fr [] wr w') : CqS w w' sb st hx vs qs L :=
  ⟨h.s.step hf, h.x.kept hf (by simp), h.len, fun j hj => (h.row j hj).step hf, h.ge, h.fr.trans hf⟩
theorem CqS.relab (h : CqS w wr sb st hx vs qs L) (hL : ∀ g, g < wr.heap.size → L' g = L g) : CqS w wr sb st hx vs qs L' :=
  ⟨h.s, h.x, h.len, fun j hj => (h.row j hj).relab hL, h.ge, h.fr⟩
/-- The document's Put of a version has turned its rows behind their ends. -/
theorem CqS.put (h : CqS w wr sb st hx vs qs L) {j : Nat} (hj : j < vs.length) (hk : KpL (B3 vs[j]) L wr w') : CqS w w' sb st hx vs qs L :=
  ⟨(h.s.frP hk.fr (fun k hk hp => h.notQ hj hp hk)).1, h.x.frP' hk.fr (fun g hg hp => h.notX hj hp hg), h.len, fun i hi => (h.row i hi).keep hk, h.ge, FrP.fr h.fr hk.fr (h.ge j hj)⟩
/-- A version more. -/
theorem CqS.grow (h : CqS w wr sb st hx vs qs L) (hy : VV L wr y q) (hyb : ∀ g, B3 y g → w.heap.size ≤ g) (ho : OwnR vrE w' w.heap.size 27 hx' (vs ++ [y])) (hg : wr.grownBy w' hx.ownBlock) : CqS w w' sb st hx' (vs ++ [y]) (qs ++ [q]) L := by
  have hP : FrP (fun g => hx.ownBlock = some g) wr w' := (FrP.refl _ wr).step (fr_grownB hg) (fun g hg => .inl (by simpa using hg))
  have hrow : ∀ (v : V3) (p : Co.Vr), VV L wr v p → VV L w' v p := fun v p hv => by
    have hne : ∀ g, B3 v g → ¬ hx.ownBlock = some g := fun g hg he => by
      obtain ⟨cs, h1⟩ := hv.typed hg
      obtain ⟨cs', h2⟩ := vr_typed h.x he
      exact absurd (typed_ne h1 h2) (by decide)
    have hk : ∀ (x : Value) (xs : List Int), VR L wr x xs → (∀ g, x.ownBlock = some g → B3 v g) → VR L w' x xs := fun x xs hx' hb => ⟨hx'.1.kept (fr_grownB hg) (fun g hm e => hne g (hb g e) (by simpa using hm)), hx'.2⟩
    exact ⟨hk _ _ hv.1 (fun g hg => .inl hg), hk _ _ hv.2.1 (fun g hg => .inr (.inl hg)), hk _ _ hv.2.2 (fun g hg => .inr (.inr hg))⟩
  refine ⟨(h.s.frP hP (fun k hk hp => h.xQ hp hk)).1, ho, by rw [List.length_append, List.length_append, h.len]; rfl, fun i hi => ?_, fun i hi g hgb => ?_, FrP.fr h.fr hP (fun g hg => (h.x.ge g hg).1)⟩
  · by_cases e : i < vs.length
    · rw [List.getElem_append_left e, Co.getD_app1 (by rw [← h.len]; exact e)]
      exact hrow _ _ (h.row i e)
    · have e2 : i = vs.length := by rw [List.length_append, List.length_singleton] at hi; omega
      subst e2
      have e3 : (qs ++ [q]).getD vs.length Co.vr0 = q := by rw [h.len]; exact Co.getD_app2
      rw [List.getElem_append_right (Nat.le_refl _), e3]
      simpa using hrow _ _ hy
  · by_cases e : i < vs.length
    · rw [List.getElem_append_left e] at hgb
      exact h.ge i e g hgb
    · have e2 : i = vs.length := by rw [List.length_append, List.length_singleton] at hi; omega
      subst e2
      rw [List.getElem_append_right (Nat.le_refl _)] at hgb
      exact hyb g (by simpa using hgb)
/-- The store has turned. -/
theorem CqS.turn (h : CqS w wr sb st hx vs qs L) (hs : CoS w.heap.size w' sb st') (hk : CoK sb wr w') : CqS w w' sb st' hx vs qs L := by
  have hq : ∀ g, CoF wr sb g → CoQ wr sb st g := fun g hg => .inl hg
  refine ⟨hs, h.x.frP' hk.1 (fun g hg hp => h.xQ hg (hq g hp)), h.len, fun j hj => ?_, h.ge, hk.fr h.s h.fr (Nat.le_refl _)⟩
  have hv := h.row j hj
  have hk2 : ∀ (x : Value) (xs : List Int), VR L wr x xs → (∀ g, x.ownBlock = some g → B3 vs[j] g) → VR L w' x xs := fun x xs hx' hb => ⟨own_inE.1 (OwnR.frP' (own_inE.2 hx'.1) hk.1 (fun g hg hp => h.notQ hj (hb g hg) (hq g hp))), hx'.2⟩
  exact ⟨hk2 _ _ hv.1 (fun g hg => .inl hg), hk2 _ _ hv.2.1 (fun g hg => .inr (.inl hg)), hk2 _ _ hv.2.2 (fun g hg => .inr (.inr hg))⟩
theorem CqS.form (h : CqS w wr sb st hx vs qs L) : ∃ A c, hx = .slice A qs.length c := by
  rcases h.x.2 with ⟨rfl, hn⟩ | ⟨g, cap, cur, rfl, _⟩
  · exact ⟨none, 0, by rw [← h.len, hn]⟩
  · exact ⟨_, cap, by rw [h.len]⟩
/-- A version, as it lies. -/
theorem CqS.at (h : CqS w wr sb st hx vs qs L) {j : Nat} (hj : j < qs.length) (hl : (qs.getD j Co.vr0).V.length = (qs.getD j Co.vr0).K.length ∧ (qs.getD j Co.vr0).M.length = (qs.getD j Co.vr0).K.length) : ∃ gx cx A0 c0 A1 c1 A2 c2, hx = .slice (some ⟨gx, 0, none⟩) qs.length cx ∧
    (∃ hv : j < vs.length, vs[j] = (⟨A0, (qs.getD j Co.vr0).K.length, c0⟩, ⟨A1, (qs.getD j Co.vr0).K.length, c1⟩, ⟨A2, (qs.getD j Co.vr0).K.length, c2⟩)) ∧
    (∀ W, (W.heap[gx]? = wr.heap[gx]?) → (W.cell? ⟨gx, j * 3, none⟩ = some (.slice A0 (qs.getD j Co.vr0).K.length c0) ∧ W.cell? ⟨gx, j * 3 + 1, none⟩ = some (.slice A1 (qs.getD j Co.vr0).K.length c1) ∧ W.cell? ⟨gx, j * 3 + 2, none⟩ = some (.slice A2 (qs.getD j Co.vr0).K.length c2)) ∧ (loadVar 27 ⟨gx, j * 3, none⟩).run Tryd.prog W = .ok (.agg #[.slice A0 (qs.getD j Co.vr0).K.length c0, .slice A1 (qs.getD j Co.vr0).K.length c1, .slice A2 (qs.getD j Co.vr0).K.length c2]) W) ∧ hx.ownBlock = some gx ∧ gx < wr.heap.size := by
  have hv : j < vs.length := by rw [h.len]; exact hj
  obtain ⟨r0, r1, r2⟩ := h.row j hv
  obtain ⟨A0, c0, e0⟩ := r0.1.form0
  obtain ⟨A1, c1, e1⟩ := r1.1.form0
  obtain ⟨A2, c2, e2⟩ := r2.1.form0
  rw [hl.1] at e1
  rw [hl.2] at e2
  rcases h.x.2 with ⟨rfl, hn⟩ | ⟨g, cap, cur, rfl, hb, hg, hc, hm, hs, ht⟩
  · omega
  · have hsz : j * 3 + 2 < cur.size := by
      have h1 : cur.size = cap * 3 := hs
      omega
    have hcell : ∀ r (hr : r < 3), cur[j * 3 + r]? = (vrE.enc vs[j])[r]? := fun r hr => by
      have h5 := vrE.cells_get vs j r hv hr
      rw [← ht, List.getElem?_take] at h5
      rw [show j * vrE.k + r = j * 3 + r from rfl] at h5
      split at h5
      · rw [← h5]; simp
      · rename_i hno
        exfalso
        have : vs.length * vrE.k = vs.length * 3 := rfl
        omega
    have k0 := hcell 0 (by decide)
    have k1 := hcell 1 (by decide)
    have k2 := hcell 2 (by decide)
    simp only [vrE, List.getElem?_cons_zero, List.getElem?_cons_succ, e0, e1, e2, Nat.add_zero] at k0 k1 k2
    refine ⟨g, cap, A0, c0, A1, c1, A2, c2, by rw [h.len], ⟨hv, ?_⟩, fun W hW => ?_, rfl, lt_of_heap hg⟩
    · refine Prod.ext ?_ (Prod.ext ?_ ?_)
      · have : vs[j].1.val = SlV.val ⟨A0, (qs.getD j Co.vr0).K.length, c0⟩ := e0
        unfold SlV.val at this
        injection this with i1 i2 i3
        cases hh : vs[j].1
        simp_all
      · have : vs[j].2.1.val = SlV.val ⟨A1, (qs.getD j Co.vr0).K.length, c1⟩ := e1
        unfold SlV.val at this
        injection this with i1 i2 i3
        cases hh : vs[j].2.1
        simp_all
      · have : vs[j].2.2.val = SlV.val ⟨A2, (qs.getD j Co.vr0).K.length, c2⟩ := e2
        unfold SlV.val at this
        injection this with i1 i2 i3
        cases hh : vs[j].2.2
        simp_all
    · have hgW := hW.trans hg
      refine ⟨⟨?_, ?_, ?_⟩, ?_⟩
      · rw [cell_of_row _ _ _ _ _ _ hgW]; exact k0
      · rw [cell_of_row _ _ _ _ _ _ hgW]; exact k1
      · rw [cell_of_row _ _ _ _ _ _ hgW]; exact k2
      · have hrl := run_load_part (P := Tryd.prog) W g (j * 3) 3 _ 27 _ _ _ hgW Tryd.underlying27 rfl (by kernel_rfl) (by omega)
        rw [hrl, drop_take3 (by simpa using k0) (by simpa using k1) (by simpa using k2)]
        simp only [List.getD_eq_getElem?_getD]
end
end Go.Proofs.YtokbhiokcoldbaaDoor
