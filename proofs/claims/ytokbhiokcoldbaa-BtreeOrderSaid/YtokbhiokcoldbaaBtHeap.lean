/- A tree of keys in memory: nodes, each in its block, with a row of keys and a row of kids. -/
import Derived.Test.YtokbhiokcoldbaaBsI
import Derived.Test.YtokbhiokcoldbaaCloneI
import Derived.Test.YtokbhiokcoldbaaCloneP
import Derived.Test.YtokbhiokcoldbaaFrP
namespace Go.Proofs.Ytokbhiokcoldbaa
open Go.RowKit

section
variable {α β : Type} {E : Enc α} {F : Enc β} {w : World} {B C e f : Nat} {u v : Value} {l : List α} {m : List β}
theorem own_ne_block {b : Nat} {cur : Array Value} {t : TypeId} {fr : Nat × Nat} (h : OwnR E w B e v l) (hg : w.heap[b]? = some (.cells cur t fr)) (hne : e ≠ t) : v.ownBlock ≠ some b := by
  rcases h.2 with ⟨rfl, _⟩ | ⟨g, cap, cur', rfl, _, hg', _⟩
  · intro e; cases e
  · intro he
    have he : g = b := by simpa [Value.ownBlock] using he
    subst he
    rw [hg] at hg'
    injection hg' with hg'
    injection hg' with _ hg' _
    exact hne hg'.symm
theorem own_ne_own (h : OwnR E w B e u l) (k : OwnR F w C f v m) (hne : e ≠ f) : ∀ g, u.ownBlock = some g → v.ownBlock ≠ some g := fun g hg => by
  rcases h.2 with ⟨rfl, _⟩ | ⟨g', cap, cur, rfl, _, hg', _⟩
  · cases hg
  · have he : g' = g := by simpa [Value.ownBlock] using hg
    subst he
    exact own_ne_block k hg' (Ne.symm hne)
theorem OwnR.frP' {P : Nat → Prop} {w' : World} (h : OwnR E w B e v l) (hf : FrP P w w') (hn : ∀ g, v.ownBlock = some g → ¬ P g) : OwnR E w' B e v l := by
  obtain ⟨h1, h2⟩ := h
  refine ⟨h1, ?_⟩
  rcases h2 with h2 | ⟨g, cap, cur, e0, hb, hg, r⟩
  · exact .inl h2
  · exact .inr ⟨g, cap, cur, e0, hb, (hf.block g (lt_of_heap hg) (hn g (by rw [e0]; rfl))).trans hg, r⟩
theorem OwnR.form' (h : OwnR E w B e v l) : ∃ A c, v = .slice A l.length c ∧ l.length ≤ c ∧ c ≤ maxLen ∧ ((A = none ∧ c = 0 ∧ l = []) ∨ ∃ g, A = some ⟨g, 0, none⟩) := by
  rcases h.2 with ⟨rfl, hn⟩ | ⟨g, cap, cur, rfl, _, _, hc, hm, _⟩
  · exact ⟨none, 0, by rw [hn], by omega, Nat.zero_le _, .inl ⟨rfl, rfl, List.eq_nil_of_length_eq_zero hn⟩⟩
  · exact ⟨_, cap, rfl, hc, hm, .inr ⟨g, rfl⟩⟩
theorem OwnR.base' (h : OwnR E w B e v l) : OwnR E w 0 e v l := by
  obtain ⟨h1, h2⟩ := h
  refine ⟨h1, ?_⟩
  rcases h2 with h2 | ⟨g, cap, cur, e0, hb, r⟩
  · exact .inl h2
  · exact .inr ⟨g, cap, cur, e0, Nat.zero_le _, r⟩
end
def obl (v : Value) : List Nat := v.ownBlock.toList
theorem mem_obl {v : Value} {x : Nat} : x ∈ obl v ↔ v.ownBlock = some x := by unfold obl; simp
/-- A kid: its block, the tree, the blocks of it. -/
abbrev Kd (d : Nat) := Nat × Bt.T d × List Nat
/-- Block b holds a tree of depth d; F are its blocks. -/
def Nd : (d : Nat) → World → Nat → Bt.T d → List Nat → Prop
  | 0, w, b, t, F => ∃ vk, w.heap[b]? = some (.cells #[vk, .slice none 0 0] 63 (0, 0)) ∧ OwnR inE w 0 3 vk t ∧ F = b :: obl vk
  | d + 1, w, b, t, F => ∃ vk vc, ∃ K : List (Kd d), w.heap[b]? = some (.cells #[vk, vc] 63 (0, 0)) ∧ OwnR inE w 0 3 vk t.1 ∧ OwnR pbE w 0 58 vc (K.map (·.1)) ∧ t.2 = K.map (·.2.1) ∧
      (∀ p ∈ K, Nd d w p.1 p.2.1 p.2.2) ∧ F = b :: (obl vk ++ obl vc ++ (K.map (·.2.2)).flatten)
theorem Nd.lt : ∀ {d : Nat} {w : World} {b : Nat} {t : Bt.T d} {F : List Nat}, Nd d w b t F → ∀ x ∈ F, x < w.heap.size
  | 0, w, b, t, F, h, x, hx => by
    obtain ⟨vk, h1, h2, rfl⟩ := h
    rcases List.mem_cons.1 hx with rfl | hx
    · exact lt_of_heap h1
    · exact (h2.ge x (mem_obl.1 hx)).2
  | d + 1, w, b, t, F, h, x, hx => by
    obtain ⟨vk, vc, K, h1, h2, h3, h4, h5, rfl⟩ := h
    rcases List.mem_cons.1 hx with rfl | hx
    · exact lt_of_heap h1
    · simp only [List.mem_append, List.mem_flatten, List.mem_map] at hx
      rcases hx with (hx | hx) | ⟨_, ⟨p, hp, rfl⟩, hx⟩
      · exact (h2.ge x (mem_obl.1 hx)).2
      · exact (h3.ge x (mem_obl.1 hx)).2
      · exact Nd.lt (h5 p hp) x hx
theorem Nd.frP : ∀ {d : Nat} {w w' : World} {b : Nat} {t : Bt.T d} {F : List Nat} {P : Nat → Prop}, Nd d w b t F → FrP P w w' → (∀ x ∈ F, ¬ P x) → Nd d w' b t F
  | 0, w, w', b, t, F, P, h, hf, hn => by
    obtain ⟨vk, h1, h2, rfl⟩ := h
    exact ⟨vk, (hf.block b (lt_of_heap h1) (hn b (by simp))).trans h1, h2.frP' hf (fun g hg => hn g (by simp [mem_obl.2 hg])), rfl⟩
  | d + 1, w, w', b, t, F, P, h, hf, hn => by
    obtain ⟨vk, vc, K, h1, h2, h3, h4, h5, rfl⟩ := h
    refine ⟨vk, vc, K, (hf.block b (lt_of_heap h1) (hn b (by simp))).trans h1, h2.frP' hf (fun g hg => hn g (by simp [mem_obl.2 hg])), h3.frP' hf (fun g hg => hn g (by simp [mem_obl.2 hg])), h4, fun p hp => ?_, rfl⟩
    refine Nd.frP (h5 p hp) hf (fun x hx => hn x ?_)
    simp only [List.mem_cons, List.mem_append, List.mem_flatten, List.mem_map]
    exact .inr (.inr ⟨_, ⟨p, hp, rfl⟩, hx⟩)
theorem Nd.fr {d : Nat} {w w' : World} {b : Nat} {t : Bt.T d} {F : List Nat} {S : List Nat} (h : Nd d w b t F) (hf : Fr S w w') (hn : ∀ x ∈ S, x ∉ F) : Nd d w' b t F :=
  h.frP (P := (· ∈ S)) ((FrP.refl _ w).step hf (fun x hx => .inl hx)) (fun x hx hq => hn x hq hx)
theorem Nd.keep {d : Nat} {w w' : World} {b : Nat} {t : Bt.T d} {F : List Nat} (h : Nd d w b t F) (hf : Fr [] w w') : Nd d w' b t F := h.fr hf (by simp)
/-- What the node's own block holds: its keys. -/
theorem Nd.keys : ∀ {d : Nat} {w : World} {b : Nat} {t : Bt.T d} {F : List Nat}, Nd d w b t F → ∃ vk vc, w.heap[b]? = some (.cells #[vk, vc] 63 (0, 0)) ∧ OwnR inE w 0 3 vk (Bt.ks d t)
  | 0, _, _, _, _, ⟨vk, h1, h2, _⟩ => ⟨vk, _, h1, h2⟩
  | _ + 1, _, _, _, _, ⟨vk, vc, _, h1, h2, _⟩ => ⟨vk, vc, h1, h2⟩
theorem nd_cells {w : World} {b : Nat} {x y : Value} (h : w.heap[b]? = some (.cells #[x, y] 63 (0, 0))) : w.cell? ⟨b, 0, none⟩ = some x ∧ w.cell? ⟨b, 1, none⟩ = some y ∧ ∀ i, w.frozen? ⟨b, i, none⟩ = false :=
  ⟨by rw [cell_of_row w b _ _ _ _ h]; rfl, by rw [cell_of_row w b _ _ _ _ h]; rfl, fun i => free_block h i none⟩
/-- The cells of a row that the call owns, one an element. -/
theorem own_cellP {w : World} {B e : Nat} {v : Value} {l : List Nat} (h : OwnR pbE w B e v l) (h0 : 0 < l.length) : ∃ g c, v = .slice (some ⟨g, 0, none⟩) l.length c ∧ l.length ≤ c ∧ c ≤ maxLen ∧ ∀ i (hi : i < l.length), w.cell? ⟨g, i, none⟩ = some (.pointer (some ⟨l[i], 0, none⟩)) := by
  rcases h.2 with ⟨rfl, hn⟩ | ⟨g, cap, cur, rfl, hb, hg, hc, hm, hs, ht⟩
  · omega
  · refine ⟨g, cap, rfl, hc, hm, fun i hi => ?_⟩
    rw [cell_of_row w g i cur e _ hg]
    have h1 := pbE.cells_get l i 0 hi (by decide)
    rw [← ht, List.getElem?_take] at h1
    rw [show i * pbE.k + 0 = i from by show i * 1 + 0 = i; omega] at h1
    split at h1
    · simpa [pbE] using h1
    · simp [pbE] at h1
theorem own_cellI {w : World} {B e : Nat} {v : Value} {l : List Int} (h : OwnR inE w B e v l) (h0 : 0 < l.length) : ∃ g c, v = .slice (some ⟨g, 0, none⟩) l.length c ∧ l.length ≤ c ∧ c ≤ maxLen ∧ ∀ i (hi : i < l.length), w.cell? ⟨g, i, none⟩ = some (.int .i64 l[i]) := by
  rcases h.2 with ⟨rfl, hn⟩ | ⟨g, cap, cur, rfl, hb, hg, hc, hm, hs, ht⟩
  · omega
  · refine ⟨g, cap, rfl, hc, hm, fun i hi => ?_⟩
    rw [cell_of_row w g i cur e _ hg]
    have h1 := inE.cells_get l i 0 hi (by decide)
    rw [← ht, List.getElem?_take] at h1
    rw [show i * inE.k + 0 = i from by show i * 1 + 0 = i; omega] at h1
    split at h1
    · simpa [inE] using h1
    · simp [inE] at h1
end Go.Proofs.Ytokbhiokcoldbaa
