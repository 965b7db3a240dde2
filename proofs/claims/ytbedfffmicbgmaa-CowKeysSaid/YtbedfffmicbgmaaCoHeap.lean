/- A tree that never changes, in memory; the store of versions. -/
import Derived.Test.YtbedfffmicbgmaaCoPlain
import Derived.Test.YtbedfffmicbgmaaCommon
import Derived.Test.YtbedfffmicbgmaaEnc
import Derived.Test.YtbedfffmicbgmaaFrP
namespace Go.Proofs.Ytbedfffmicbgmaa
open Go.RowKit

/-- A pointer at a tree's root. -/
def Ct.ptr : Ct → Value
  | .nil => .pointer none
  | .node b _ _ _ _ => .pointer (some ⟨b, 0, none⟩)
/-- The tree lies in memory. -/
def CoIn (w : World) : Ct → Prop
  | .nil => True
  | .node b k v l r => w.heap[b]? = some (.cells #[.int .i64 k, .int .i64 v, l.ptr, r.ptr] 52 (0, 0)) ∧ CoIn w l ∧ CoIn w r
theorem Ct.ptr_form (T : Ct) : ∃ u, T.ptr = .pointer u := by cases T <;> exact ⟨_, rfl⟩
theorem CoIn.node_at {w : World} {b : Nat} : ∀ {T : Ct}, CoIn w T → b ∈ Co.blks T → ∃ cs, w.heap[b]? = some (.cells cs 52 (0, 0))
  | .nil, _, h => by simp [Co.blks, Co.nodes] at h
  | .node b' k v l r, ⟨h1, h2, h3⟩, h => by
    rw [Co.blks_node, List.mem_append, List.mem_cons] at h
    rcases h with h | rfl | h
    · exact h2.node_at h
    · exact ⟨_, h1⟩
    · exact h3.node_at h
theorem CoIn.keep {w w' : World} : ∀ {T : Ct}, CoIn w T → (∀ b ∈ Co.blks T, w'.heap[b]? = w.heap[b]?) → CoIn w' T
  | .nil, _, _ => trivial
  | .node b k v l r, ⟨h1, h2, h3⟩, h => by
    rw [Co.blks_node] at h
    exact ⟨(h b (by simp)).trans h1, h2.keep (fun x hx => h x (by simp [hx])), h3.keep (fun x hx => h x (by simp [hx]))⟩
theorem CoIn.fr {S : List Nat} {w w' : World} {T : Ct} (h : CoIn w T) (hf : Fr S w w') (hS : ∀ b ∈ S, b ∉ Co.blks T) : CoIn w' T := h.keep fun b hb => by
  obtain ⟨cs, hc⟩ := h.node_at hb
  exact hf.block b (lt_of_heap hc) (fun hm => hS b hm hb)
theorem CoIn.step {w w' : World} {T : Ct} (h : CoIn w T) (hf : Fr [] w w') : CoIn w' T := h.fr hf (by simp)
theorem CoIn.lt {w : World} {T : Ct} (h : CoIn w T) {b : Nat} (hb : b ∈ Co.blks T) : b < w.heap.size := by
  obtain ⟨cs, hc⟩ := h.node_at hb
  exact lt_of_heap hc
/-- A pointer to a tree as an element of a row. -/
def ptE : Enc Ct where
  k := 1
  enc := fun T => [T.ptr]
  len := fun _ => rfl
  one := fun T v hv => by simp only [List.mem_singleton] at hv; subst hv; obtain ⟨u, hu⟩ := T.ptr_form; rw [hu]; rfl
  pos := by decide
/-- Block sb holds a store of the versions st; the row lies in a block from B on. -/
structure CoS (B : Nat) (w : World) (sb : Nat) (st : List Ct) : Prop where
  ge : B ≤ sb
  main : ∃ A g c, w.heap[sb]? = some (.cells #[.slice (some ⟨g, 0, none⟩) st.length c] 48 (0, 0)) ∧ A = Value.slice (some ⟨g, 0, none⟩) st.length c ∧ OwnR ptE w B 41 A st
  ins : ∀ T ∈ st, CoIn w T
  ok : Co.OK st w.heap.size
/-- Block k is the store's own: its first one, or its row's. -/
def CoF (w : World) (sb k : Nat) : Prop := k = sb ∨ ∃ v, w.cell? ⟨sb, 0, none⟩ = some v ∧ v.ownBlock = some k
section
variable {B : Nat} {w w' : World} {sb : Nat} {st : List Ct}
/-- The row's block and what lies in it. -/
theorem CoS.row (h : CoS B w sb st) : ∃ g c cur, w.heap[sb]? = some (.cells #[.slice (some ⟨g, 0, none⟩) st.length c] 48 (0, 0)) ∧ w.heap[g]? = some (.cells cur 41 (0, 0)) ∧ OwnR ptE w B 41 (.slice (some ⟨g, 0, none⟩) st.length c) st ∧
    g ≠ sb ∧ B ≤ g ∧ (∀ i (hi : i < st.length), w.cell? ⟨g, i, none⟩ = some st[i].ptr) := by
  obtain ⟨A, g, c, h1, rfl, h2⟩ := h.main
  have h2' := h2
  obtain ⟨h3, h4⟩ := h2
  have hl := h.ok.len.1
  rcases h4 with ⟨he, hn⟩ | ⟨g', cap, cur, he, hb, hg, hc, hm, hs, ht⟩
  · cases he
  · injection he with he1 he2 he3
    injection he1 with he1
    injection he1 with he1 _ _
    subst he1 he3
    refine ⟨g, c, cur, h1, hg, h2', fun e => ?_, hb, fun i hi => ?_⟩
    · subst e
      rw [h1] at hg
      injection hg with hg
      injection hg with _ hg _
      exact absurd hg (by decide)
    · obtain ⟨gs, _, hsl⟩ := h2'.sl
      rcases hsl with ⟨e0, _⟩ | ⟨o, c', e0, _, _, hcell⟩
      · rw [e0] at hi; simp at hi
      · injection e0 with e1 _ _
        injection e1 with e1
        injection e1 with e1 e2 _
        subst e1 e2
        have := hcell i hi 0 (by decide)
        simpa [ptE] using this
theorem CoS.footLt (h : CoS B w sb st) : ∀ k, CoF w sb k → k < w.heap.size := by
  obtain ⟨g, c, cur, h1, h2, -⟩ := h.row
  rintro k (rfl | ⟨v, hv, hk⟩)
  · exact lt_of_heap h1
  · rw [cell_of_row w sb 0 _ _ _ h1] at hv
    simp at hv
    subst hv
    simp [Value.ownBlock] at hk
    subst hk
    exact lt_of_heap h2
theorem CoS.footGe (h : CoS B w sb st) : ∀ k, CoF w sb k → B ≤ k := by
  obtain ⟨g, c, cur, h1, h2, -, -, h5, -⟩ := h.row
  rintro k (rfl | ⟨v, hv, hk⟩)
  · exact h.ge
  · rw [cell_of_row w sb 0 _ _ _ h1] at hv
    simp at hv
    subst hv
    simp [Value.ownBlock] at hk
    subst hk
    exact h5
/-- The store's own blocks hold no node. -/
theorem CoS.apart (h : CoS B w sb st) {T : Ct} (hT : CoIn w T) : ∀ k, CoF w sb k → k ∉ Co.blks T := by
  obtain ⟨g, c, cur, h1, h2, -⟩ := h.row
  rintro k (rfl | ⟨v, hv, hk⟩) hb
  · obtain ⟨cs, hc⟩ := hT.node_at hb
    rw [h1] at hc
    injection hc with hc
    injection hc with _ hc _
    exact absurd hc (by decide)
  · rw [cell_of_row w sb 0 _ _ _ h1] at hv
    simp at hv
    subst hv
    simp [Value.ownBlock] at hk
    subst hk
    obtain ⟨cs, hc⟩ := hT.node_at hb
    rw [h2] at hc
    injection hc with hc
    injection hc with _ hc _
    exact absurd hc (by decide)
theorem CoS.step (h : CoS B w sb st) (hf : Fr [] w w') : CoS B w' sb st := by
  obtain ⟨A, g, c, h1, h2, h3⟩ := h.main
  exact ⟨h.ge, ⟨A, g, c, hf.get h1 (by simp), h2, h3.kept hf (by simp)⟩, fun T hT => (h.ins T hT).step hf, h.ok.mono hf.size⟩
theorem CoS.footFr (h : CoS B w sb st) (hf : Fr [] w w') : ∀ k, CoF w' sb k → CoF w sb k := by
  obtain ⟨A, g, c, h1, h2, h3⟩ := h.main
  rintro k (rfl | ⟨v, hv, hk⟩)
  · exact .inl rfl
  · refine .inr ⟨v, ?_, hk⟩
    rw [cell_of_row _ sb 0 _ _ _ (hf.get h1 (by simp))] at hv
    rw [cell_of_row w sb 0 _ _ _ h1]
    exact hv
/-- Nothing but the store's own blocks has turned, and those are its own, or new. -/
def CoK (sb : Nat) (w w' : World) : Prop := FrP (CoF w sb) w w' ∧ ∀ k, CoF w' sb k → CoF w sb k ∨ w.heap.size ≤ k
theorem CoK.of_fr (h : CoS B w sb st) (hf : Fr [] w w') : CoK sb w w' := ⟨(FrP.refl _ _).step hf (by simp), fun k hk => .inl (h.footFr hf k hk)⟩
theorem CoK.trans {w2 : World} (h : CoK sb w w') (k : CoK sb w' w2) : CoK sb w w2 :=
  ⟨h.1.trans k.1 (fun x hx => h.2 x hx), fun x hx => (k.2 x hx).elim (fun hx => h.2 x hx) (fun hx => .inr (Nat.le_trans h.1.size hx))⟩
theorem CoK.fr (h : CoK sb w w') (hS : CoS B w sb st) {a : World} (h0 : Fr [] a w) (hB : a.heap.size ≤ B) : Fr [] a w' := FrP.fr h0 h.1 (fun k hk => Nat.le_trans hB (hS.footGe k hk))
end
end Go.Proofs.Ytbedfffmicbgmaa
