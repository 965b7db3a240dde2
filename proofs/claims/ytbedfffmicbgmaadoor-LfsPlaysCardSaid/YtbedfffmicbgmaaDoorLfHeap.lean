/- A log of segments in memory: rows of blocks (two cells each), the disk's own block. -/
import Derived.Test.YtbedfffmicbgmaaDoorCommon
import Derived.Test.YtbedfffmicbgmaaDoorLfPlain
namespace Go.Proofs.YtbedfffmicbgmaaDoor
open Go.RowKit

/-- Pairs of integers as cells. -/
def prs (l : List (Int × Int)) : List Value := l.flatMap fun b => [Value.int .i64 b.1, Value.int .i64 b.2]
theorem prs_len (l : List (Int × Int)) : (prs l).length = l.length * 2 := by
  induction l with
  | nil => rfl
  | cons a l ih => simp [prs] at ih ⊢; omega
theorem prs_append (l m : List (Int × Int)) : prs (l ++ m) = prs l ++ prs m := by simp [prs]
theorem prs_get (l : List (Int × Int)) : ∀ i, i < l.length → (prs l)[i * 2]? = some (.int .i64 (l.getD i (0, 0)).1) ∧ (prs l)[i * 2 + 1]? = some (.int .i64 (l.getD i (0, 0)).2) := by
  induction l with
  | nil => intro i h; simp at h
  | cons a l ih =>
    intro i h
    cases i with
    | zero => simp [prs]
    | succ i =>
      have := ih i (by simpa using h)
      have e : prs (a :: l) = .int .i64 a.1 :: .int .i64 a.2 :: prs l := rfl
      rw [e, show (i + 1) * 2 = i * 2 + 1 + 1 by omega]
      simpa using this
/-- What the call owns as a row of pairs that grows. -/
def Own2 (w : World) (B e : Nat) (v : Value) (l : List (Int × Int)) : Prop := w.ownsRow B e 2 v l.length (prs l)
theorem Own2.nil (w : World) (B e : Nat) : Own2 w B e (.slice none 0 0) [] := World.ownsRow_nil w B e 2
theorem Own2.kept {w w' : World} {B e : Nat} {v : Value} {l : List (Int × Int)} {S : List Nat} (h : Own2 w B e v l) (hf : Fr S w w') (hS : ∀ g ∈ S, v.ownBlock ≠ some g) : Own2 w' B e v l := by
  obtain ⟨h1, h2⟩ := h
  refine ⟨h1, ?_⟩
  rcases h2 with h2 | ⟨g, cap, cur, rfl, hb, hg, r⟩
  · exact .inl h2
  · exact .inr ⟨g, cap, cur, rfl, hb, hf.get hg (fun hm => hS g hm rfl), r⟩
/-- Its form: length, address, cells. -/
theorem Own2.form {w : World} {B e : Nat} {v : Value} {l : List (Int × Int)} (h : Own2 w B e v l) :
    ∃ (A : Option Addr) (g c : Nat), v = .slice A l.length c ∧ (0 < l.length → A = some ⟨g, 0, none⟩) ∧ (∀ i, i < l.length → w.cell? ⟨g, i * 2, none⟩ = some (.int .i64 (l.getD i (0, 0)).1) ∧ w.cell? ⟨g, i * 2 + 1, none⟩ = some (.int .i64 (l.getD i (0, 0)).2)) := by
  obtain ⟨h1, h2⟩ := h
  rcases h2 with ⟨rfl, hn⟩ | ⟨g, cap, cur, rfl, hb, hg, hc, hm, hs, ht⟩
  · exact ⟨none, 0, 0, by rw [hn], fun h => absurd h (by omega), fun i hi => absurd hi (by omega)⟩
  · refine ⟨_, g, cap, rfl, fun _ => rfl, fun i hi => ?_⟩
    have k : ∀ j, j < l.length * 2 → w.cell? ⟨g, j, none⟩ = (prs l)[j]? := fun j hj => by
      rw [cell_of_row w g j cur e _ hg, ← ht, List.getElem?_take, if_pos (by omega)]
      simp
    rw [k _ (by omega), k _ (by omega)]
    exact prs_get l i hi

/-- The cells of a spot. -/
def spotCells (x : Int × Int × Bool) : List Value := [Value.int .i64 x.1, Value.int .i64 x.2.1, Value.bool x.2.2]
/-- The disk's own block: six slices, eight spots, the head. -/
def lfRow (vs : List Value) (d : Lf.D) : Array Value := (vs ++ d.pages.flatMap spotCells ++ [Value.int .i64 (d.head : Int)]).toArray
/-- Block b holds the disk d; its segments lie in blocks from B on, each one's own. -/
structure LfD (B : Nat) (w : World) (b : Nat) (d : Lf.D) : Prop where
  ge : B ≤ b
  main : ∃ vs : List Value, vs.length = 6 ∧ w.heap[b]? = some (.cells (lfRow vs d) 67 (0, 0)) ∧
    (∀ i, i < 6 → Own2 w B 72 (vs.getD i undef) (Lf.seg d i) ∧ (vs.getD i undef).ownBlock ≠ some b) ∧
    (∀ i j, i < 6 → j < 6 → i ≠ j → ∀ g, (vs.getD i undef).ownBlock = some g → (vs.getD j undef).ownBlock ≠ some g)

theorem spots_len (l : List (Int × Int × Bool)) : (l.flatMap spotCells).length = l.length * 3 := by
  induction l with
  | nil => rfl
  | cons a l ih => simp [spotCells] at ih ⊢; omega
theorem spots_get (l : List (Int × Int × Bool)) : ∀ p, p < l.length → (l.flatMap spotCells)[p * 3]? = some (.int .i64 (l.getD p (0, 0, false)).1) ∧ (l.flatMap spotCells)[p * 3 + 1]? = some (.int .i64 (l.getD p (0, 0, false)).2.1) ∧ (l.flatMap spotCells)[p * 3 + 2]? = some (.bool (l.getD p (0, 0, false)).2.2) := by
  induction l with
  | nil => intro p h; simp at h
  | cons a l ih =>
    intro p h
    cases p with
    | zero => simp [spotCells]
    | succ p =>
      have := ih p (by simpa using h)
      have e : (a :: l).flatMap spotCells = .int .i64 a.1 :: .int .i64 a.2.1 :: .bool a.2.2 :: l.flatMap spotCells := rfl
      rw [e, show (p + 1) * 3 = p * 3 + 1 + 1 + 1 by omega]
      simpa using this
theorem spots_set (l : List (Int × Int × Bool)) (x : Int × Int × Bool) : ∀ p, p < l.length → (l.flatMap spotCells).take (p * 3) ++ spotCells x ++ (l.flatMap spotCells).drop (p * 3 + 3) = (l.set p x).flatMap spotCells := by
  induction l with
  | nil => intro p h; simp at h
  | cons a l ih =>
    intro p h
    cases p with
    | zero => simp [spotCells]
    | succ p =>
      have := ih p (by simpa using h)
      have e : (a :: l).flatMap spotCells = .int .i64 a.1 :: .int .i64 a.2.1 :: .bool a.2.2 :: l.flatMap spotCells := rfl
      rw [e, show (p + 1) * 3 = p * 3 + 1 + 1 + 1 by omega]
      simp only [List.take_succ_cons, List.cons_append, List.set_cons_succ, List.flatMap_cons, ← this]
      simp [spotCells, show p * 3 + 1 + 1 + 1 + 3 = (p * 3 + 3) + 1 + 1 + 1 by omega]

section
variable {B : Nat} {w : World} {b : Nat} {d : Lf.D} {vs : List Value}
theorem lfRow_size (hv : vs.length = 6) (hp : d.pages.length = 8) : (lfRow vs d).size = 31 := by
  have hl := spots_len d.pages
  unfold lfRow
  rw [List.size_toArray, List.length_append, List.length_append, hl, hp, hv]; rfl
theorem lfRow_seg (hv : vs.length = 6) {i : Nat} (hi : i < 6) : (lfRow vs d)[i]? = some (vs.getD i undef) := by
  unfold lfRow
  rw [List.getElem?_toArray, List.append_assoc, List.getElem?_append_left (by omega), List.getElem?_eq_getElem (by omega), List.getD_eq_getElem?_getD, List.getElem?_eq_getElem (by omega)]; rfl
theorem lfRow_page (hv : vs.length = 6) (hp : d.pages.length = 8) {p : Nat} (hp8 : p < 8) :
    (lfRow vs d)[6 + p * 3]? = some (.int .i64 (Lf.pg d p).1) ∧ (lfRow vs d)[6 + p * 3 + 1]? = some (.int .i64 (Lf.pg d p).2.1) ∧ (lfRow vs d)[6 + p * 3 + 2]? = some (.bool (Lf.pg d p).2.2) := by
  have h := spots_get d.pages p (by omega)
  have hl := spots_len d.pages
  have k : ∀ j, j < 24 → (lfRow vs d)[6 + j]? = (d.pages.flatMap spotCells)[j]? := fun j hj => by
    unfold lfRow
    rw [List.getElem?_toArray, List.getElem?_append_left (by rw [List.length_append]; omega), List.getElem?_append_right (by omega), hv, Nat.add_sub_cancel_left]
  rw [k _ (by omega), show 6 + p * 3 + 1 = 6 + (p * 3 + 1) by omega, show 6 + p * 3 + 2 = 6 + (p * 3 + 2) by omega, k _ (by omega), k _ (by omega)]
  exact h
theorem lfRow_head (hv : vs.length = 6) (hp : d.pages.length = 8) : (lfRow vs d)[30]? = some (.int .i64 (d.head : Int)) := by
  have hl := spots_len d.pages
  unfold lfRow
  rw [List.getElem?_toArray, List.getElem?_append_right (by rw [List.length_append]; omega), List.length_append, hl, hv, hp]; rfl
end
/-- Block k is the disk's own: its first one, or a segment's. -/
def Foot (w : World) (b k : Nat) : Prop := k = b ∨ ∃ i v, i < 6 ∧ w.cell? ⟨b, i, none⟩ = some v ∧ v.ownBlock = some k
/-- What is not the disk's own stays; what is the disk's own was it before, or is new. -/
def Keeps (b : Nat) (w w' : World) : Prop := (∀ k, k < w.heap.size → ¬ Foot w b k → w'.heap[k]? = w.heap[k]?) ∧ ∀ k, Foot w' b k → Foot w b k ∨ w.heap.size ≤ k
theorem Keeps.refl (b : Nat) (w : World) : Keeps b w w := ⟨fun _ _ _ => rfl, fun _ h => .inl h⟩
theorem Keeps.trans {b : Nat} {w w' w2 : World} (h : Keeps b w w') (k : Keeps b w' w2) (hs : w.heap.size ≤ w'.heap.size) : Keeps b w w2 :=
  ⟨fun i hi hn => (k.1 i (by omega) (fun hf => (h.2 i hf).elim hn (by omega))).trans (h.1 i hi hn), fun i hi => (k.2 i hi).elim (fun h' => h.2 i h') (fun h' => .inr (by omega))⟩
end Go.Proofs.YtbedfffmicbgmaaDoor
