/- The plain model of a log of segments: what the functions of package lfs do, and what holds of it. No program in sight. -/
import Derived.Test.YtbedfffmicbgmaaDoorBase
namespace Go.Proofs.YtbedfffmicbgmaaDoor.Lf

abbrev Blk := Int × Int
structure D where
  segs : List (List Blk)
  pages : List (Int × Int × Bool)
  head : Nat

def seg (d : D) (i : Nat) : List Blk := d.segs.getD i []
def pg (d : D) (p : Nat) : Int × Int × Bool := d.pages.getD p (0, 0, false)
def isLive (d : D) (s a : Nat) (b : Blk) : Bool := decide (pg d b.1.toNat = ((s : Int), (a : Int), true))
def liveFrom (d : D) (s : Nat) : List Blk → Nat → List Blk
  | [], _ => []
  | b :: l, a => if isLive d s a b then b :: liveFrom d s l (a + 1) else liveFrom d s l (a + 1)
def live (d : D) (s : Nat) : List Blk := liveFrom d s (seg d s) 0
def emptyFrom (d : D) : Nat → Nat → Option Nat
  | 0, _ => none
  | n + 1, i => if (seg d i).length = 0 then some i else emptyFrom d n (i + 1)
def roomAt (d : D) : Option Nat := if (seg d d.head).length < 4 then some d.head else emptyFrom d 6 0
def down (d : D) (b : Blk) : D := ⟨d.segs.set d.head (seg d d.head ++ [b]), d.pages.set b.1.toNat ((d.head : Int), ((seg d d.head).length : Int), true), d.head⟩
def at_ (d : D) (h : Nat) : D := { d with head := h }
def put (d : D) (b : Blk) : D := down (at_ d ((roomAt d).getD d.head)) b
def okP (p v : Int) : Prop := (0 ≤ p ∧ p ≤ 7) ∧ (0 ≤ v ∧ v ≤ 1000)
instance (p v : Int) : Decidable (okP p v) := by unfold okP; infer_instance
def write (d : D) (p v : Int) : D × Int := if okP p v then (match roomAt d with | none => (d, 4) | some _ => (put d (p, v), 0)) else (d, 1)
/-- What a page holds. -/
def val (d : D) (p : Nat) : Int := if (pg d p).2.2 then ((seg d (pg d p).1.toNat).getD (pg d p).2.1.toNat (0, 0)).2 else 0
def bestStep (d : D) (b : Option Nat) (i : Nat) : Option Nat :=
  if i = d.head ∨ (seg d i).length = 0 then b else match b with
    | none => some i
    | some j => if (live d i).length < (live d j).length then some i else some j
def bestTo (d : D) : Nat → Option Nat
  | 0 => none
  | n + 1 => bestStep d (bestTo d n) n
def clean (d : D) : D × Int × Int := match bestTo d 6 with
  | none => (d, 0, 5)
  | some b => if (live d b).length = 4 then (d, 0, 7) else ((live d b).foldl put { d with segs := d.segs.set b [] }, b, 0)
def new : D := ⟨List.replicate 6 [], List.replicate 8 (0, 0, false), 0⟩

/-- What holds of a disk. -/
structure OK (d : D) : Prop where
  ns : d.segs.length = 6
  np : d.pages.length = 8
  nh : d.head < 6
  small : ∀ i, i < 6 → (seg d i).length ≤ 4
  blk : ∀ i, i < 6 → ∀ b ∈ seg d i, 0 ≤ b.1 ∧ b.1 ≤ 7
  pgs : ∀ p, p < 8 → (pg d p).2.2 = true → ∃ s a : Nat, s < 6 ∧ (pg d p).1 = s ∧ (pg d p).2.1 = a ∧ ∃ v, (seg d s)[a]? = some ((p : Int), v)

/-- The shape of a disk. -/
structure Shp (d : D) : Prop where
  ns : d.segs.length = 6
  np : d.pages.length = 8
  nh : d.head < 6
theorem OK.shp {d : D} (h : OK d) : Shp d := ⟨h.ns, h.np, h.nh⟩
theorem Shp.at_ {d : D} (h : Shp d) {k : Nat} (hk : k < 6) : Shp (at_ d k) := ⟨h.ns, h.np, hk⟩
theorem seg_set (d : D) (i j : Nat) (l : List Blk) (h : i < d.segs.length) (pgs : List (Int × Int × Bool)) (hd : Nat) : seg ⟨d.segs.set i l, pgs, hd⟩ j = if i = j then l else seg d j := by
  simp only [seg, List.getD_eq_getElem?_getD, List.getElem?_set]
  split
  · rename_i e; subst e; simp
  · rfl
theorem pg_set (d : D) (i j : Nat) (x : Int × Int × Bool) (h : i < d.pages.length) (sg : List (List Blk)) (hd : Nat) : pg ⟨sg, d.pages.set i x, hd⟩ j = if i = j then x else pg d j := by
  simp only [pg, List.getD_eq_getElem?_getD, List.getElem?_set]
  split
  · rename_i e; subst e; simp
  · rfl
theorem emptyFrom_some (d : D) : ∀ n i k, emptyFrom d n i = some k → i ≤ k ∧ k < i + n ∧ (seg d k).length = 0
  | 0, _, _, h => by simp [emptyFrom] at h
  | n + 1, i, k, h => by
    unfold emptyFrom at h
    split at h
    · rename_i hn
      injection h with h
      subst h
      exact ⟨Nat.le_refl _, by omega, hn⟩
    · obtain ⟨h1, h2, h3⟩ := emptyFrom_some d n (i + 1) k h
      exact ⟨by omega, by omega, h3⟩
theorem emptyFrom_none (d : D) : ∀ n i, emptyFrom d n i = none → ∀ k, i ≤ k → k < i + n → (seg d k).length ≠ 0
  | 0, _, _ => by omega
  | n + 1, i, h => by
    unfold emptyFrom at h
    split at h
    · cases h
    · rename_i hn
      intro k h1 h2
      by_cases e : k = i
      · subst e; exact hn
      · exact emptyFrom_none d n (i + 1) h k (by omega) (by omega)
theorem roomAt_lt {d : D} (h : OK d) {k : Nat} (hr : roomAt d = some k) : k < 6 ∧ (seg d k).length < 4 := by
  unfold roomAt at hr
  split at hr
  · rename_i hl
    injection hr with hr
    subst hr
    exact ⟨h.nh, hl⟩
  · obtain ⟨_, h2, h3⟩ := emptyFrom_some d 6 0 k hr
    exact ⟨by omega, by omega⟩

theorem new_ok : OK new := by
  have s0 : ∀ i, seg new i = [] := fun i => by
    simp only [seg, new, List.getD_eq_getElem?_getD, List.getElem?_replicate]; split <;> rfl
  have p0 : ∀ i, pg new i = (0, 0, false) := fun i => by
    simp only [pg, new, List.getD_eq_getElem?_getD, List.getElem?_replicate]; split <;> rfl
  exact ⟨rfl, rfl, by decide, fun i _ => by rw [s0]; simp, fun i _ b hb => by rw [s0] at hb; simp at hb, fun p _ h => by rw [p0] at h; cases h⟩

theorem at_ok {d : D} (h : OK d) {k : Nat} (hk : k < 6) : OK (at_ d k) := ⟨h.ns, h.np, hk, h.small, h.blk, h.pgs⟩
/-- A block behind the others of the head. -/
theorem down_ok {d : D} (h : OK d) (hr : (seg d d.head).length < 4) {b : Blk} (hb : 0 ≤ b.1 ∧ b.1 ≤ 7) : OK (down d b) := by
  have hh : d.head < d.segs.length := by rw [h.ns]; exact h.nh
  have hp : b.1.toNat < d.pages.length := by rw [h.np]; omega
  have S := fun j => seg_set d d.head j (seg d d.head ++ [b]) hh (d.pages.set b.1.toNat ((d.head : Int), ((seg d d.head).length : Int), true)) d.head
  have P := fun j => pg_set d b.1.toNat j ((d.head : Int), ((seg d d.head).length : Int), true) hp (d.segs.set d.head (seg d d.head ++ [b])) d.head
  refine ⟨by simp [down, h.ns], by simp [down, h.np], h.nh, fun i hi => ?_, fun i hi c hc => ?_, fun p hp8 ht => ?_⟩
  · unfold down; rw [S i]; split
    · simp; omega
    · exact h.small i hi
  · unfold down at hc; rw [S i] at hc; split at hc
    · rcases List.mem_append.1 hc with hc | hc
      · exact h.blk _ h.nh c hc
      · simp at hc; subst hc; exact hb
    · exact h.blk i hi c hc
  · unfold down at ht ⊢
    rw [P p] at ht ⊢
    by_cases e : b.1.toNat = p
    · rw [if_pos e]
      refine ⟨d.head, (seg d d.head).length, h.nh, rfl, rfl, b.2, ?_⟩
      rw [S, if_pos rfl]
      have : (p : Int) = b.1 := by omega
      rw [this]
      simp
    · rw [if_neg e] at ht ⊢
      obtain ⟨s, a, h1, h2, h3, v, h4⟩ := h.pgs p hp8 ht
      refine ⟨s, a, h1, h2, h3, v, ?_⟩
      rw [S]
      split
      · rename_i e2
        subst e2
        rw [List.getElem?_append_left (List.getElem?_eq_some_iff.1 h4).1]
        exact h4
      · exact h4
/-- What the pages hold then. -/
theorem down_val {d : D} (h : OK d) {b : Blk} (hb : 0 ≤ b.1 ∧ b.1 ≤ 7) {p : Nat} (hp8 : p < 8) : val (down d b) p = if b.1.toNat = p then b.2 else val d p := by
  have hh : d.head < d.segs.length := by rw [h.ns]; exact h.nh
  have hp : b.1.toNat < d.pages.length := by rw [h.np]; omega
  have S := fun j => seg_set d d.head j (seg d d.head ++ [b]) hh (d.pages.set b.1.toNat ((d.head : Int), ((seg d d.head).length : Int), true)) d.head
  have P := fun j => pg_set d b.1.toNat j ((d.head : Int), ((seg d d.head).length : Int), true) hp (d.segs.set d.head (seg d d.head ++ [b])) d.head
  unfold val down
  rw [P p]
  by_cases e : b.1.toNat = p
  · rw [if_pos e, if_pos e]
    simp only [if_true, Int.toNat_natCast]
    rw [S, if_pos rfl]
    simp [List.getD]
  · rw [if_neg e, if_neg e]
    by_cases ht : (pg d p).2.2 = true
    · obtain ⟨s, a, h1, h2, h3, v, h4⟩ := h.pgs p hp8 ht
      rw [if_pos ht, if_pos ht, h2, h3, Int.toNat_natCast, Int.toNat_natCast, S]
      split
      · rename_i e2
        subst e2
        simp only [List.getD_eq_getElem?_getD]
        rw [List.getElem?_append_left (List.getElem?_eq_some_iff.1 h4).1]
      · rfl
    · rw [if_neg ht, if_neg ht]
end Go.Proofs.YtbedfffmicbgmaaDoor.Lf
