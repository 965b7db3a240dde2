/- The document's log of segments: what its functions do, and that a disk of package lfs does the same. No program in sight. -/
import Derived.Test.YtbedfffmicbgmaaDoorLfPlain2
import Derived.Test.YtbedfffmicbgmaaDoorSoPlain
namespace Go.Proofs.YtbedfffmicbgmaaDoor.Lx
open Lf (seg pg roomAt emptyFrom)

/-- All that was written, in order; how many blocks of each segment are written; the head. -/
structure X where
  sg : List Int
  at_ : List Int
  page : List Int
  value : List Int
  many : List Int
  head : Nat

def lastTo (ps : List Int) (p : Int) : Nat → Int
  | 0 => -1
  | n + 1 => if nth ps n = p then (n : Int) else lastTo ps p n
def last (x : X) (p : Int) : Int := lastTo x.page p x.page.length
def liveTo (x : X) (s : Int) : Nat → List Nat
  | 0 => []
  | n + 1 => liveTo x s n ++ if nth x.sg n = s ∧ last x (nth x.page n) = n then [n] else []
def live (x : X) (s : Int) : List Nat := liveTo x s x.page.length
def read (x : X) (p : Int) : Int := if last x p < 0 then 0 else nth x.value (last x p).toNat
def placeFrom (l : List Int) (v : Int) : Nat → Nat → Int
  | 0, _ => -1
  | n + 1, i => if nth l i = v then (i : Int) else placeFrom l v n (i + 1)
def place (l : List Int) (v : Int) : Int := placeFrom l v l.length 0
def put (x : X) (h : Nat) (p v : Int) : X := ⟨x.sg ++ [(h : Int)], x.at_ ++ [nth x.many h], x.page ++ [p], x.value ++ [v], x.many.set h (nth x.many h + 1), h⟩
def top (x : X) : Int := if nth x.many x.head = 4 then place x.many 0 else (x.head : Int)
def down (x : X) (p v : Int) : X × Bool := if top x < 0 then (x, false) else (put x (top x).toNat p v, true)
def bestStep (x : X) (b : Option Nat) (i : Nat) : Option Nat :=
  if i = x.head ∨ ¬ 0 < nth x.many i then b else match b with
    | none => some i
    | some j => if (live x i).length < (live x j).length then some i else some j
def bestTo (x : X) : Nat → Option Nat
  | 0 => none
  | n + 1 => bestStep x (bestTo x n) n
def step (y : X) (i : Nat) : X := (down y (nth y.page i) (nth y.value i)).1
def cut (x : X) (b : Nat) : X := { x with many := x.many.set b 0 }
def clean (x : X) : X × Int × Int := match bestTo x 6 with
  | none => (x, 0, 5)
  | some b => if (live x b).length = 4 then (x, 0, 7) else ((live x b).foldl step (cut x b), b, 0)
def new : X := ⟨[], [], [], [], List.replicate 6 0, 0⟩

/-! ### Lists -/
theorem nth_left {l : List Int} {m : List Int} {i : Nat} (h : i < l.length) : nth (l ++ m) i = nth l i := by
  unfold nth
  simp only [List.getD_eq_getElem?_getD, List.getElem?_append_left h]
theorem nth_mid {l : List Int} {y : Int} : nth (l ++ [y]) l.length = y := by
  unfold nth
  simp
theorem eq_of_inc : ∀ (a b : List Nat), a.Pairwise (· < ·) → b.Pairwise (· < ·) → (∀ i, i ∈ a ↔ i ∈ b) → a = b
  | [], [], _, _, _ => rfl
  | [], y :: b, _, _, h => absurd ((h y).2 (by simp)) (by simp)
  | x :: a, [], _, _, h => absurd ((h x).1 (by simp)) (by simp)
  | x :: a, y :: b, ha, hb, h => by
    rw [List.pairwise_cons] at ha hb
    have hxy : x = y := by
      have h1 := (h x).1 (by simp)
      have h2 := (h y).2 (by simp)
      rcases List.mem_cons.1 h1 with e | h1
      · exact e
      · rcases List.mem_cons.1 h2 with e | h2
        · exact e.symm
        · have := hb.1 x h1
          have := ha.1 y h2
          omega
    subst hxy
    rw [eq_of_inc a b ha.2 hb.2 (fun i => ⟨fun hi => ?_, fun hi => ?_⟩)]
    · have := ha.1 i hi
      rcases List.mem_cons.1 ((h i).1 (by simp [hi])) with e | h1
      · omega
      · exact h1
    · have := hb.1 i hi
      rcases List.mem_cons.1 ((h i).2 (by simp [hi])) with e | h1
      · omega
      · exact h1
theorem inc_inj {l : List Nat} (h : l.Pairwise (· < ·)) {a b i : Nat} (ha : l[a]? = some i) (hb : l[b]? = some i) : a = b := by
  obtain ⟨la, ea⟩ := List.getElem?_eq_some_iff.1 ha
  obtain ⟨lb, eb⟩ := List.getElem?_eq_some_iff.1 hb
  rw [List.pairwise_iff_getElem] at h
  rcases Nat.lt_trichotomy a b with hl | hl | hl
  · have := h a b la lb hl; omega
  · exact hl
  · have := h b a lb la hl; omega

/-! ### The last writing of a page -/
theorem lastTo_lt (ps : List Int) (p : Int) : ∀ n, lastTo ps p n < n ∧ -1 ≤ lastTo ps p n
  | 0 => ⟨by unfold lastTo; omega, by unfold lastTo; omega⟩
  | n + 1 => by have := lastTo_lt ps p n; unfold lastTo; split <;> omega
theorem lastTo_page (ps : List Int) (p : Int) : ∀ n (i : Nat), lastTo ps p n = i → nth ps i = p
  | 0, i, h => by unfold lastTo at h; omega
  | n + 1, i, h => by
    unfold lastTo at h
    split at h
    · rename_i e
      obtain rfl : n = i := by omega
      exact e
    · exact lastTo_page ps p n i h
theorem lastTo_ge (ps : List Int) (p : Int) : ∀ n (i : Nat), i < n → nth ps i = p → (i : Int) ≤ lastTo ps p n
  | 0, i, h, _ => by omega
  | n + 1, i, h, e => by
    unfold lastTo
    split
    · omega
    · rename_i e'
      by_cases hn : i = n
      · subst hn; exact absurd e e'
      · exact lastTo_ge ps p n i (by omega) e
theorem lastTo_congr {ps qs : List Int} (p : Int) : ∀ n, (∀ i, i < n → nth ps i = nth qs i) → lastTo ps p n = lastTo qs p n
  | 0, _ => rfl
  | n + 1, h => by unfold lastTo; rw [h n (by omega), lastTo_congr p n (fun i hi => h i (by omega))]
theorem last_lt (x : X) (p : Int) : last x p < x.page.length ∧ -1 ≤ last x p := lastTo_lt _ _ _
theorem last_put (x : X) (h : Nat) (p v q : Int) : last (put x h p v) q = if p = q then (x.page.length : Int) else last x q := by
  unfold last
  show lastTo (x.page ++ [p]) q (x.page ++ [p]).length = _
  rw [List.length_append, List.length_singleton]
  conv => lhs; unfold lastTo
  rw [nth_mid, lastTo_congr (qs := x.page) q x.page.length (fun i hi => nth_left hi)]
theorem mem_liveTo (x : X) (s : Int) (i : Nat) : ∀ n, i ∈ liveTo x s n ↔ i < n ∧ nth x.sg i = s ∧ last x (nth x.page i) = i
  | 0 => by simp [liveTo]
  | n + 1 => by
    unfold liveTo
    rw [List.mem_append, mem_liveTo x s i n]
    split
    · rename_i h
      simp only [List.mem_singleton]
      constructor
      · rintro (⟨h1, h2⟩ | rfl)
        · exact ⟨by omega, h2⟩
        · exact ⟨by omega, h⟩
      · rintro ⟨h1, h2⟩
        by_cases e : i = n
        · exact .inr e
        · exact .inl ⟨by omega, h2⟩
    · rename_i h
      simp only [List.not_mem_nil, or_false]
      constructor
      · rintro ⟨h1, h2⟩
        exact ⟨by omega, h2⟩
      · rintro ⟨h1, h2⟩
        by_cases e : i = n
        · subst e; exact absurd h2 h
        · exact ⟨by omega, h2⟩
theorem liveTo_inc (x : X) (s : Int) : ∀ n, (liveTo x s n).Pairwise (· < ·)
  | 0 => List.Pairwise.nil
  | n + 1 => by
    unfold liveTo
    rw [List.pairwise_append]
    refine ⟨liveTo_inc x s n, by split <;> simp, fun a ha b hb => ?_⟩
    have := ((mem_liveTo x s a n).1 ha).1
    split at hb
    · simp only [List.mem_singleton] at hb; omega
    · simp at hb
theorem liveTo_le (x : X) (s : Int) : ∀ n, (liveTo x s n).length ≤ n
  | 0 => Nat.le_refl _
  | n + 1 => by
    have := liveTo_le x s n
    unfold liveTo
    rw [List.length_append]
    split <;> simp <;> omega

/-! ### A disk, and what was written on it -/
/-- c: for each segment the writings that lie in it; the pages of P are about to be written anew. -/
structure Rel (P : Nat → Prop) (d : Lf.D) (x : X) (c : Nat → List Nat) : Prop where
  ls : x.sg.length = x.page.length
  la : x.at_.length = x.page.length
  lv : x.value.length = x.page.length
  lm : x.many.length = 6
  many : ∀ i, i < 6 → nth x.many i = ((seg d i).length : Int)
  head : x.head = d.head
  pgs : ∀ i, i < x.page.length → 0 ≤ nth x.page i ∧ nth x.page i ≤ 7
  lt : ∀ s, s < 6 → ∀ i ∈ c s, i < x.page.length ∧ nth x.sg i = (s : Int)
  inc : ∀ s, s < 6 → (c s).Pairwise (· < ·)
  segs : ∀ s, s < 6 → seg d s = (c s).map fun i => (nth x.page i, nth x.value i)
  none_ : ∀ p : Nat, p < 8 → last x p < 0 → (pg d p).2.2 = false
  some_ : ∀ p : Nat, p < 8 → ¬ P p → ∀ i : Nat, last x p = i → ∃ s a : Nat, s < 6 ∧ (c s)[a]? = some i ∧ pg d p = ((s : Int), (a : Int), true)

theorem Rel.put {P : Nat → Prop} {d : Lf.D} {x : X} {c : Nat → List Nat} (h : Rel P d x c) (hO : Lf.Shp d) {k : Nat} (hk : k < 6) {p v : Int} (hp : 0 ≤ p ∧ p ≤ 7) :
    Rel (fun q => P q ∧ q ≠ p.toNat) (Lf.down (Lf.at_ d k) (p, v)) (Lx.put x k p v) (fun s => if s = k then c s ++ [x.page.length] else c s) := by
  have hh : (Lf.at_ d k).head < (Lf.at_ d k).segs.length := by show k < d.segs.length; rw [hO.ns]; exact hk
  have hS : ∀ j, seg (Lf.down (Lf.at_ d k) (p, v)) j = if k = j then seg d k ++ [(p, v)] else seg d j := fun j => Lf.down_seg hh (p, v) j
  have hp8 : p.toNat < 8 := by omega
  have hG : ∀ j, pg (Lf.down (Lf.at_ d k) (p, v)) j = if p.toNat = j then ((k : Int), ((seg d k).length : Int), true) else pg d j := fun j => Lf.down_pg (d := Lf.at_ d k) (b := (p, v)) (by show p.toNat < d.pages.length; rw [hO.np]; exact hp8) j
  have hN : (Lx.put x k p v).page.length = x.page.length + 1 := by simp [Lx.put]
  have hnew : nth (Lx.put x k p v).page x.page.length = p := nth_mid
  have hold : ∀ i, i < x.page.length → nth (Lx.put x k p v).page i = nth x.page i := fun i hi => nth_left hi
  have hvold : ∀ i, i < x.page.length → nth (Lx.put x k p v).value i = nth x.value i := fun i hi => nth_left (by rw [h.lv]; exact hi)
  have hsold : ∀ i, i < x.page.length → nth (Lx.put x k p v).sg i = nth x.sg i := fun i hi => nth_left (by rw [h.ls]; exact hi)
  refine ⟨by simp [Lx.put, h.ls], by simp [Lx.put, h.la], by simp [Lx.put, h.lv], by simp [Lx.put, h.lm], fun i hi => ?_, rfl, fun i hi => ?_, fun s hs i hi => ?_, fun s hs => ?_, fun s hs => ?_, fun q hq hl => ?_, fun q hq hn i hl => ?_⟩
  · rw [hS]
    show nth (x.many.set k (nth x.many k + 1)) i = _
    rw [So.nth_set _ _ _ _ (by rw [h.lm]; exact hk)]
    by_cases e : k = i
    · subst e
      rw [if_pos rfl, if_pos rfl, h.many k hk, List.length_append]
      simp
    · rw [if_neg e, if_neg e, h.many i hi]
  · rw [hN] at hi
    by_cases e : i = x.page.length
    · subst e; rw [hnew]; exact hp
    · rw [hold i (by omega)]; exact h.pgs i (by omega)
  · rw [hN]
    by_cases e : s = k
    · rw [if_pos e] at hi
      rcases List.mem_append.1 hi with hi | hi
      · have := h.lt s hs i hi
        rw [hsold i this.1]
        exact ⟨by omega, this.2⟩
      · simp only [List.mem_singleton] at hi
        subst hi
        refine ⟨by omega, ?_⟩
        rw [← h.ls, e]
        exact nth_mid
    · rw [if_neg e] at hi
      have := h.lt s hs i hi
      rw [hsold i this.1]
      exact ⟨by omega, this.2⟩
  · show List.Pairwise _ (if s = k then _ else _)
    split
    · rw [List.pairwise_append]
      refine ⟨h.inc s hs, by simp, fun a ha b hb => ?_⟩
      simp only [List.mem_singleton] at hb
      subst hb
      exact (h.lt s hs a ha).1
    · exact h.inc s hs
  · have hm : ∀ s, s < 6 → (c s).map (fun i => (nth (Lx.put x k p v).page i, nth (Lx.put x k p v).value i)) = (c s).map (fun i => (nth x.page i, nth x.value i)) := fun s hs =>
      List.map_congr_left (fun i hi => by rw [hold i (h.lt s hs i hi).1, hvold i (h.lt s hs i hi).1])
    rw [hS]
    show _ = List.map _ (if s = k then _ else _)
    by_cases e : s = k
    · subst e
      rw [if_pos rfl, if_pos rfl, List.map_append, hm s hs, ← h.segs s hs]
      congr 1
      simp only [List.map_cons, List.map_nil, hnew]
      have : nth (Lx.put x s p v).value x.page.length = v := by rw [← h.lv]; exact nth_mid
      rw [this]
    · rw [if_neg (fun e' => e e'.symm), if_neg e, hm s hs, ← h.segs s hs]
  · rw [last_put] at hl
    rw [hG]
    by_cases e : p = (q : Int)
    · rw [if_pos e] at hl; omega
    · rw [if_neg e] at hl
      rw [if_neg (by omega)]
      exact h.none_ q hq hl
  · rw [last_put] at hl
    rw [hG]
    by_cases e : p = (q : Int)
    · rw [if_pos e] at hl
      refine ⟨k, (seg d k).length, hk, ?_, by rw [if_pos (by omega)]⟩
      rw [if_pos rfl, h.segs k hk, List.length_map, show x.page.length = i by omega]
      simp
    · rw [if_neg e] at hl
      obtain ⟨s, a, h1, h2, h3⟩ := h.some_ q hq (fun hP => hn ⟨hP, by omega⟩) i hl
      refine ⟨s, a, h1, ?_, by rw [if_neg (by omega), h3]⟩
      show (if s = k then _ else _)[a]? = _
      split
      · rw [List.getElem?_append_left (List.getElem?_eq_some_iff.1 h2).1]; exact h2
      · exact h2

/-- The live blocks are the live writings. -/
theorem liveFrom_eq {d : Lf.D} {x : X} {c : Nat → List Nat} (h : Rel (fun _ => False) d x c) {s : Nat} (hs : s < 6) : ∀ (l : List Nat) (a : Nat), (∀ j, j < l.length → (c s)[a + j]? = l[j]?) →
    Lf.liveFrom d s (l.map fun i => (nth x.page i, nth x.value i)) a = (l.filter fun i => decide (last x (nth x.page i) = (i : Int))).map fun i => (nth x.page i, nth x.value i)
  | [], a, _ => rfl
  | i :: l, a, hl => by
    have hi : (c s)[a]? = some i := by have := hl 0 (by simp); simpa using this
    have him : i ∈ c s := List.mem_of_getElem? hi
    obtain ⟨hiN, his⟩ := h.lt s hs i him
    have hpg := h.pgs i hiN
    have hp8 : (nth x.page i).toNat < 8 := by omega
    have hcast : ((nth x.page i).toNat : Int) = nth x.page i := by omega
    have key : Lf.isLive d s a (nth x.page i, nth x.value i) = decide (last x (nth x.page i) = (i : Int)) := by
      unfold Lf.isLive
      rw [decide_eq_decide]
      show pg d (nth x.page i).toNat = _ ↔ _
      constructor
      · intro e
        have hge := lastTo_ge x.page (nth x.page i) x.page.length i hiN rfl
        obtain ⟨j, hj⟩ : ∃ j : Nat, last x (nth x.page i) = (j : Int) := ⟨(last x (nth x.page i)).toNat, by unfold last; omega⟩
        obtain ⟨s', a', h1, h2, h3⟩ := h.some_ _ hp8 (fun hf => hf) j (by rw [hcast]; exact hj)
        rw [e] at h3
        injection h3 with e1 h3
        injection h3 with e2 _
        have es : s = s' := by omega
        have ea : a = a' := by omega
        subst es ea
        rw [hi] at h2
        injection h2 with h2
        rw [hj, h2]
      · intro e
        obtain ⟨s', a', h1, h2, h3⟩ := h.some_ _ hp8 (fun hf => hf) i (by rw [hcast]; exact e)
        have := (h.lt s' h1 i (List.mem_of_getElem? h2)).2
        have es : s = s' := by omega
        subst es
        have ea : a = a' := inc_inj (h.inc s hs) hi h2
        subst ea
        exact h3
    have ih := liveFrom_eq h hs l (a + 1) (fun j hj => by have := hl (j + 1) (by simp; omega); rw [show a + 1 + j = a + (j + 1) by omega]; simpa using this)
    show Lf.liveFrom d s ((nth x.page i, nth x.value i) :: List.map _ l) a = _
    unfold Lf.liveFrom
    rw [key, ih, List.filter_cons]
    by_cases e : last x (nth x.page i) = (i : Int)
    · simp [e]
    · simp [e]
theorem live_filter {d : Lf.D} {x : X} {c : Nat → List Nat} (h : Rel (fun _ => False) d x c) {s : Nat} (hs : s < 6) : (c s).filter (fun i => decide (last x (nth x.page i) = (i : Int))) = live x s := by
  refine eq_of_inc _ _ ((h.inc s hs).filter _) (liveTo_inc x s _) (fun i => ?_)
  rw [List.mem_filter, decide_eq_true_iff]
  unfold live
  rw [mem_liveTo]
  constructor
  · rintro ⟨h1, h2⟩
    obtain ⟨h3, h4⟩ := h.lt s hs i h1
    exact ⟨h3, h4, h2⟩
  · rintro ⟨h1, h2, h3⟩
    have hpg := h.pgs i h1
    obtain ⟨s', a', q1, q2, q3⟩ := h.some_ (nth x.page i).toNat (by omega) (fun hf => hf) i (by rw [show ((nth x.page i).toNat : Int) = nth x.page i by omega]; exact h3)
    have := (h.lt s' q1 i (List.mem_of_getElem? q2)).2
    have es : s = s' := by omega
    subst es
    exact ⟨List.mem_of_getElem? q2, h3⟩
theorem live_eq {d : Lf.D} {x : X} {c : Nat → List Nat} (h : Rel (fun _ => False) d x c) {s : Nat} (hs : s < 6) : Lf.live d s = (live x s).map fun i => (nth x.page i, nth x.value i) := by
  unfold Lf.live
  rw [h.segs s hs, liveFrom_eq h hs (c s) 0 (fun j hj => by rw [Nat.zero_add]), live_filter h hs]
theorem live_len {d : Lf.D} {x : X} {c : Nat → List Nat} (h : Rel (fun _ => False) d x c) {s : Nat} (hs : s < 6) : (Lf.live d s).length = (live x s).length := by rw [live_eq h hs, List.length_map]
theorem read_eq {d : Lf.D} {x : X} {c : Nat → List Nat} (h : Rel (fun _ => False) d x c) {p : Nat} (hp : p < 8) : Lf.val d p = read x p := by
  unfold Lf.val read
  by_cases hl : last x p < 0
  · rw [if_pos hl, if_neg (by rw [h.none_ p hp hl]; simp)]
  · obtain ⟨i, hi⟩ : ∃ i : Nat, last x p = (i : Int) := ⟨(last x p).toNat, by omega⟩
    obtain ⟨s, a, h1, h2, h3⟩ := h.some_ p hp (fun hf => hf) i hi
    rw [if_neg hl, h3, if_pos rfl, hi]
    simp only [Int.toNat_natCast]
    rw [h.segs s h1, List.getD_eq_getElem?_getD, List.getElem?_map, h2]
    rfl

/-! ### Where the head goes -/
theorem place_empty {d : Lf.D} {x : X} (hm : ∀ i, i < 6 → nth x.many i = ((seg d i).length : Int)) : ∀ n i, i + n = 6 → placeFrom x.many 0 n i = match emptyFrom d n i with | none => -1 | some k => (k : Int)
  | 0, _, _ => rfl
  | n + 1, i, h => by
    unfold placeFrom emptyFrom
    rw [hm i (by omega)]
    by_cases e : (seg d i).length = 0
    · rw [if_pos (by omega), if_pos e]
    · rw [if_neg (by omega), if_neg e]
      exact place_empty hm n (i + 1) (by omega)
theorem top_eq {P : Nat → Prop} {d : Lf.D} {x : X} {c : Nat → List Nat} (h : Rel P d x c) (hh : d.head < 6) (h4 : (seg d d.head).length ≤ 4) : top x = match roomAt d with | none => -1 | some k => (k : Int) := by
  unfold top roomAt
  rw [h.head, h.many d.head hh]
  by_cases e : (seg d d.head).length < 4
  · rw [if_neg (by omega), if_pos e]
  · rw [if_pos (by omega), if_neg e]
    unfold place
    rw [h.lm]
    exact place_empty h.many 6 0 rfl
theorem down_some {P : Nat → Prop} {d : Lf.D} {x : X} {c : Nat → List Nat} (h : Rel P d x c) (hh : d.head < 6) (h4 : (seg d d.head).length ≤ 4) {k : Nat} (hr : roomAt d = some k) (p v : Int) : down x p v = (put x k p v, true) := by
  have := top_eq h hh h4
  rw [hr] at this
  unfold down
  rw [this]
  simp only
  rw [if_neg (by omega), Int.toNat_natCast]
theorem down_none {P : Nat → Prop} {d : Lf.D} {x : X} {c : Nat → List Nat} (h : Rel P d x c) (hh : d.head < 6) (h4 : (seg d d.head).length ≤ 4) (hr : roomAt d = none) (p v : Int) : down x p v = (x, false) := by
  have := top_eq h hh h4
  rw [hr] at this
  unfold down
  rw [this]
  simp

/-! ### Cleaning -/
theorem best_eq {d : Lf.D} {x : X} {c : Nat → List Nat} (h : Rel (fun _ => False) d x c) : ∀ n, n ≤ 6 → Lf.bestTo d n = bestTo x n
  | 0, _ => rfl
  | n + 1, hn => by
    show Lf.bestStep d (Lf.bestTo d n) n = bestStep x (bestTo x n) n
    have ih := best_eq h n (by omega)
    rw [← ih]
    unfold Lf.bestStep bestStep
    rw [h.head, h.many n (by omega)]
    by_cases e : n = d.head ∨ (seg d n).length = 0
    · rw [if_pos e, if_pos (by omega)]
    · rw [if_neg e, if_neg (by omega)]
      cases hb : Lf.bestTo d n with
      | none => rfl
      | some j =>
        have hj := Lf.bestTo_lt d n j hb
        simp only
        rw [live_len h (show n < 6 by omega), live_len h (show j < 6 by omega)]
theorem Rel.cut {d : Lf.D} {x : X} {c : Nat → List Nat} (h : Rel (fun _ => False) d x c) (hO : Lf.OK d) {b : Nat} (hb : b < 6) :
    Rel (fun p => ∃ i ∈ live x b, (nth x.page i).toNat = p) { d with segs := d.segs.set b [] } (Lx.cut x b) (fun s => if s = b then [] else c s) := by
  have S := fun j => Lf.seg_set d b j [] (by rw [hO.ns]; exact hb) d.pages d.head
  refine ⟨h.ls, h.la, h.lv, by simp [Lx.cut, h.lm], fun i hi => ?_, h.head, h.pgs, fun s hs i hi => ?_, fun s hs => ?_, fun s hs => ?_, h.none_, fun p hp hn i hl => ?_⟩
  · rw [S]
    show nth (x.many.set b 0) i = _
    rw [So.nth_set _ _ _ _ (by rw [h.lm]; exact hb)]
    split
    · rfl
    · exact h.many i hi
  · by_cases e : s = b
    · rw [if_pos e] at hi; simp at hi
    · rw [if_neg e] at hi; exact h.lt s hs i hi
  · show List.Pairwise _ (if s = b then _ else _)
    split
    · exact List.Pairwise.nil
    · exact h.inc s hs
  · rw [S]
    show _ = List.map _ (if s = b then _ else _)
    by_cases e : s = b
    · rw [if_pos e.symm, if_pos e]; rfl
    · rw [if_neg (fun e' => e e'.symm), if_neg e]; exact h.segs s hs
  · obtain ⟨s, a, h1, h2, h3⟩ := h.some_ p hp (fun hf => hf) i hl
    refine ⟨s, a, h1, ?_, h3⟩
    have hsb : s ≠ b := by
      rintro rfl
      have hlt := h.lt s h1 i (List.mem_of_getElem? h2)
      have hpi : nth x.page i = p := lastTo_page x.page p x.page.length i hl
      exact hn ⟨i, (mem_liveTo x s i _).2 ⟨hlt.1, hlt.2, by rw [hpi]; exact hl⟩, by rw [hpi]; omega⟩
    show (if s = b then _ else _)[a]? = _
    rw [if_neg hsb]
    exact h2
/-- The live writings are written anew, one by one. -/
theorem fold_rel : ∀ (l : List Nat) (d : Lf.D) (x : X) (c : Nat → List Nat) (P X' : Nat → Prop), Rel P d x c → Lf.OKx X' d → Lf.Roomy d l.length → (∀ i ∈ l, i < x.page.length) →
    ∃ c', Rel (fun q => P q ∧ ∀ i ∈ l, (nth x.page i).toNat ≠ q) ((l.map fun i => (nth x.page i, nth x.value i)).foldl Lf.put d) (l.foldl step x) c'
  | [], d, x, c, P, X', h, _, _, _ => ⟨c, h.ls, h.la, h.lv, h.lm, h.many, h.head, h.pgs, h.lt, h.inc, h.segs, h.none_, fun p hp hn => h.some_ p hp (fun hP => hn ⟨hP, by simp⟩)⟩
  | i :: l, d, x, c, P, X', h, hO, hr, hi => by
    obtain ⟨k, e, hk, hk4, hr'⟩ := Lf.Roomy.put hO (n := l.length) (by simpa using hr) (nth x.page i, nth x.value i)
    have hiN := hi i (by simp)
    have hp := h.pgs i hiN
    have ep : Lf.put d (nth x.page i, nth x.value i) = Lf.down (Lf.at_ d k) (nth x.page i, nth x.value i) := by unfold Lf.put; rw [e]; rfl
    have es : step x i = put x k (nth x.page i) (nth x.value i) := by unfold step; rw [down_some h hO.nh (hO.small _ hO.nh) e]
    have h1 := h.put hO.shp hk (p := nth x.page i) (v := nth x.value i) hp
    have hO1 := (hO.at_ hk).down hk4 (b := (nth x.page i, nth x.value i)) hp
    rw [← ep] at h1 hO1
    rw [← es] at h1
    have hpg : ∀ j, j < x.page.length → nth (step x i).page j = nth x.page j ∧ nth (step x i).value j = nth x.value j := fun j hj => by
      rw [es]
      exact ⟨nth_left hj, nth_left (by rw [h.lv]; exact hj)⟩
    have hlen : (step x i).page.length = x.page.length + 1 := by rw [es]; simp [put]
    obtain ⟨c', hc⟩ := fold_rel l _ (step x i) _ _ _ h1 hO1 hr' (fun j hj => by have := hi j (by simp [hj]); omega)
    have hmap : (l.map fun j => (nth (step x i).page j, nth (step x i).value j)) = l.map fun j => (nth x.page j, nth x.value j) := List.map_congr_left (fun j hj => by
      have := hpg j (hi j (by simp [hj]))
      rw [this.1, this.2])
    rw [hmap] at hc
    refine ⟨c', hc.ls, hc.la, hc.lv, hc.lm, hc.many, hc.head, hc.pgs, hc.lt, hc.inc, hc.segs, hc.none_, fun p hp8 hn => hc.some_ p hp8 (fun ⟨⟨q1, q2⟩, q3⟩ => hn ⟨q1, fun j hj => ?_⟩)⟩
    rcases List.mem_cons.1 hj with rfl | hj
    · exact fun e => q2 e.symm
    · have := q3 j hj
      rw [(hpg j (hi j (by simp [hj]))).1] at this
      exact this
theorem clean_rel {d : Lf.D} {x : X} {c : Nat → List Nat} (h : Rel (fun _ => False) d x c) (hO : Lf.OK d) : (∃ c', Rel (fun _ => False) (Lf.clean d).1 (clean x).1 c') ∧ (Lf.clean d).2 = (clean x).2 := by
  have hb := best_eq h 6 (Nat.le_refl _)
  unfold Lf.clean clean
  rw [← hb]
  cases hbt : Lf.bestTo d 6 with
  | none => exact ⟨⟨c, h⟩, rfl⟩
  | some s =>
    obtain ⟨hs, hsh, hs0⟩ := Lf.bestTo_lt d 6 s hbt
    simp only
    rw [live_len h hs]
    by_cases h4 : (live x s).length = 4
    · rw [if_pos h4, if_pos h4]
      exact ⟨⟨c, h⟩, rfl⟩
    · rw [if_neg h4, if_neg h4]
      refine ⟨?_, rfl⟩
      have S := fun j => Lf.seg_set d s j [] (by rw [hO.ns]; exact hs) d.pages d.head
      have hle : (live x s).length ≤ 4 := by
        have h1 := Lf.live_le d s
        have h2 := hO.small s hs
        rw [live_len h hs] at h1
        omega
      have hX : Lf.OKx (fun _ => True) { d with segs := d.segs.set s [] } := by
        refine ⟨by simp [hO.ns], hO.np, hO.nh, fun i hi => ?_, fun i hi c hc => ?_, fun p hp hn => absurd trivial hn⟩
        · rw [S]; split
          · simp
          · exact hO.small i hi
        · rw [S] at hc; split at hc
          · simp at hc
          · exact hO.blk i hi c hc
      obtain ⟨c', hc⟩ := fold_rel (live x s) _ (cut x s) _ _ _ (h.cut hO hs) hX ⟨hle, .inl ⟨s, hs, hsh, by rw [S, if_pos rfl]⟩⟩ (fun i hi => ((mem_liveTo x s i _).1 hi).1)
      rw [live_eq h hs]
      refine ⟨c', hc.ls, hc.la, hc.lv, hc.lm, hc.many, hc.head, hc.pgs, hc.lt, hc.inc, hc.segs, hc.none_, fun p hp8 hn => hc.some_ p hp8 (fun ⟨⟨i, q1, q2⟩, q3⟩ => q3 i q1 q2)⟩
theorem write_rel {d : Lf.D} {x : X} {c : Nat → List Nat} (h : Rel (fun _ => False) d x c) (hO : Lf.OK d) (p v : Int) (ho : Lf.okP p v) : (∃ c', Rel (fun _ => False) (Lf.write d p v).1 (down x p v).1 c') ∧ (Lf.write d p v).2 = if (down x p v).2 then 0 else 4 := by
  unfold Lf.write
  rw [if_pos ho]
  cases hr : roomAt d with
  | none =>
    rw [down_none h hO.nh (hO.small _ hO.nh) hr]
    exact ⟨⟨c, h⟩, rfl⟩
  | some k =>
    obtain ⟨hk, _⟩ := Lf.roomAt_lt hO hr
    rw [down_some h hO.nh (hO.small _ hO.nh) hr]
    have ep : Lf.put d (p, v) = Lf.down (Lf.at_ d k) (p, v) := by unfold Lf.put; rw [hr]; rfl
    simp only [ep]
    have h1 := h.put hO.shp hk (p := p) (v := v) ho.1
    exact ⟨⟨_, h1.ls, h1.la, h1.lv, h1.lm, h1.many, h1.head, h1.pgs, h1.lt, h1.inc, h1.segs, h1.none_, fun q hq _ => h1.some_ q hq (fun ⟨hf, _⟩ => hf)⟩, rfl⟩
theorem new_rel : Rel (fun _ => False) Lf.new new (fun _ => []) := by
  have hs : ∀ s, seg Lf.new s = [] := fun s => by
    simp only [seg, Lf.new, List.getD_eq_getElem?_getD, List.getElem?_replicate]
    split <;> rfl
  have hp : ∀ p, (pg Lf.new p).2.2 = false := fun p => by
    simp only [pg, Lf.new, List.getD_eq_getElem?_getD, List.getElem?_replicate]
    split <;> rfl
  refine ⟨rfl, rfl, rfl, rfl, fun i hi => ?_, rfl, fun i hi => ?_, fun s hs i hi => ?_, fun s hs => List.Pairwise.nil, fun s _ => hs s, fun p _ _ => hp p, fun p hp8 _ i hl => ?_⟩
  · rw [hs]
    show nth (List.replicate 6 0) i = 0
    unfold nth
    simp only [List.getD_eq_getElem?_getD, List.getElem?_replicate]
    split <;> rfl
  · simp [new] at hi
  · simp at hi
  · exfalso
    have := (lastTo_lt ([] : List Int) (p : Int) 0).1
    have h2 : last new p = lastTo [] p 0 := rfl
    rw [h2] at hl
    omega

/-! ### What a call needs of it -/
structure OK (x : X) (n : Nat) : Prop where
  ls : x.sg.length = x.page.length
  la : x.at_.length = x.page.length
  lv : x.value.length = x.page.length
  lm : x.many.length = 6
  hd : x.head < 6
  few : ∀ i, i < 6 → 0 ≤ nth x.many i ∧ nth x.many i ≤ 4
  le : x.page.length ≤ n
theorem OK.mono {x : X} {n m : Nat} (h : OK x n) (hm : n ≤ m) : OK x m := ⟨h.ls, h.la, h.lv, h.lm, h.hd, h.few, Nat.le_trans h.le hm⟩
theorem placeFrom_lt (l : List Int) (v : Int) : ∀ n i, placeFrom l v n i < 0 ∨ (∃ k : Nat, placeFrom l v n i = k ∧ i ≤ k ∧ k < i + n ∧ nth l k = v)
  | 0, _ => .inl (by unfold placeFrom; omega)
  | n + 1, i => by
    unfold placeFrom
    split
    · rename_i e
      exact .inr ⟨i, rfl, Nat.le_refl _, by omega, e⟩
    · rcases placeFrom_lt l v n (i + 1) with h | ⟨k, h1, h2, h3, h4⟩
      · exact .inl h
      · exact .inr ⟨k, h1, by omega, by omega, h4⟩
theorem top_lt {x : X} {n : Nat} (h : OK x n) : top x < 0 ∨ ∃ k : Nat, top x = k ∧ k < 6 ∧ nth x.many k ≤ 3 := by
  unfold top
  split
  · rcases placeFrom_lt x.many 0 x.many.length 0 with h1 | ⟨k, h1, h2, h3, h4⟩
    · exact .inl h1
    · exact .inr ⟨k, h1, by rw [h.lm] at h3; omega, by omega⟩
  · rename_i e
    have := (h.few x.head h.hd).2
    exact .inr ⟨x.head, rfl, h.hd, by omega⟩
theorem OK.put {x : X} {n : Nat} (h : OK x n) {k : Nat} (hk : k < 6) (h3 : nth x.many k ≤ 3) (p v : Int) : OK (Lx.put x k p v) (n + 1) := by
  have hle := h.le
  refine ⟨by simp [Lx.put, h.ls], by simp [Lx.put, h.la], by simp [Lx.put, h.lv], by simp [Lx.put, h.lm], hk, fun i hi => ?_, by simp [Lx.put]; omega⟩
  show 0 ≤ nth (x.many.set k (nth x.many k + 1)) i ∧ nth (x.many.set k (nth x.many k + 1)) i ≤ 4
  rw [So.nth_set _ _ _ _ (by rw [h.lm]; exact hk)]
  have := h.few k hk
  split
  · omega
  · exact h.few i hi
theorem OK.down {x : X} {n : Nat} (h : OK x n) (p v : Int) : OK (Lx.down x p v).1 (n + 1) := by
  unfold Lx.down
  rcases top_lt h with ht | ⟨k, ht, hk, h3⟩
  · rw [if_pos ht]; exact h.mono (by omega)
  · rw [if_neg (by omega), ht, Int.toNat_natCast]
    exact h.put hk h3 p v
theorem OK.cut {x : X} {n : Nat} (h : OK x n) {b : Nat} (hb : b < 6) : OK (Lx.cut x b) n := by
  refine ⟨h.ls, h.la, h.lv, by simp [Lx.cut, h.lm], h.hd, fun i hi => ?_, h.le⟩
  show 0 ≤ nth (x.many.set b 0) i ∧ nth (x.many.set b 0) i ≤ 4
  rw [So.nth_set _ _ _ _ (by rw [h.lm]; exact hb)]
  split
  · omega
  · exact h.few i hi
/-- The struct when k of the live writings are written anew. -/
def dn (x : X) (l : List Nat) (k : Nat) : X := (l.take k).foldl step x
theorem dn_succ {x : X} {l : List Nat} {k : Nat} (hk : k < l.length) : dn x l (k + 1) = step (dn x l k) (l.getD k 0) := by
  unfold dn
  rw [List.take_add_one, List.foldl_append]
  simp [List.getElem?_eq_getElem hk]
theorem dn_ok {x : X} {n : Nat} (h : OK x n) (l : List Nat) : ∀ k, OK (dn x l k) (n + k) ∧ x.page.length ≤ (dn x l k).page.length
  | 0 => ⟨h, Nat.le_refl _⟩
  | k + 1 => by
    obtain ⟨h1, h2⟩ := dn_ok h l k
    by_cases hk : k < l.length
    · rw [dn_succ hk]
      refine ⟨h1.down _ _, ?_⟩
      have : ∀ y p v, y.page.length ≤ (Lx.down y p v).1.page.length := fun y p v => by
        unfold Lx.down
        split
        · exact Nat.le_refl _
        · simp [Lx.put]
      exact Nat.le_trans h2 (this _ _ _)
    · have e : dn x l (k + 1) = dn x l k := by unfold dn; rw [List.take_of_length_le (by omega), List.take_of_length_le (by omega)]
      rw [e]
      exact ⟨h1.mono (by omega), h2⟩
theorem bestTo_lt (x : X) : ∀ n k, bestTo x n = some k → k < n
  | 0, _, h => by simp [bestTo] at h
  | n + 1, k, h => by
    change bestStep x (bestTo x n) n = some k at h
    unfold bestStep at h
    split at h
    · have := bestTo_lt x n k h; omega
    · cases hb : bestTo x n with
      | none => rw [hb] at h; simp only at h; injection h with h; omega
      | some j =>
        have := bestTo_lt x n j hb
        rw [hb] at h
        simp only at h
        split at h <;> (injection h with h; omega)
theorem OK.clean {x : X} {n : Nat} (h : OK x n) : OK (Lx.clean x).1 (n + (live x (((bestTo x 6).getD 0 : Nat))).length) := by
  unfold Lx.clean
  cases hb : bestTo x 6 with
  | none => exact h.mono (by omega)
  | some b =>
    simp only [Option.getD_some]
    split
    · exact h.mono (by omega)
    · have := (dn_ok (h.cut (bestTo_lt x 6 b hb)) (live x b) (live x b).length).1
      unfold dn at this
      rw [List.take_length] at this
      exact this
theorem new_ok : OK new 0 := ⟨rfl, rfl, rfl, rfl, by decide, fun i hi => by
  show 0 ≤ nth (List.replicate 6 0) i ∧ nth (List.replicate 6 0) i ≤ 4
  unfold nth
  simp only [List.getD_eq_getElem?_getD, List.getElem?_replicate]
  split <;> decide, Nat.le_refl _⟩
end Go.Proofs.YtbedfffmicbgmaaDoor.Lx
