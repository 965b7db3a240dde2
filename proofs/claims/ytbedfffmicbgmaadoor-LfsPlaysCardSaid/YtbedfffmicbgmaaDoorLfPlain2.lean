/- The plain model of a log of segments (2): what cleaning keeps. No program in sight. -/
import Derived.Test.YtbedfffmicbgmaaDoorLfPlain
namespace Go.Proofs.YtbedfffmicbgmaaDoor.Lf

/-- What holds of a disk, but for where the pages of X lie. -/
structure OKx (X : Nat → Prop) (d : D) : Prop where
  ns : d.segs.length = 6
  np : d.pages.length = 8
  nh : d.head < 6
  small : ∀ i, i < 6 → (seg d i).length ≤ 4
  blk : ∀ i, i < 6 → ∀ b ∈ seg d i, 0 ≤ b.1 ∧ b.1 ≤ 7
  pgs : ∀ p, p < 8 → ¬ X p → (pg d p).2.2 = true → ∃ s a : Nat, s < 6 ∧ (pg d p).1 = s ∧ (pg d p).2.1 = a ∧ ∃ v, (seg d s)[a]? = some ((p : Int), v)
theorem OKx.shp {X : Nat → Prop} {d : D} (h : OKx X d) : Shp d := ⟨h.ns, h.np, h.nh⟩
theorem OK.x {d : D} (h : OK d) : OKx (fun _ => False) d := ⟨h.ns, h.np, h.nh, h.small, h.blk, fun p hp _ => h.pgs p hp⟩
theorem OKx.ok {X : Nat → Prop} {d : D} (h : OKx X d) (hX : ∀ p, p < 8 → ¬ X p) : OK d := ⟨h.ns, h.np, h.nh, h.small, h.blk, fun p hp => h.pgs p hp (hX p hp)⟩
theorem OKx.at_ {X : Nat → Prop} {d : D} (h : OKx X d) {k : Nat} (hk : k < 6) : OKx X (at_ d k) := ⟨h.ns, h.np, hk, h.small, h.blk, h.pgs⟩
theorem OKx.mono {X Y : Nat → Prop} {d : D} (h : OKx X d) (hX : ∀ p, X p → Y p) : OKx Y d := ⟨h.ns, h.np, h.nh, h.small, h.blk, fun p hp hn => h.pgs p hp (fun hx => hn (hX p hx))⟩
theorem down_seg {d : D} (hh : d.head < d.segs.length) (b : Blk) (j : Nat) : seg (down d b) j = if d.head = j then seg d d.head ++ [b] else seg d j := seg_set d d.head j _ hh _ d.head
theorem down_pg {d : D} {b : Blk} (hp : b.1.toNat < d.pages.length) (j : Nat) : pg (down d b) j = if b.1.toNat = j then ((d.head : Int), ((seg d d.head).length : Int), true) else pg d j := pg_set d b.1.toNat j _ hp _ d.head
theorem OKx.down {X : Nat → Prop} {d : D} (h : OKx X d) (hr : (seg d d.head).length < 4) {b : Blk} (hb : 0 ≤ b.1 ∧ b.1 ≤ 7) : OKx (fun p => X p ∧ p ≠ b.1.toNat) (down d b) := by
  have hh : d.head < d.segs.length := by rw [h.ns]; exact h.nh
  have hp : b.1.toNat < d.pages.length := by rw [h.np]; omega
  refine ⟨by simp [Lf.down, h.ns], by simp [Lf.down, h.np], h.nh, fun i hi => ?_, fun i hi c hc => ?_, fun p hp8 hn ht => ?_⟩
  · rw [down_seg hh]; split
    · simp; omega
    · exact h.small i hi
  · rw [down_seg hh] at hc; split at hc
    · rcases List.mem_append.1 hc with hc | hc
      · exact h.blk _ h.nh c hc
      · simp at hc; subst hc; exact hb
    · exact h.blk i hi c hc
  · rw [down_pg hp] at ht ⊢
    by_cases e : b.1.toNat = p
    · rw [if_pos e]
      refine ⟨d.head, (seg d d.head).length, h.nh, rfl, rfl, b.2, ?_⟩
      rw [down_seg hh, if_pos rfl]
      have : (p : Int) = b.1 := by omega
      rw [this]
      simp
    · rw [if_neg e] at ht ⊢
      obtain ⟨s, a, h1, h2, h3, v, h4⟩ := h.pgs p hp8 (fun hx => hn ⟨hx, fun e' => e e'.symm⟩) ht
      refine ⟨s, a, h1, h2, h3, v, ?_⟩
      rw [down_seg hh]
      split
      · rename_i e2
        subst e2
        rw [List.getElem?_append_left (List.getElem?_eq_some_iff.1 h4).1]
        exact h4
      · exact h4
theorem OKx.down_val {X : Nat → Prop} {d : D} (h : OKx X d) {b : Blk} (hb : 0 ≤ b.1 ∧ b.1 ≤ 7) {p : Nat} (hp8 : p < 8) (hX : p ≠ b.1.toNat → ¬ X p) : val (Lf.down d b) p = if b.1.toNat = p then b.2 else val d p := by
  have hh : d.head < d.segs.length := by rw [h.ns]; exact h.nh
  have hp : b.1.toNat < d.pages.length := by rw [h.np]; omega
  unfold val
  rw [down_pg hp p]
  by_cases e : b.1.toNat = p
  · rw [if_pos e, if_pos e]
    simp only [if_true, Int.toNat_natCast]
    rw [down_seg hh, if_pos rfl]
    simp [List.getD]
  · rw [if_neg e, if_neg e]
    by_cases ht : (pg d p).2.2 = true
    · obtain ⟨s, a, h1, h2, h3, v, h4⟩ := h.pgs p hp8 (hX fun e' => e e'.symm) ht
      rw [if_pos ht, if_pos ht, h2, h3, Int.toNat_natCast, Int.toNat_natCast, down_seg hh]
      split
      · rename_i e2
        subst e2
        simp only [List.getD_eq_getElem?_getD]
        rw [List.getElem?_append_left (List.getElem?_eq_some_iff.1 h4).1]
      · rfl
    · rw [if_neg ht, if_neg ht]

/-- There is room for n blocks more. -/
def Roomy (d : D) (n : Nat) : Prop := n ≤ 4 ∧ ((∃ k, k < 6 ∧ k ≠ d.head ∧ seg d k = []) ∨ (seg d d.head).length + n ≤ 4)
theorem Roomy.put {X : Nat → Prop} {d : D} {n : Nat} (h : OKx X d) (hr : Roomy d (n + 1)) (b : Blk) : ∃ k, roomAt d = some k ∧ k < 6 ∧ (seg d k).length < 4 ∧ Roomy (Lf.put d b) n := by
  have hs := h.ns
  have hh := h.nh
  obtain ⟨h4, hr⟩ := hr
  by_cases hl : (seg d d.head).length < 4
  · have e : roomAt d = some d.head := by unfold roomAt; rw [if_pos hl]
    refine ⟨d.head, e, h.nh, hl, by omega, ?_⟩
    have ep : Lf.put d b = Lf.down d b := by unfold Lf.put; rw [e]; rfl
    rw [ep]
    rcases hr with ⟨k, h1, h2, h3⟩ | hr
    · refine .inl ⟨k, h1, h2, ?_⟩
      rw [down_seg (by omega), if_neg (Ne.symm h2)]
      exact h3
    · refine .inr ?_
      rw [down_seg (by omega), if_pos (by rfl)]
      simp; omega
  · have e : roomAt d = emptyFrom d 6 0 := by unfold roomAt; rw [if_neg hl]
    rcases hr with ⟨k, h1, h2, h3⟩ | hr
    · cases he : emptyFrom d 6 0 with
      | none => exact absurd (by simp [h3]) (emptyFrom_none d 6 0 he k (by omega) (by omega))
      | some j =>
        obtain ⟨_, j2, j3⟩ := emptyFrom_some d 6 0 j he
        refine ⟨j, by rw [e, he], by omega, by omega, by omega, .inr ?_⟩
        have ep : Lf.put d b = Lf.down (Lf.at_ d j) b := by unfold Lf.put; rw [e, he]; rfl
        rw [ep, down_seg (by show j < d.segs.length; omega), if_pos (by rfl)]
        have : seg (Lf.at_ d j) (Lf.at_ d j).head = seg d j := rfl
        rw [this]
        simp; omega
    · omega

/-- All blocks of a list are put; then all is well, and the pages hold V. -/
theorem put_all (V : Nat → Int) : ∀ (l : List Blk) (d : D), OKx (fun p => ∃ b ∈ l, b.1.toNat = p) d → Roomy d l.length → (∀ b ∈ l, (0 ≤ b.1 ∧ b.1 ≤ 7) ∧ b.2 = V b.1.toNat) →
    (∀ p, p < 8 → (¬ ∃ b ∈ l, b.1.toNat = p) → val d p = V p) → OK (l.foldl put d) ∧ ∀ p, p < 8 → val (l.foldl put d) p = V p
  | [], d, h, _, _, hv => ⟨h.ok (by simp), fun p hp => hv p hp (by simp)⟩
  | b :: l, d, h, hr, hb, hv => by
    obtain ⟨k, e, hk, hk4, hr'⟩ := Roomy.put h (n := l.length) (by simpa using hr) b
    have hb0 := (hb b (by simp)).1
    have ep : put d b = down (at_ d k) b := by unfold put; rw [e]; rfl
    have h' := h.at_ hk
    have hd : OKx (fun p => ∃ c ∈ l, c.1.toNat = p) (put d b) := by
      rw [ep]
      refine (h'.down hk4 hb0).mono fun p ⟨⟨c, hc, e1⟩, hne⟩ => ?_
      rcases List.mem_cons.1 hc with rfl | hc
      · exact absurd e1.symm hne
      · exact ⟨c, hc, e1⟩
    refine put_all V l (put d b) hd hr' (fun c hc => hb c (by simp [hc])) (fun p hp hn => ?_)
    rw [ep]
    by_cases e2 : b.1.toNat = p
    · have : p < 8 := hp
      have hx : OKx (fun q => (∃ c ∈ (b :: l), c.1.toNat = q)) (at_ d k) := h'
      unfold val
      rw [down_pg (by rw [h'.np]; omega), if_pos e2]
      simp only [if_true, Int.toNat_natCast]
      rw [down_seg (by rw [h'.ns]; exact h'.nh), if_pos rfl]
      simp only [List.getD_eq_getElem?_getD, List.getElem?_concat_length, Option.getD_some]
      rw [(hb b (by simp)).2, e2]
    · have hn' : ¬ ∃ c ∈ b :: l, c.1.toNat = p := fun ⟨c, hc, e1⟩ => by
        rcases List.mem_cons.1 hc with rfl | hc
        · exact e2 e1
        · exact hn ⟨c, hc, e1⟩
      rw [h'.down_val hb0 hp (fun _ => hn'), if_neg e2]
      exact hv p hp hn'

theorem mem_liveFrom (d : D) (s : Nat) (b : Blk) : ∀ (l : List Blk) (a : Nat), b ∈ liveFrom d s l a ↔ ∃ j, l[j]? = some b ∧ isLive d s (a + j) b = true
  | [], a => by simp [liveFrom]
  | c :: l, a => by
    unfold liveFrom
    have ih := mem_liveFrom d s b l (a + 1)
    constructor
    · intro h
      split at h
      · rename_i hl
        rcases List.mem_cons.1 h with rfl | h
        · exact ⟨0, rfl, hl⟩
        · obtain ⟨j, h1, h2⟩ := ih.1 h
          exact ⟨j + 1, h1, by rw [show a + (j + 1) = a + 1 + j by omega]; exact h2⟩
      · obtain ⟨j, h1, h2⟩ := ih.1 h
        exact ⟨j + 1, h1, by rw [show a + (j + 1) = a + 1 + j by omega]; exact h2⟩
    · rintro ⟨j, h1, h2⟩
      cases j with
      | zero =>
        simp at h1
        subst h1
        rw [if_pos (by simpa using h2)]
        simp
      | succ j =>
        have : b ∈ liveFrom d s l (a + 1) := ih.2 ⟨j, by simpa using h1, by rw [show a + 1 + j = a + (j + 1) by omega]; exact h2⟩
        split
        · exact List.mem_cons_of_mem _ this
        · exact this
theorem liveFrom_le (d : D) (s : Nat) : ∀ (l : List Blk) (a : Nat), (liveFrom d s l a).length ≤ l.length
  | [], _ => by simp [liveFrom]
  | c :: l, a => by
    unfold liveFrom
    have := liveFrom_le d s l (a + 1)
    split <;> simp <;> omega
theorem live_le (d : D) (s : Nat) : (live d s).length ≤ (seg d s).length := liveFrom_le d s _ 0
theorem mem_live (d : D) (s : Nat) (b : Blk) : b ∈ live d s ↔ ∃ j : Nat, (seg d s)[j]? = some b ∧ pg d b.1.toNat = ((s : Int), (j : Int), true) := by
  unfold live
  rw [mem_liveFrom]
  simp [isLive]

theorem bestStep_lt {d : D} {b : Option Nat} {i k : Nat} (h : bestStep d b i = some k) : b = some k ∨ (k = i ∧ i ≠ d.head ∧ (seg d i).length ≠ 0) := by
  unfold bestStep at h
  split at h
  · exact .inl h
  · rename_i hn
    split at h
    · injection h with h; exact .inr ⟨h.symm, fun e => hn (.inl e), fun e => hn (.inr e)⟩
    · split at h
      · injection h with h; exact .inr ⟨h.symm, fun e => hn (.inl e), fun e => hn (.inr e)⟩
      · exact .inl h
theorem bestTo_lt (d : D) : ∀ n k, bestTo d n = some k → k < n ∧ k ≠ d.head ∧ (seg d k).length ≠ 0
  | 0, _, h => by simp [bestTo] at h
  | n + 1, k, h => by
    rcases bestStep_lt h with h | ⟨rfl, h1, h2⟩
    · obtain ⟨h1, h2⟩ := bestTo_lt d n k h
      exact ⟨by omega, h2⟩
    · exact ⟨by omega, h1, h2⟩

/-- A segment that is not the head is emptied, and its live blocks are put again: nothing is lost. -/
theorem clean_ok {d : D} (h : OK d) : OK (clean d).1 ∧ ∀ p, p < 8 → val (clean d).1 p = val d p := by
  unfold clean
  cases hb : bestTo d 6 with
  | none => exact ⟨h, fun _ _ => rfl⟩
  | some s =>
    obtain ⟨hs, hsh, hs0⟩ := bestTo_lt d 6 s hb
    simp only []
    split
    · exact ⟨h, fun _ _ => rfl⟩
    · rename_i h4
      have hle := live_le d s
      have hsm := h.small s hs
      have S := fun j => seg_set d s j [] (by rw [h.ns]; exact hs) d.pages d.head
      have hpend : ∀ p, p < 8 → (¬ ∃ b ∈ live d s, b.1.toNat = p) → (pg d p).2.2 = true → (pg d p).1 ≠ (s : Int) := by
        intro p hp hn ht e
        obtain ⟨s', a, h1, h2, h3, v, h4'⟩ := h.pgs p hp ht
        have es : s' = s := by omega
        subst es
        refine hn ⟨((p : Int), v), (mem_live d s' _).2 ⟨a, h4', ?_⟩, by simp⟩
        have e2 : pg d ((p : Int), v).1.toNat = ((pg d p).1, (pg d p).2.1, (pg d p).2.2) := by simp
        rw [e2, h2, h3, ht]
      refine put_all (val d) (live d s) { d with segs := d.segs.set s [] } ⟨by simp [h.ns], h.np, h.nh, fun i hi => ?_, fun i hi c hc => ?_, fun p hp hn ht => ?_⟩ ⟨by omega, .inl ⟨s, hs, hsh, by rw [S, if_pos rfl]⟩⟩ (fun b hb' => ?_) (fun p hp hn => ?_)
      · rw [S]; split
        · simp
        · exact h.small i hi
      · rw [S] at hc; split at hc
        · simp at hc
        · exact h.blk i hi c hc
      · obtain ⟨s', a, h1, h2, h3, v, h4'⟩ := h.pgs p hp ht
        refine ⟨s', a, h1, h2, h3, v, ?_⟩
        rw [S, if_neg]
        · exact h4'
        · intro e
          exact hpend p hp hn ht (by rw [h2, e])
      · obtain ⟨j, h1, h2⟩ := (mem_live d s b).1 hb'
        refine ⟨h.blk s hs b (List.mem_of_getElem? h1), ?_⟩
        unfold val
        rw [h2]
        simp [List.getD, h1]
      · show (if (pg d p).2.2 then _ else _) = _
        unfold val
        by_cases ht : (pg d p).2.2 = true
        · rw [if_pos ht, if_pos ht]
          have := hpend p hp hn ht
          obtain ⟨s', a, h1, h2, h3, v, h4'⟩ := h.pgs p hp ht
          rw [show pg { d with segs := d.segs.set s [] } p = pg d p from rfl, h2, Int.toNat_natCast, S, if_neg (fun e => this (by rw [h2, e]))]
        · rw [if_neg ht, if_neg ht]
theorem write_ok {d : D} (h : OK d) (p v : Int) : OK (write d p v).1 ∧ (write d p v).2 = (if okP p v then (if roomAt d = none then 4 else 0) else 1) ∧ ∀ q, q < 8 → val (write d p v).1 q = if (write d p v).2 = 0 ∧ p.toNat = q then v else val d q := by
  unfold write
  by_cases ho : okP p v
  · simp only [if_pos ho]
    cases hr : roomAt d with
    | none => exact ⟨h, by simp, fun q _ => by simp⟩
    | some k =>
      obtain ⟨hk, hk4⟩ := roomAt_lt h hr
      have ep : put d (p, v) = down (at_ d k) (p, v) := by unfold put; rw [hr]; rfl
      have hp := ho.1
      refine ⟨by simp only [ep]; exact down_ok (at_ok h hk) hk4 hp, by simp, fun q hq => ?_⟩
      simp only [ep]
      rw [down_val (at_ok h hk) (b := (p, v)) hp hq]
      simp only [true_and]
      split <;> rfl
  · simp only [if_neg ho]
    exact ⟨h, trivial, fun q _ => by simp⟩
end Go.Proofs.YtbedfffmicbgmaaDoor.Lf
