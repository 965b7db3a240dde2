/- The plain model of a log of segments (4): who cleans has room. No program in sight. -/
import Derived.Test.YtcgmpccpeocmjaaDoorLfPlain3
namespace Go.Proofs.YtcgmpccpeocmjaaDoor.Lf

def totTo (d : D) : Nat → Nat
  | 0 => 0
  | n + 1 => totTo d n + (seg d n).length
theorem totTo_congr {d e : D} : ∀ n, (∀ i, i < n → (seg d i).length = (seg e i).length) → totTo d n = totTo e n
  | 0, _ => rfl
  | n + 1, h => by unfold totTo; rw [totTo_congr n (fun i hi => h i (by omega)), h n (by omega)]
theorem totTo_one {d e : D} {k : Nat} (hk : ∀ i, i ≠ k → (seg e i).length = (seg d i).length) : ∀ n, totTo e n + (if k < n then (seg d k).length else 0) = totTo d n + (if k < n then (seg e k).length else 0)
  | 0 => by simp [totTo]
  | n + 1 => by
    have ih := totTo_one hk n
    unfold totTo
    by_cases h : k = n
    · subst h
      rw [if_neg (by omega), if_neg (by omega)] at ih
      rw [if_pos (by omega), if_pos (by omega)]; omega
    · have := hk n (Ne.symm h)
      have e1 : (k < n + 1) ↔ k < n := by omega
      simp only [e1]
      omega
/-- All segments but the head's are empty, or full. -/
def Full (d : D) : Prop := ∀ i, i < 6 → i ≠ d.head → (seg d i).length = 0 ∨ (seg d i).length = 4
theorem new_full : Full new := fun i _ _ => .inl (by simp only [seg, new, List.getD_eq_getElem?_getD, List.getElem?_replicate]; split <;> rfl)
theorem put_at {d : D} {k : Nat} (e : roomAt d = some k) (b : Blk) : put d b = down (at_ d k) b := by unfold put; rw [e]; rfl
theorem roomAt_cases {X : Nat → Prop} {d : D} (h : OKx X d) {k : Nat} (e : roomAt d = some k) : k < 6 ∧ (seg d k).length < 4 ∧ (k = d.head ∨ (seg d d.head).length = 4) := by
  have h4 := h.small d.head h.nh
  unfold roomAt at e
  split at e
  · rename_i hl
    injection e with e
    subst e
    exact ⟨h.nh, hl, .inl rfl⟩
  · obtain ⟨_, h2, h3⟩ := emptyFrom_some d 6 0 k e
    exact ⟨by omega, by omega, .inr (by omega)⟩
theorem put_full {X : Nat → Prop} {d : D} (h : OKx X d) (hf : Full d) {k : Nat} (e : roomAt d = some k) (b : Blk) : Full (put d b) ∧ totTo (put d b) 6 = totTo d 6 + 1 := by
  obtain ⟨hk, hk4, hc⟩ := roomAt_cases h e
  have hl := h.ns
  have S : ∀ i, seg (put d b) i = if k = i then seg d k ++ [b] else seg d i := fun i => by
    rw [put_at e, down_seg (by show k < d.segs.length; omega)]; rfl
  refine ⟨fun i hi hne => ?_, ?_⟩
  · have hh : (put d b).head = k := by rw [put_at e]; rfl
    rw [hh] at hne
    rw [S, if_neg (Ne.symm hne)]
    by_cases e2 : i = d.head
    · rcases hc with hc | hc
      · exact absurd (hc.symm ▸ e2) hne
      · subst e2; exact .inr hc
    · exact hf i hi e2
  · have := totTo_one (d := d) (e := put d b) (k := k) (fun i hi => by rw [S, if_neg (Ne.symm hi)]) 6
    rw [if_pos hk, if_pos hk, S, if_pos rfl, List.length_append] at this
    simp at this
    omega
theorem fold_full : ∀ (l : List Blk) (d : D) (X : Nat → Prop), OKx X d → Full d → Roomy d (l.length + 1) → (∀ b ∈ l, 0 ≤ b.1 ∧ b.1 ≤ 7) → Full (l.foldl put d) ∧ totTo (l.foldl put d) 6 = totTo d 6 + l.length ∧ ∃ Y, OKx Y (l.foldl put d) ∧ Roomy (l.foldl put d) 1
  | [], d, X, h, hf, hr, _ => ⟨hf, rfl, X, h, by simpa using hr⟩
  | b :: l, d, X, h, hf, hr, hb => by
    obtain ⟨k, e, hk, hk4, hr'⟩ := Roomy.put h (n := l.length + 1) (by simpa using hr) b
    obtain ⟨f1, f2⟩ := put_full h hf e b
    have h' := (h.at_ hk).down hk4 (hb b (by simp))
    rw [← put_at e] at h'
    obtain ⟨g1, g2, g3⟩ := fold_full l (put d b) _ h' f1 hr' (fun c hc => hb c (by simp [hc]))
    exact ⟨g1, by rw [List.foldl_cons, g2, f2]; simp; omega, g3⟩
theorem write_full {d : D} (h : OK d) (hf : Full d) (p v : Int) : Full (write d p v).1 := by
  unfold write
  split
  · split
    · exact hf
    · rename_i k e; exact (put_full h.x hf e _).1
  · exact hf
theorem cut_x {d : D} (h : OK d) {s : Nat} (hs : s < 6) : OKx (fun p => (pg d p).1 = (s : Int)) { d with segs := d.segs.set s [] } := by
  have S := fun j => seg_set d s j [] (by rw [h.ns]; exact hs) d.pages d.head
  refine ⟨by simp [h.ns], h.np, h.nh, fun i hi => ?_, fun i hi b hb => ?_, fun p hp hx ht => ?_⟩
  · rw [S]; split
    · simp
    · exact h.small i hi
  · rw [S] at hb; split at hb
    · simp at hb
    · exact h.blk i hi b hb
  · obtain ⟨s', a, h1, h2, h3, v, h4⟩ := h.pgs p hp ht
    refine ⟨s', a, h1, h2, h3, v, ?_⟩
    rw [S, if_neg (fun e => hx (by show (pg d p).1 = _; rw [h2, e]))]
    exact h4
/-- What cleaning does to the numbers of blocks. -/
theorem clean_full {d : D} (h : OK d) (hf : Full d) : Full (clean d).1 ∧ ((clean d).2.2 = 0 ∨ (clean d).2.2 = 5 ∨ (clean d).2.2 = 7) ∧ ((clean d).2.2 = 0 → totTo (clean d).1 6 < totTo d 6 ∧ ∃ Y, OKx Y (clean d).1 ∧ Roomy (clean d).1 1) := by
  unfold clean
  cases hb : bestTo d 6 with
  | none => exact ⟨hf, by simp, fun e => by simp at e⟩
  | some s =>
    obtain ⟨hs, hsh, hs0⟩ := bestTo_lt d 6 s hb
    simp only
    split
    · exact ⟨hf, by simp, fun e => by simp at e⟩
    · rename_i h4
      have hs4 : (seg d s).length = 4 := (hf s hs hsh).resolve_left hs0
      have hle := live_le d s
      have S := fun j => seg_set d s j [] (by rw [h.ns]; exact hs) d.pages d.head
      have hf' : Full { d with segs := d.segs.set s [] } := fun i hi hne => by
        rw [S]; split
        · exact .inl rfl
        · exact hf i hi hne
      have hr : Roomy { d with segs := d.segs.set s [] } ((live d s).length + 1) := ⟨by omega, .inl ⟨s, hs, hsh, by rw [S, if_pos rfl]⟩⟩
      obtain ⟨g1, g2, g3⟩ := fold_full (live d s) _ _ (cut_x h hs) hf' hr (fun b hb => by
        obtain ⟨j, h1, _⟩ := (mem_live d s b).1 hb
        exact h.blk s hs b (List.mem_of_getElem? h1))
      refine ⟨g1, .inl rfl, fun _ => ⟨?_, g3⟩⟩
      rw [g2]
      have := totTo_one (d := d) (e := { d with segs := d.segs.set s [] }) (k := s) (fun i hi => by rw [S, if_neg (Ne.symm hi)]) 6
      rw [if_pos hs, if_pos hs, S, if_pos rfl] at this
      simp at this
      omega
theorem roomy_write {X : Nat → Prop} {d : D} (h : OKx X d) (hr : Roomy d 1) {p v : Int} (ho : okP p v) : (write d p v).2 = 0 := by
  obtain ⟨k, e, _⟩ := Roomy.put h (n := 0) hr (p, v)
  unfold write; rw [if_pos ho, e]
/-- All blocks less the live ones. -/
theorem dead_clean {d : D} (h : OK d) (hf : Full d) (e : (clean d).2.2 = 0) : (totTo (clean d).1 6 : Int) - cnt (clean d).1 6 < totTo d 6 - cnt d 6 := by
  have h1 := ((clean_full h hf).2.2 e).1
  have h2 : cnt (clean d).1 6 = cnt d 6 := by
    show (allPages _ 6).length = (allPages _ 6).length
    rw [allPages_len (clean_ok h).1, allPages_len h]
    congr 2
    funext p
    exact clean_is h p
  omega
end Go.Proofs.YtcgmpccpeocmjaaDoor.Lf
