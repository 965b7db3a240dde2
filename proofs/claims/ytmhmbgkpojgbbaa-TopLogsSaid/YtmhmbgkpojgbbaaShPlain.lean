/- The plain model of the shadow disk: what the functions of package shadow do to three lists of numbers, and what holds of them. No program in sight. -/
import Derived.Test.YtmhmbgkpojgbbaaBase
namespace Go.Proofs.Ytmhmbgkpojgbbaa.Sh

/-- The slots, the old table, the new one. -/
structure D where
  slot : List Int
  old : List Int
  now : List Int

def val1 (l : List Int) (s : Int) : Int := if 0 ≤ s then nth l s.toNat else 0
def vals (l t : List Int) : List Int := t.map (val1 l)
def freeB (d : D) (i : Nat) : Bool := !(d.old.contains (i : Int)) && !(d.now.contains (i : Int))
def freeFrom (d : D) : Nat → Nat → Int
  | 0, _ => -1
  | n + 1, i => if freeB d i then (i : Int) else freeFrom d n (i + 1)
def free (d : D) : Int := freeFrom d 16 0
def okP (page value : Int) : Prop := (0 ≤ page ∧ page ≤ 7) ∧ (0 ≤ value ∧ value ≤ 1000)
instance (p v : Int) : Decidable (okP p v) := by unfold okP; infer_instance
def now1 (d : D) (p : Nat) : List Int := if nth d.now p = nth d.old p then d.now.set p (free d) else d.now
def put (d : D) (p : Nat) (v : Int) : D := { d with now := now1 d p, slot := d.slot.set (nth (now1 d p) p).toNat v }
def write (d : D) (page value : Int) : D := if okP page value then put d page.toNat value else d
def fin (d : D) : D := { d with old := d.now }
def crash (d : D) : D := { d with now := d.old }
def new : D := ⟨List.replicate 16 0, List.replicate 8 (-1), List.replicate 8 (-1)⟩
def diff : List Int → List Int → Int
  | a :: l, b :: m => (if a = b then 0 else 1) + diff l m
  | _, _ => 0

/-- What holds of a table. -/
structure Tab (t : List Int) : Prop where
  len : t.length = 8
  lo : ∀ i, i < 8 → -1 ≤ nth t i
  hi : ∀ i, i < 8 → nth t i ≤ 15
  sep : ∀ i j, i < 8 → j < 8 → i ≠ j → 0 ≤ nth t i → nth t i ≠ nth t j

/-- What holds of a disk. -/
structure OK (d : D) : Prop where
  slots : d.slot.length = 16
  told : Tab d.old
  tnow : Tab d.now
  fresh : ∀ i j, i < 8 → j < 8 → nth d.now i ≠ nth d.old i → 0 ≤ nth d.now i ∧ nth d.now i ≠ nth d.old j

theorem nodup_len {l m : List Int} (hn : l.Nodup) (hs : ∀ x ∈ l, x ∈ m) : l.length ≤ m.length := by
  induction l generalizing m with
  | nil => simp
  | cons a l ih =>
    have ha : a ∈ m := hs a (by simp)
    have hn' := List.nodup_cons.1 hn
    have := ih (m := m.erase a) hn'.2 (fun x hx => by
      have hne : x ≠ a := fun e => hn'.1 (e ▸ hx)
      exact (List.mem_erase_of_ne hne).2 (hs x (by simp [hx])))
    rw [List.length_erase_of_mem ha] at this
    have := List.length_pos_of_mem ha
    simp only [List.length_cons]
    omega

theorem freeFrom_spec (d : D) : ∀ n i, (∃ k, i ≤ k ∧ k < i + n ∧ freeB d k = true) → ∃ k : Nat, i ≤ k ∧ k < i + n ∧ freeFrom d n i = (k : Int) ∧ freeB d k = true
  | 0, i, ⟨k, h1, h2, _⟩ => by omega
  | n + 1, i, ⟨k, h1, h2, h3⟩ => by
    unfold freeFrom
    by_cases h : freeB d i = true
    · exact ⟨i, by omega, by omega, by simp [h], h⟩
    · have hk : i ≠ k := fun e => h (e ▸ h3)
      obtain ⟨j, h4, h5, h6, h7⟩ := freeFrom_spec d n (i + 1) ⟨k, by omega, by omega, h3⟩
      exact ⟨j, by omega, by omega, by simp [h, h6], h7⟩

theorem nth_mem {t : List Int} {i : Nat} (h : i < t.length) : nth t i ∈ t := by simp [nth, List.getD, h]
theorem mem_nth {t : List Int} {x : Int} (h : x ∈ t) : ∃ i, i < t.length ∧ nth t i = x := by
  obtain ⟨k, hk, e⟩ := List.getElem_of_mem h
  exact ⟨k, hk, by simp [nth, List.getD, hk, e]⟩
theorem nth_rep (n i : Nat) (x : Int) (h : i < n) : nth (List.replicate n x) i = x := by simp [nth, List.getD, h]
theorem nth_set (t : List Int) (i j : Nat) (x : Int) (h : i < t.length) : nth (t.set i x) j = if i = j then x else nth t j := by
  simp only [nth, List.getD_eq_getElem?_getD, List.getElem?_set]
  split
  · rename_i e; subst e; simp
  · rfl

/-- There is a free slot where a page has none of its own: sixteen slots, fifteen other places. -/
theorem free_spec {d : D} (hd : OK d) {p : Nat} (hp : p < 8) (he : nth d.now p = nth d.old p) : ∃ k : Nat, k < 16 ∧ free d = (k : Int) ∧ freeB d k = true := by
  have key : ∃ k, 0 ≤ k ∧ k < 0 + 16 ∧ freeB d k = true := by
    refine Classical.byContradiction fun hno => ?_
    have hall : ∀ x ∈ (List.range 16).map (fun n : Nat => (n : Int)), x ∈ d.old ++ d.now.eraseIdx p := by
      intro x hx
      obtain ⟨k, hk, rfl⟩ := List.mem_map.1 hx
      have hk16 := List.mem_range.1 hk
      have hf : freeB d k = false := by
        cases h : freeB d k with
        | true => exact (hno ⟨k, by omega, by omega, h⟩).elim
        | false => rfl
      unfold freeB at hf
      by_cases ho : (k : Int) ∈ d.old
      · exact List.mem_append_left _ ho
      · have hn : (k : Int) ∈ d.now := by
          simp only [List.contains_eq_mem] at hf
          simpa [ho] using hf
        obtain ⟨i, hi, e⟩ := mem_nth hn
        by_cases hip : i = p
        · subst hip
          rw [he] at e
          exact absurd (e ▸ nth_mem (by rw [hd.told.len]; exact hp)) ho
        · refine List.mem_append_right _ (List.mem_eraseIdx_iff_getElem.2 ⟨i, hi, hip, ?_⟩)
          simpa [nth, List.getD, hi] using e
    have hnd : ((List.range 16).map (fun n : Nat => (n : Int))).Nodup := by decide
    have := nodup_len hnd hall
    rw [List.length_append, List.length_eraseIdx, if_pos (by rw [hd.tnow.len]; exact hp), hd.told.len, hd.tnow.len] at this
    simp at this
  obtain ⟨k, _, h2, h3, h4⟩ := freeFrom_spec d 16 0 key
  exact ⟨k, by omega, h3, h4⟩

theorem freeB_old {d : D} {k : Nat} (h : freeB d k = true) : ∀ i, i < d.old.length → nth d.old i ≠ (k : Int) := fun i hi e => by
  have : (k : Int) ∈ d.old := e ▸ nth_mem hi
  simp [freeB, this] at h
theorem freeB_now {d : D} {k : Nat} (h : freeB d k = true) : ∀ i, i < d.now.length → nth d.now i ≠ (k : Int) := fun i hi e => by
  have : (k : Int) ∈ d.now := e ▸ nth_mem hi
  simp [freeB, this] at h

/-- The slot that a page gets, or has. -/
structure Slot (d : D) (p : Nat) (s : Nat) : Prop where
  lt : s < 16
  at_ : nth (now1 d p) p = (s : Int)
  old : ∀ i, i < 8 → nth d.old i ≠ (s : Int)
  now : ∀ i, i < 8 → i ≠ p → nth d.now i ≠ (s : Int)
theorem slot_of {d : D} (hd : OK d) {p : Nat} (hp : p < 8) : ∃ s, Slot d p s := by
  by_cases he : nth d.now p = nth d.old p
  · obtain ⟨k, h1, h2, h3⟩ := free_spec hd hp he
    refine ⟨k, h1, ?_, fun i hi => freeB_old h3 i (by rw [hd.told.len]; exact hi), fun i hi _ => freeB_now h3 i (by rw [hd.tnow.len]; exact hi)⟩
    unfold now1
    rw [if_pos he, nth_set _ _ _ _ (by rw [hd.tnow.len]; exact hp), if_pos rfl, h2]
  · have h0 := (hd.fresh p p hp hp he).1
    have h15 := hd.tnow.hi p hp
    refine ⟨(nth d.now p).toNat, by omega, ?_, fun i hi => ?_, fun i hi hne => ?_⟩
    · unfold now1; rw [if_neg he]; omega
    · have := (hd.fresh p i hp hi he).2; omega
    · have := hd.tnow.sep p i hp hi (fun e => hne e.symm) h0; omega
theorem now1_other {d : D} (hd : OK d) {p i : Nat} (hp : p < 8) (hi : i ≠ p) : nth (now1 d p) i = nth d.now i := by
  unfold now1
  split
  · rw [nth_set _ _ _ _ (by rw [hd.tnow.len]; exact hp), if_neg (fun e => hi e.symm)]
  · rfl
theorem now1_len (d : D) (p : Nat) : (now1 d p).length = d.now.length := by unfold now1; split <;> simp

theorem put_ok {d : D} (hd : OK d) {p : Nat} (hp : p < 8) (v : Int) : OK (put d p v) := by
  obtain ⟨s, hs⟩ := slot_of hd hp
  have other := fun i (hi : i ≠ p) => now1_other hd hp hi
  refine ⟨by simp [put, hd.slots], hd.told, ⟨by simp [put, now1_len, hd.tnow.len], fun i hi => ?_, fun i hi => ?_, fun i j hi hj hne h0 => ?_⟩, fun i j hi hj hne => ?_⟩
  · show -1 ≤ nth (now1 d p) i
    by_cases e : i = p
    · subst e; rw [hs.at_]; omega
    · rw [other i e]; exact hd.tnow.lo i hi
  · show nth (now1 d p) i ≤ 15
    by_cases e : i = p
    · subst e; rw [hs.at_]; have := hs.lt; omega
    · rw [other i e]; exact hd.tnow.hi i hi
  · show nth (now1 d p) i ≠ nth (now1 d p) j
    have h0' : 0 ≤ nth (now1 d p) i := h0
    by_cases e : i = p
    · subst e
      rw [hs.at_, other j (fun e => hne e.symm)]
      exact fun h => hs.now j hj (fun e => hne e.symm) h.symm
    · rw [other i e] at h0' ⊢
      by_cases e2 : j = p
      · subst e2; rw [hs.at_]; exact hs.now i hi e
      · rw [other j e2]; exact hd.tnow.sep i j hi hj hne h0'
  · show 0 ≤ nth (now1 d p) i ∧ nth (now1 d p) i ≠ nth d.old j
    have hne' : nth (now1 d p) i ≠ nth d.old i := hne
    by_cases e : i = p
    · subst e; rw [hs.at_]; exact ⟨by omega, fun h => hs.old j hj h.symm⟩
    · rw [other i e] at hne' ⊢; exact hd.fresh i j hi hj hne'
theorem write_ok {d : D} (hd : OK d) (page v : Int) : OK (write d page v) := by
  unfold write
  split
  · rename_i h; unfold okP at h; exact put_ok hd (by omega) v
  · exact hd
theorem fin_ok {d : D} (hd : OK d) : OK (fin d) := ⟨hd.slots, hd.tnow, hd.tnow, fun _ _ _ _ h => (h rfl).elim⟩
theorem crash_ok {d : D} (hd : OK d) : OK (crash d) := ⟨hd.slots, hd.told, hd.told, fun _ _ _ _ h => (h rfl).elim⟩
theorem new_ok : OK new := by
  have t : Tab (List.replicate 8 (-1)) := ⟨rfl, fun i hi => by rw [nth_rep 8 i _ hi]; omega, fun i hi => by rw [nth_rep 8 i _ hi]; omega, fun i j hi _ _ h0 => by rw [nth_rep 8 i _ hi] at h0; omega⟩
  exact ⟨rfl, t, t, fun _ _ _ _ h => (h rfl).elim⟩

/-- One step of what is done to a disk. -/
def step (d : D) (l : List Int) : D := if l.length = 2 then write d (nth l 0) (nth l 1) else if l.length = 1 then fin d else d
def run (d : D) (ls : List (List Int)) : D := ls.foldl step d
theorem step_ok {d : D} (hd : OK d) (l : List Int) : OK (step d l) := by
  unfold step
  split
  · exact write_ok hd _ _
  · split
    · exact fin_ok hd
    · exact hd
theorem run_ok {d : D} (hd : OK d) (ls : List (List Int)) : OK (run d ls) := by
  induction ls generalizing d with
  | nil => exact hd
  | cons l ls ih => exact ih (step_ok hd l)
theorem run_snoc (d : D) (ls : List (List Int)) (k : Nat) (h : k < ls.length) : run d (ls.take (k + 1)) = step (run d (ls.take k)) (nthR ls k) := by
  rw [List.take_succ_eq_append_getElem h, run, List.foldl_append]
  simp [run, nthR, List.getD, h]

/-! ### The laws -/
theorem val1_set {l : List Int} {s : Nat} (hs : s < l.length) (v x : Int) : val1 (l.set s v) x = if x = (s : Int) then v else val1 l x := by
  unfold val1
  by_cases hx : 0 ≤ x
  · rw [if_pos hx, if_pos hx, nth_set _ _ _ _ hs]
    by_cases e : x = (s : Int)
    · rw [if_pos e, if_pos (by omega)]
    · rw [if_neg e, if_neg (by omega)]
  · rw [if_neg hx, if_neg hx, if_neg (by omega)]
/-- WHAT IS WRITTEN LEAVES THE OLD VALUES. -/
theorem vals_old {d : D} (hd : OK d) (page v : Int) : vals (write d page v).slot (write d page v).old = vals d.slot d.old := by
  unfold write
  split
  · rename_i h
    unfold okP at h
    have hp : page.toNat < 8 := by omega
    obtain ⟨s, hs⟩ := slot_of hd hp
    show vals (d.slot.set (nth (now1 d page.toNat) page.toNat).toNat v) d.old = vals d.slot d.old
    rw [hs.at_, Int.toNat_natCast]
    unfold vals
    refine List.map_congr_left fun x hx => ?_
    obtain ⟨i, hi, rfl⟩ := mem_nth hx
    rw [val1_set (by rw [hd.slots]; exact hs.lt), if_neg (hs.old i (by rw [← hd.told.len]; exact hi))]
  · rfl
theorem old_write (d : D) (page v : Int) : (write d page v).old = d.old := by unfold write; split <;> rfl
theorem diff_self (l : List Int) : diff l l = 0 := by induction l <;> simp [diff, *]
theorem nth_vals (l t : List Int) {i : Nat} (h : i < t.length) : nth (vals l t) i = val1 l (nth t i) := by
  simp [nth, vals, List.getD, h]
theorem vals_put_same {d : D} (hd : OK d) {p : Nat} (hp : p < 8) (v : Int) : nth (vals (put d p v).slot (put d p v).now) p = v := by
  obtain ⟨s, hs⟩ := slot_of hd hp
  rw [nth_vals _ _ (by simp [put, now1_len, hd.tnow.len, hp])]
  show val1 (d.slot.set (nth (now1 d p) p).toNat v) (nth (now1 d p) p) = v
  rw [hs.at_, Int.toNat_natCast, val1_set (by rw [hd.slots]; exact hs.lt), if_pos rfl]
theorem vals_put_other {d : D} (hd : OK d) {p i : Nat} (hp : p < 8) (hi : i < 8) (hne : i ≠ p) (v : Int) :
    nth (vals (put d p v).slot (put d p v).now) i = nth (vals d.slot d.now) i := by
  obtain ⟨s, hs⟩ := slot_of hd hp
  rw [nth_vals _ _ (by simp [put, now1_len, hd.tnow.len, hi]), nth_vals _ _ (by rw [hd.tnow.len]; exact hi)]
  show val1 (d.slot.set (nth (now1 d p) p).toNat v) (nth (now1 d p) i) = _
  rw [hs.at_, Int.toNat_natCast, val1_set (by rw [hd.slots]; exact hs.lt), now1_other hd hp hne, if_neg (hs.now i hi hne)]
end Go.Proofs.Ytmhmbgkpojgbbaa.Sh
