/- The plain law of a crash: turn by turn undone, all is as when the last record of all is undone first. No program in sight. -/
import Derived.Test.YtmhmbgkpojgbbabDoorUnPlain
namespace Go.Proofs.YtmhmbgkpojgbbabDoor.Un

/-- Records of different turns name different blocks. -/
def Sep (l : List P) : Prop := ∀ r ∈ l, ∀ q ∈ l, r.t ≠ q.t → r.b.toNat ≠ q.b.toNat
theorem OK.sep {d : D} (h : OK d) : Sep d.was := fun r hr q hq hn e => hn (by rw [← h.own r hr, ← h.own q hq, e])
theorem un_turn (t : Int) : ∀ (l : List P) (blk : List Int), Sep l → un all l blk = un all (l.filter (stay t)) (un (isT t) l blk)
  | [], _, _ => rfl
  | r :: l, blk, h => by
    have ih := un_turn t l blk (fun a ha b hb => h a (by simp [ha]) b (by simp [hb]))
    rw [List.filter_cons]
    by_cases ht : r.t = t
    · have e1 : stay t r = false := by simp [stay, ht]
      have e2 : isT t r = true := by simp [isT, ht]
      rw [e1, if_neg (by decide)]
      conv => lhs; unfold un
      conv => rhs; rw [show un (isT t) (r :: l) blk = (un (isT t) l blk).set r.b.toNat r.v by conv => lhs; unfold un; rw [if_pos e2]]
      rw [if_pos (show all r = true from rfl), un_set all r.b.toNat r.v _ _ (fun q hq _ => by
        obtain ⟨h1, h2⟩ := List.mem_filter.1 hq
        refine h q (by simp [h1]) r (by simp) (fun e => ?_)
        rw [ht] at e
        simp [stay, e] at h2), ih]
    · have e1 : stay t r = true := by simp [stay, ht]
      have e2 : isT t r = false := by simp [isT, ht]
      rw [e1, if_pos rfl]
      conv => lhs; unfold un
      conv => rhs; unfold un
      rw [if_pos (show all r = true from rfl), if_pos (show all r = true from rfl), ih]
      congr 2
      conv => rhs; unfold un
      rw [e2, if_neg (by decide)]
theorem any_stay (t u : Int) (hu : u ≠ t) : ∀ l : List P, (l.filter (stay t)).any (isT u) = l.any (isT u)
  | [] => rfl
  | r :: l => by
    rw [List.filter_cons]
    have ih := any_stay t u hu l
    by_cases ht : r.t = t
    · have e1 : stay t r = false := by simp [stay, ht]
      have e2 : isT u r = false := by simp [isT, ht, Ne.symm hu]
      rw [e1, if_neg (by decide), ih, List.any_cons, e2, Bool.false_or]
    · have e1 : stay t r = true := by simp [stay, ht]
      rw [e1, if_pos rfl, List.any_cons, List.any_cons, ih]
theorem cnt_stay (t : Int) : ∀ l : List P, cnt l = cnt (l.filter (stay t)) + if l.any (isT t) then 1 else 0
  | [] => rfl
  | r :: l => by
    have ih := cnt_stay t l
    rw [List.filter_cons]
    by_cases ht : r.t = t
    · have e1 : stay t r = false := by simp [stay, ht]
      have e2 : isT t r = true := by simp [isT, ht]
      rw [e1, if_neg (by decide), List.any_cons, e2, Bool.true_or, if_pos rfl]
      rw [show cnt (r :: l) = cnt l + if l.any (isT r.t) then 0 else 1 from rfl, ht]
      by_cases ha : l.any (isT t) = true
      · rw [if_pos ha] at ih ⊢; omega
      · rw [if_neg ha] at ih ⊢; omega
    · have e1 : stay t r = true := by simp [stay, ht]
      have e2 : isT t r = false := by simp [isT, ht]
      rw [e1, if_pos rfl, List.any_cons, e2, Bool.false_or]
      rw [show cnt (r :: l) = cnt l + if l.any (isT r.t) then 0 else 1 from rfl, show cnt (r :: l.filter (stay t)) = cnt (l.filter (stay t)) + if (l.filter (stay t)).any (isT r.t) then 0 else 1 from rfl, any_stay t r.t ht]
      omega
theorem stay_len (t : Int) : ∀ l : List P, ((l.filter (stay t)).length < l.length ↔ l.any (isT t) = true)
  | [] => by simp
  | r :: l => by
    have ih := stay_len t l
    have hl := List.length_filter_le (stay t) l
    rw [List.filter_cons]
    by_cases ht : r.t = t
    · have e1 : stay t r = false := by simp [stay, ht]
      have e2 : isT t r = true := by simp [isT, ht]
      rw [e1, if_neg (by decide), List.any_cons, e2, Bool.true_or, List.length_cons]
      simp; omega
    · have e1 : stay t r = true := by simp [stay, ht]
      have e2 : isT t r = false := by simp [isT, ht]
      rw [e1, if_pos rfl, List.any_cons, e2, Bool.false_or, List.length_cons, List.length_cons, ← ih]
      omega
/-- The disk behind the first k turns' undoing. -/
def runC (d : D) : Nat → D
  | 0 => d
  | k + 1 => undo (runC d k) k
def cntC (d : D) : Nat → Nat
  | 0 => 0
  | k + 1 => if (runC d (k + 1)).was.length < (runC d k).was.length then cntC d k + 1 else cntC d k
structure CrI (d x : D) (k n : Nat) : Prop where
  ok : OK x
  blk : un all x.was x.blk = un all d.was d.blk
  was : ∀ r ∈ x.was, (k : Int) ≤ r.t
  busy : ∀ i, i < 8 → nth x.busy i = -1 ∨ (k : Int) ≤ nth x.busy i
  cnt : n + Un.cnt x.was = Un.cnt d.was
theorem crI {d : D} (h : OK d) : ∀ k, k ≤ 20 → CrI d (runC d k) k (cntC d k)
  | 0, _ => ⟨h, rfl, fun r hr => (by have := h.rt r hr; unfold okT at this; exact this.1), fun i hi => (by have := h.lo i hi; show nth d.busy i = -1 ∨ _; have e : runC d 0 = d := rfl; rw [e]; omega), Nat.zero_add _⟩
  | k + 1, hk => by
    have ih := crI h k (by omega)
    have ht : okT (k : Int) := by unfold okT; omega
    have hu : runC d (k + 1) = leave ⟨un (isT k) (runC d k).was (runC d k).blk, (runC d k).was, (runC d k).busy⟩ k := by
      show undo (runC d k) k = _
      unfold undo
      rw [if_pos ht]
    have hO := undo_ok ih.ok k
    have hw : (runC d (k + 1)).was = (runC d k).was.filter (stay k) := by rw [hu]; rfl
    refine ⟨hO, ?_, fun r hr => ?_, fun i hi => ?_, ?_⟩
    · rw [hw, ← ih.blk, un_turn k _ _ ih.ok.sep]
      rw [hu]; rfl
    · rw [hw] at hr
      obtain ⟨h1, h2⟩ := List.mem_filter.1 hr
      have := ih.was r h1
      have h3 : r.t ≠ (k : Int) := by simpa [stay] using h2
      omega
    · have hb : (runC d (k + 1)).busy = free k (runC d k).busy := by rw [hu]; rfl
      rw [hb, nth_free _ _ _ (by rw [ih.ok.busy]; exact hi)]
      have := ih.busy i hi
      split <;> omega
    · have h1 := cnt_stay k (runC d k).was
      have h2 := stay_len k (runC d k).was
      have hc : cntC d (k + 1) = if (runC d (k + 1)).was.length < (runC d k).was.length then cntC d k + 1 else cntC d k := rfl
      have := ih.cnt
      rw [hc, hw]
      by_cases ha : (runC d k).was.any (isT k) = true
      · rw [if_pos (h2.2 ha)]
        rw [if_pos ha] at h1
        omega
      · rw [if_neg (fun hl => ha (h2.1 hl))]
        rw [if_neg ha] at h1
        omega
theorem crash_run {d : D} (h : OK d) : runC d 20 = crash d ∧ cntC d 20 = cnt d.was := by
  have H := crI h 20 (Nat.le_refl _)
  have hw : (runC d 20).was = [] := by
    cases hl : (runC d 20).was with
    | nil => rfl
    | cons r l =>
      have hm : r ∈ (runC d 20).was := by rw [hl]; simp
      have h1 := H.was r hm
      have h2 := H.ok.rt r hm
      unfold okT at h2
      omega
  have hb : (runC d 20).busy = List.replicate 8 (-1) := eq_nth (by rw [H.ok.busy]; rfl) (fun j hj => by
    rw [H.ok.busy] at hj
    have h1 := H.busy j hj
    have h2 := H.ok.lo j hj
    rw [nth_rep 8 j _ hj]
    omega)
  have hk : (runC d 20).blk = un all d.was d.blk := by
    have := H.blk
    rw [hw] at this
    exact this
  refine ⟨?_, ?_⟩
  · generalize runC d 20 = x at hw hb hk
    obtain ⟨a, b, c⟩ := x
    simp only at hw hb hk
    unfold crash
    rw [hw, hb, hk]
  · have := H.cnt
    rw [hw] at this
    simpa [cnt] using this
/-- A turn left one record after the other: what lasts. -/
theorem stay_take (t : Int) (l : List P) (k : Nat) (hk : k < l.length) : (l.take (k + 1)).filter (stay t) = if l[k].t = t then (l.take k).filter (stay t) else (l.take k).filter (stay t) ++ [l[k]] := by
  rw [List.take_succ_eq_append_getElem hk, List.filter_append]
  by_cases h : l[k].t = t
  · rw [if_pos h, List.filter_cons_of_neg (by simp [stay, h])]; simp
  · rw [if_neg h, List.filter_cons_of_pos (by simp [stay, h])]; simp
end Go.Proofs.YtmhmbgkpojgbbabDoor.Un
