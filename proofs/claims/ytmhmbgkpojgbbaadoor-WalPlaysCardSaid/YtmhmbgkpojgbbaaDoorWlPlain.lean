/- The plain model of a disk with a log ahead of it: blocks at home, records (turn, block, value, end), how many last. No program in sight. -/
import Derived.Test.YtmhmbgkpojgbbaaDoorBase
namespace Go.Proofs.YtmhmbgkpojgbbaaDoor.Wl

/-- A record: its turn, block, value; is it a turn's end? -/
structure R where
  t : Int
  b : Int
  v : Int
  e : Bool
structure D where
  home : List Int
  log : List R
  syn : Nat
def new : D := ⟨List.replicate 8 0, [], 0⟩
/-- Has a turn ended? -/
def ended (l : List R) (t : Int) : Bool := l.any fun r => r.e && r.t == t
/-- What a turn wrote, laid into out. -/
def app (t : Int) : List R → List Int → List Int
  | [], out => out
  | r :: l, out => app t l (if r.e = false ∧ r.t = t then out.set r.b.toNat r.v else out)
/-- The values behind the first n records. -/
def vals (home : List Int) (l : List R) : Nat → List Int
  | 0 => home
  | n + 1 => match l[n]? with
    | some r => if r.e = true then app r.t (l.take n) (vals home l n) else vals home l n
    | none => vals home l n
def values (d : D) : List Int := vals d.home d.log d.log.length
def turn (l : List R) (t : Int) : Int := if 0 ≤ t ∧ t ≤ 19 then (if ended l t = true then 7 else 0) else 1
def wrErr (l : List R) (t b v : Int) : Int := if turn l t = 0 then (if (0 ≤ b ∧ b ≤ 7) ∧ (0 ≤ v ∧ v ≤ 1000) then (if l.length = 60 then 4 else 0) else 1) else turn l t
def write (d : D) (t b v : Int) : D × Int := if wrErr d.log t b v = 0 then (⟨d.home, d.log ++ [⟨t, b, v, false⟩], d.syn⟩, 0) else (d, wrErr d.log t b v)
def endErr (l : List R) (t : Int) : Int := if turn l t = 0 then (if l.length = 60 then 4 else 0) else turn l t
def end_ (d : D) (t : Int) : D × Int := if endErr d.log t = 0 then (⟨d.home, d.log ++ [⟨t, 0, 0, true⟩], d.syn⟩, 0) else (d, endErr d.log t)
def sync (d : D) : D := ⟨d.home, d.log, d.log.length⟩
/-- What lasts of a log: records of turns that have ended in it. -/
def last (l : List R) : List R := l.filter fun r => ended l r.t
def crash (d : D) (n : Int) : D × Int := if d.syn ≤ n ∧ n ≤ d.log.length then (⟨d.home, last (d.log.take n.toNat), (last (d.log.take n.toNat)).length⟩, 0) else (d, 1)
def allEnded (l : List R) : Bool := l.all fun r => ended l r.t
def goHome (d : D) : D × Int := if allEnded d.log = true then (⟨values d, [], 0⟩, 0) else (d, 7)

structure OK (d : D) : Prop where
  home : d.home.length = 8
  len : d.log.length ≤ 60
  syn : d.syn ≤ d.log.length
  blk : ∀ r ∈ d.log, 0 ≤ r.b ∧ r.b ≤ 7
  trn : ∀ r ∈ d.log, 0 ≤ r.t ∧ r.t ≤ 19
theorem new_ok : OK new := ⟨rfl, by decide, Nat.le_refl _, (fun r h => by cases h), (fun r h => by cases h)⟩
theorem app_len (t : Int) : ∀ (l : List R) (out : List Int), (app t l out).length = out.length
  | [], _ => rfl
  | r :: l, out => by unfold app; rw [app_len t l]; split <;> simp
theorem vals_len (home : List Int) (l : List R) : ∀ n, (vals home l n).length = home.length
  | 0 => rfl
  | n + 1 => by
    unfold vals
    split
    · split
      · rw [app_len, vals_len home l n]
      · exact vals_len home l n
    · exact vals_len home l n
theorem values_len {d : D} (h : OK d) : (values d).length = 8 := by unfold values; rw [vals_len, h.home]
theorem app_snoc (t : Int) (r : R) : ∀ (l : List R) (out : List Int), app t (l ++ [r]) out = if r.e = false ∧ r.t = t then (app t l out).set r.b.toNat r.v else app t l out
  | [], out => rfl
  | x :: l, out => by rw [List.cons_append]; unfold app; exact app_snoc t r l _
theorem vals_front (home : List Int) (l m : List R) : ∀ n, n ≤ l.length → vals home (l ++ m) n = vals home l n
  | 0, _ => rfl
  | n + 1, h => by
    unfold vals
    rw [List.getElem?_append_left (by omega), vals_front home l m n (by omega), List.take_append_of_le_length (by omega)]
theorem vals_succ (home : List Int) (l : List R) (n : Nat) : vals home l (n + 1) = match l[n]? with
    | some r => if r.e = true then app r.t (l.take n) (vals home l n) else vals home l n
    | none => vals home l n := rfl
theorem vals_snoc (home : List Int) (l : List R) (r : R) : vals home (l ++ [r]) (l.length + 1) = if r.e = true then app r.t l (vals home l l.length) else vals home l l.length := by
  rw [vals_succ, vals_front home l [r] l.length (Nat.le_refl _)]
  simp
theorem snoc_ind {P : List R → Prop} (h0 : P []) (h1 : ∀ l r, P l → P (l ++ [r])) (l : List R) : P l := by
  have : ∀ n (l : List R), l.length = n → P l := by
    intro n
    induction n with
    | zero => intro l hl; rw [List.eq_nil_of_length_eq_zero hl]; exact h0
    | succ n ih =>
      intro l hl
      have hne : l ≠ [] := fun h => by rw [h] at hl; cases hl
      rw [← List.dropLast_concat_getLast hne]
      exact h1 _ _ (ih _ (by rw [List.length_dropLast, hl]; rfl))
  exact this _ l rfl
theorem app_keep (p : Int → Bool) (t : Int) (ht : p t = true) : ∀ (l : List R) (out : List Int), app t (l.filter fun r => p r.t) out = app t l out
  | [], _ => rfl
  | r :: l, out => by
    rw [List.filter_cons]
    by_cases h : p r.t = true
    · rw [if_pos h]
      unfold app
      exact app_keep p t ht l _
    · rw [if_neg h, app_keep p t ht l out]
      have hne : ¬ (r.e = false ∧ r.t = t) := by rintro ⟨_, e⟩; rw [e, ht] at h; exact h rfl
      conv => rhs; unfold app
      rw [if_neg hne]
/-- Records of turns that do not end leave no trace. -/
theorem vals_keep (p : Int → Bool) (home : List Int) (l : List R) : (∀ r ∈ l, r.e = true → p r.t = true) → vals home (l.filter fun r => p r.t) (l.filter fun r => p r.t).length = vals home l l.length := by
  refine snoc_ind (P := fun l => (∀ r ∈ l, r.e = true → p r.t = true) → vals home (l.filter fun r => p r.t) (l.filter fun r => p r.t).length = vals home l l.length) ?_ ?_ l
  · intro _; rfl
  · intro l r ih h
    have ih := ih (fun x hx => h x (by simp [hx]))
    have hr := h r (by simp)
    rw [List.filter_append, List.length_append (as := l), show ([r] : List R).length = 1 from rfl, vals_snoc]
    by_cases hp : p r.t = true
    · have e1 : [r].filter (fun r => p r.t) = [r] := by simp [hp]
      rw [e1, List.length_append, show ([r] : List R).length = 1 from rfl, vals_snoc, ih]
      by_cases he : r.e = true
      · rw [if_pos he, if_pos he, app_keep p r.t hp]
      · rw [if_neg he, if_neg he]
    · have e1 : [r].filter (fun r => p r.t) = [] := by simp [hp]
      have he : ¬ r.e = true := fun he => hp (hr he)
      rw [e1, List.append_nil, ih, if_neg he]
theorem ended_mem {l : List R} {r : R} (h : r ∈ l) (he : r.e = true) : ended l r.t = true := by
  unfold ended
  rw [List.any_eq_true]
  exact ⟨r, h, by simp [he]⟩
theorem ended_snoc (l : List R) (r : R) (t : Int) : ended (l ++ [r]) t = (ended l t || (r.e && r.t == t)) := by unfold ended; rw [List.any_append]; simp
/-- Of what lasts all turns have ended. -/
theorem ended_last (l : List R) (t : Int) : ended (last l) t = ended l t := by
  rw [Bool.eq_iff_iff]
  unfold ended last
  rw [List.any_eq_true, List.any_eq_true]
  constructor
  · rintro ⟨r, h1, h2⟩; exact ⟨r, (List.mem_filter.1 h1).1, h2⟩
  · rintro ⟨r, h1, h2⟩
    refine ⟨r, List.mem_filter.2 ⟨h1, ?_⟩, h2⟩
    have : r.e = true := by cases h : r.e <;> simp [h] at h2 ⊢
    exact ended_mem h1 this
theorem last_last (l : List R) : last (last l) = last l := by
  show (last l).filter (fun r => ended (last l) r.t) = last l
  rw [List.filter_eq_self]
  intro r hr
  show ended (last l) r.t = true
  rw [ended_last]
  exact (List.mem_filter.1 hr).2
theorem vals_last (home : List Int) (l : List R) : vals home (last l) (last l).length = vals home l l.length := vals_keep (fun t => ended l t) home l (fun _ hr he => ended_mem hr he)
theorem allEnded_last (l : List R) : allEnded (last l) = true := by
  unfold allEnded
  rw [List.all_eq_true]
  intro r hr
  rw [ended_last]
  exact (List.mem_filter.1 hr).2
theorem turn_zero {l : List R} {t : Int} (h : turn l t = 0) : (0 ≤ t ∧ t ≤ 19) ∧ ended l t = false := by
  unfold turn at h
  split at h
  · rename_i h0
    split at h
    · cases h
    · rename_i h1; exact ⟨h0, by simpa using h1⟩
  · cases h
theorem wrErr_zero {l : List R} {t b v : Int} (h : wrErr l t b v = 0) : turn l t = 0 ∧ (0 ≤ b ∧ b ≤ 7) ∧ (0 ≤ v ∧ v ≤ 1000) ∧ l.length ≠ 60 := by
  unfold wrErr at h
  split at h
  · rename_i h0
    split at h
    · rename_i h1
      split at h
      · cases h
      · rename_i h2; exact ⟨h0, h1.1, h1.2, h2⟩
    · cases h
  · rename_i h0; exact absurd h h0
theorem endErr_zero {l : List R} {t : Int} (h : endErr l t = 0) : turn l t = 0 ∧ l.length ≠ 60 := by
  unfold endErr at h
  split at h
  · rename_i h0
    split at h
    · cases h
    · rename_i h2; exact ⟨h0, h2⟩
  · rename_i h0; exact absurd h h0
theorem write_ok {d : D} (h : OK d) (t b v : Int) : OK (write d t b v).1 := by
  unfold write
  split
  · rename_i hw
    obtain ⟨h1, h2, _, h4⟩ := wrErr_zero hw
    have := h.len
    refine ⟨h.home, by simp; omega, by simp; have := h.syn; omega, fun r hr => ?_, fun r hr => ?_⟩
    · rcases List.mem_append.1 hr with hr | hr
      · exact h.blk r hr
      · simp only [List.mem_singleton] at hr; subst hr; exact h2
    · rcases List.mem_append.1 hr with hr | hr
      · exact h.trn r hr
      · simp only [List.mem_singleton] at hr; subst hr; exact (turn_zero h1).1
  · exact h
theorem end_ok {d : D} (h : OK d) (t : Int) : OK (end_ d t).1 := by
  unfold end_
  split
  · rename_i hw
    obtain ⟨h1, h4⟩ := endErr_zero hw
    have := h.len
    refine ⟨h.home, by simp; omega, by simp; have := h.syn; omega, fun r hr => ?_, fun r hr => ?_⟩
    · rcases List.mem_append.1 hr with hr | hr
      · exact h.blk r hr
      · simp only [List.mem_singleton] at hr; subst hr; exact ⟨Int.le_refl _, by show (0 : Int) ≤ 7; decide⟩
    · rcases List.mem_append.1 hr with hr | hr
      · exact h.trn r hr
      · simp only [List.mem_singleton] at hr; subst hr; exact (turn_zero h1).1
  · exact h
theorem sync_ok {d : D} (h : OK d) : OK (sync d) := ⟨h.home, h.len, Nat.le_refl _, h.blk, h.trn⟩
theorem last_len (l : List R) : (last l).length ≤ l.length := List.length_filter_le _ _
theorem crash_ok {d : D} (h : OK d) (n : Int) : OK (crash d n).1 := by
  unfold crash
  split
  · have h1 := last_len (d.log.take n.toNat)
    have h2 : (d.log.take n.toNat).length ≤ d.log.length := by rw [List.length_take]; omega
    have h3 := h.len
    refine ⟨h.home, by show (last _).length ≤ 60; omega, Nat.le_refl _, fun r hr => ?_, fun r hr => ?_⟩
    · exact h.blk r (List.mem_of_mem_take (List.mem_filter.1 hr).1)
    · exact h.trn r (List.mem_of_mem_take (List.mem_filter.1 hr).1)
  · exact h
theorem goHome_ok {d : D} (h : OK d) : OK (goHome d).1 := by
  unfold goHome
  split
  · exact ⟨values_len h, Nat.zero_le _, Nat.zero_le _, fun r hr => by simp at hr, fun r hr => by simp at hr⟩
  · exact h

/-! ### The laws -/
theorem values_write (d : D) (t b v : Int) : values (write d t b v).1 = values d := by
  unfold write
  split
  · unfold values
    simp only [List.length_append, List.length_cons, List.length_nil]
    rw [show d.log.length + (0 + 1) = d.log.length + 1 from rfl, vals_snoc, if_neg (by simp)]
  · rfl
theorem values_crash {d : D} {n : Nat} (h : d.syn ≤ n ∧ n ≤ d.log.length) : crash d n = (⟨d.home, last (d.log.take n), (last (d.log.take n)).length⟩, 0) ∧ values (crash d n).1 = vals d.home (d.log.take n) (d.log.take n).length := by
  have e : crash d n = (⟨d.home, last (d.log.take n), (last (d.log.take n)).length⟩, 0) := by
    unfold crash
    rw [if_pos (by omega), Int.toNat_natCast]
  refine ⟨e, ?_⟩
  rw [e]
  exact vals_last _ _
/-- What was just written and ended stands there. -/
theorem values_ended {d : D} (hh : d.home.length = 8) {t b v : Int} (hw : (write d t b v).2 = 0) (he : (end_ (write d t b v).1 t).2 = 0) : nth (values (end_ (write d t b v).1 t).1) b.toNat = v ∧ (0 ≤ b ∧ b ≤ 7) := by
  have hw0 : wrErr d.log t b v = 0 := by
    unfold write at hw
    split at hw
    · assumption
    · exact hw
  have e1 : write d t b v = (⟨d.home, d.log ++ [⟨t, b, v, false⟩], d.syn⟩, 0) := by unfold write; rw [if_pos hw0]
  rw [e1] at he ⊢
  have he0 : endErr (d.log ++ [⟨t, b, v, false⟩]) t = 0 := by
    unfold end_ at he
    split at he
    · assumption
    · exact he
  have e2 : end_ (⟨d.home, d.log ++ [⟨t, b, v, false⟩], d.syn⟩ : D) t = (⟨d.home, d.log ++ [⟨t, b, v, false⟩] ++ [⟨t, 0, 0, true⟩], d.syn⟩, 0) := by unfold end_; rw [if_pos he0]
  rw [e2]
  have hb := (wrErr_zero hw0).2.1
  refine ⟨?_, hb⟩
  unfold values
  rw [show (d.log ++ [(⟨t, b, v, false⟩ : R)] ++ [(⟨t, 0, 0, true⟩ : R)]).length = (d.log ++ [(⟨t, b, v, false⟩ : R)]).length + 1 by simp, vals_snoc, if_pos (show (true = true) from rfl), app_snoc, if_pos (show (false = false ∧ t = t) from ⟨rfl, rfl⟩)]
  have hl : (app t d.log (vals d.home (d.log ++ [(⟨t, b, v, false⟩ : R)]) (d.log ++ [(⟨t, b, v, false⟩ : R)]).length)).length = 8 := by rw [app_len, vals_len, hh]
  simp only [nth, List.getD_eq_getElem?_getD, List.getElem?_set, if_true]
  rw [if_pos (by rw [hl]; omega)]
  rfl
end Go.Proofs.YtmhmbgkpojgbbaaDoor.Wl
