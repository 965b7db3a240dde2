/- The plain model of a disk whose turns can be undone: blocks, what was there (turn, block, value), whose each block is. No program in sight. -/
import Derived.Test.YtmhmbgkpojgbbabDoorBase
namespace Go.Proofs.YtmhmbgkpojgbbabDoor.Un

/-- What was there: by which turn, in which block, which value. -/
structure P where
  t : Int
  b : Int
  v : Int
structure D where
  blk : List Int
  was : List P
  busy : List Int
def new : D := ⟨List.replicate 8 0, [], List.replicate 8 (-1)⟩
def okT (t : Int) : Prop := 0 ≤ t ∧ t ≤ 19
instance (t : Int) : Decidable (okT t) := by unfold okT; infer_instance
def turnErr (t : Int) : Int := if okT t then 0 else 1
def clash (d : D) (t b : Int) : Prop := 0 ≤ nth d.busy b.toNat ∧ nth d.busy b.toNat ≠ t
instance (d : D) (t b : Int) : Decidable (clash d t b) := by unfold clash; infer_instance
def wrErr (d : D) (t b v : Int) : Int := if okT t then (if (0 ≤ b ∧ b ≤ 7) ∧ (0 ≤ v ∧ v ≤ 1000) then (if clash d t b then 6 else if d.was.length = 60 then 4 else 0) else 1) else 1
def put (d : D) (t : Int) (b : Nat) (v : Int) : D := ⟨d.blk.set b v, d.was ++ [⟨t, b, nth d.blk b⟩], d.busy.set b t⟩
def write (d : D) (t b v : Int) : D := if wrErr d t b v = 0 then put d t b.toNat v else d
def free (t : Int) (l : List Int) : List Int := l.map fun x => if x = t then -1 else x
def stay (t : Int) (r : P) : Bool := !(r.t == t)
def leave (d : D) (t : Int) : D := ⟨d.blk, d.was.filter (stay t), free t d.busy⟩
def end_ (d : D) (t : Int) : D := if okT t then leave d t else d
/-- What is undone, the last record first: all of those that p picks. -/
def un (p : P → Bool) : List P → List Int → List Int
  | [], blk => blk
  | r :: l, blk => if p r then (un p l blk).set r.b.toNat r.v else un p l blk
def isT (t : Int) (r : P) : Bool := r.t == t
def undo (d : D) (t : Int) : D := if okT t then leave ⟨un (isT t) d.was d.blk, d.was, d.busy⟩ t else d
def all (_ : P) : Bool := true
def crash (d : D) : D := ⟨un all d.was d.blk, [], List.replicate 8 (-1)⟩
/-- How many turns: the last record's first. -/
def cnt : List P → Nat
  | [] => 0
  | r :: l => cnt l + if l.any (isT r.t) then 0 else 1

structure OK (d : D) : Prop where
  blk : d.blk.length = 8
  busy : d.busy.length = 8
  len : d.was.length ≤ 60
  rb : ∀ r ∈ d.was, 0 ≤ r.b ∧ r.b ≤ 7
  rt : ∀ r ∈ d.was, okT r.t
  lo : ∀ i, i < 8 → -1 ≤ nth d.busy i ∧ nth d.busy i ≤ 19
  own : ∀ r ∈ d.was, nth d.busy r.b.toNat = r.t
theorem nth_set (l : List Int) (q : Nat) (x : Int) (i : Nat) (h : q < l.length) : nth (l.set q x) i = if q = i then x else nth l i := by
  unfold nth
  simp only [List.getD_eq_getElem?_getD, List.getElem?_set]
  split
  · rename_i e; subst e; simp [h]
  · rfl
theorem nth_free (t : Int) (l : List Int) (i : Nat) (h : i < l.length) : nth (free t l) i = if nth l i = t then -1 else nth l i := by
  simp [nth, free, List.getD, h]
theorem nth_rep (n i : Nat) (x : Int) (h : i < n) : nth (List.replicate n x) i = x := by simp [nth, List.getD, h]
theorem eq_nth {xs ys : List Int} (hl : xs.length = ys.length) (h : ∀ j, j < xs.length → nth xs j = nth ys j) : xs = ys := by
  apply List.ext_getElem hl
  intro i h1 h2
  have := h i h1
  simpa [nth, List.getD, h1, h2] using this
theorem set_back (l : List Int) (i : Nat) (v : Int) : (l.set i v).set i (nth l i) = l := by
  apply List.ext_getElem?
  intro j
  simp only [List.getElem?_set, List.length_set, nth, List.getD_eq_getElem?_getD]
  by_cases e : i = j
  · subst e
    rw [if_pos rfl]
    by_cases h : i < l.length
    · rw [if_pos h, List.getElem?_eq_getElem h]; rfl
    · rw [if_neg h, List.getElem?_eq_none (by omega)]
  · rw [if_neg e, if_neg e]
theorem un_len (p : P → Bool) : ∀ (l : List P) (blk : List Int), (un p l blk).length = blk.length
  | [], _ => rfl
  | r :: l, blk => by unfold un; split <;> simp [un_len p l blk]
theorem un_append (p : P → Bool) : ∀ (l m : List P) (blk : List Int), un p (l ++ m) blk = un p l (un p m blk)
  | [], _, _ => rfl
  | r :: l, m, blk => by rw [List.cons_append]; unfold un; rw [un_append p l m blk]
theorem un_drop (p : P → Bool) (l : List P) (k : Nat) (hk : k < l.length) (blk : List Int) : un p (l.drop k) blk = if p l[k] then (un p (l.drop (k + 1)) blk).set l[k].b.toNat l[k].v else un p (l.drop (k + 1)) blk := by
  rw [List.drop_eq_getElem_cons hk]; rfl
/-- Records that none of which is picked on block b leave it. -/
theorem un_nth (p : P → Bool) : ∀ (l : List P) (blk : List Int) (b : Nat), (∀ r ∈ l, p r = true → r.b.toNat ≠ b) → nth (un p l blk) b = nth blk b
  | [], _, _, _ => rfl
  | r :: l, blk, b, h => by
    have ih := un_nth p l blk b (fun x hx => h x (by simp [hx]))
    unfold un
    split
    · rename_i hp
      have hb := h r (by simp) hp
      by_cases hl : r.b.toNat < (un p l blk).length
      · rw [nth_set _ _ _ _ hl, if_neg hb, ih]
      · rw [List.set_eq_of_length_le (by omega), ih]
    · exact ih
/-- A block that no picked record names may be written before or after. -/
theorem un_set (p : P → Bool) (b : Nat) (v : Int) : ∀ (l : List P) (blk : List Int), (∀ r ∈ l, p r = true → r.b.toNat ≠ b) → un p l (blk.set b v) = (un p l blk).set b v
  | [], _, _ => rfl
  | r :: l, blk, h => by
    unfold un
    rw [un_set p b v l blk (fun x hx => h x (by simp [hx]))]
    split
    · rename_i hp
      exact List.set_comm _ _ (Ne.symm (h r (by simp) hp))
    · rfl
/-- Records that are not picked may go. -/
theorem un_filter (p q : P → Bool) : ∀ (l : List P) (blk : List Int), (∀ r ∈ l, p r = true → q r = true) → un p (l.filter q) blk = un p l blk
  | [], _, _ => rfl
  | r :: l, blk, h => by
    have ih := un_filter p q l blk (fun x hx => h x (by simp [hx]))
    rw [List.filter_cons]
    by_cases hq : q r = true
    · rw [if_pos hq]
      unfold un
      rw [ih]
    · rw [if_neg hq, ih]
      conv => rhs; unfold un
      rw [if_neg (fun hp => hq (h r (by simp) hp))]
theorem wrErr_zero {d : D} {t b v : Int} (h : wrErr d t b v = 0) : okT t ∧ (0 ≤ b ∧ b ≤ 7) ∧ (0 ≤ v ∧ v ≤ 1000) ∧ ¬ clash d t b ∧ d.was.length ≠ 60 := by
  unfold wrErr at h
  split at h
  · rename_i h0
    split at h
    · rename_i h1
      split at h
      · cases h
      · rename_i h2
        split at h
        · cases h
        · rename_i h3; exact ⟨h0, h1.1, h1.2, h2, h3⟩
    · cases h
  · cases h
theorem new_ok : OK new := ⟨rfl, rfl, Nat.zero_le _, (fun r h => by cases h), (fun r h => by cases h), (fun i hi => by rw [show new.busy = List.replicate 8 (-1) from rfl, nth_rep 8 i _ hi]; omega), (fun r h => by cases h)⟩
theorem put_ok {d : D} (h : OK d) {t b v : Int} (hw : wrErr d t b v = 0) : OK (put d t b.toNat v) := by
  obtain ⟨h1, h2, h3, h4, h5⟩ := wrErr_zero hw
  have hb8 : b.toNat < 8 := by omega
  have hlen := h.len
  refine ⟨by simp [put, h.blk], by simp [put, h.busy], by simp [put]; omega, fun r hr => ?_, fun r hr => ?_, fun i hi => ?_, fun r hr => ?_⟩
  · rcases List.mem_append.1 hr with hr | hr
    · exact h.rb r hr
    · simp only [List.mem_singleton] at hr; subst hr; simp only; omega
  · rcases List.mem_append.1 hr with hr | hr
    · exact h.rt r hr
    · simp only [List.mem_singleton] at hr; subst hr; exact h1
  · show -1 ≤ nth (d.busy.set b.toNat t) i ∧ _
    show -1 ≤ nth (d.busy.set b.toNat t) i ∧ nth (d.busy.set b.toNat t) i ≤ 19
    rw [nth_set _ _ _ _ (by rw [h.busy]; exact hb8)]
    unfold okT at h1
    split
    · omega
    · exact h.lo i hi
  · show nth (d.busy.set b.toNat t) r.b.toNat = r.t
    rw [nth_set _ _ _ _ (by rw [h.busy]; exact hb8)]
    rcases List.mem_append.1 hr with hr | hr
    · have ho := h.own r hr
      have ht := h.rt r hr
      by_cases e : b.toNat = r.b.toNat
      · rw [if_pos e]
        unfold clash at h4
        rw [e, ho] at h4
        unfold okT at ht
        omega
      · rw [if_neg e]; exact ho
    · simp only [List.mem_singleton] at hr
      subst hr
      rw [if_pos (Int.toNat_natCast _).symm]
theorem write_ok {d : D} (h : OK d) (t b v : Int) : OK (write d t b v) := by
  unfold write
  split
  · rename_i hw; exact put_ok h hw
  · exact h
theorem leave_ok {d : D} (h : OK d) {t : Int} (ht : okT t) : OK (leave d t) := by
  have hl : (d.was.filter (stay t)).length ≤ d.was.length := List.length_filter_le _ _
  have := h.len
  refine ⟨h.blk, by simp [leave, free, h.busy], by show (d.was.filter (stay t)).length ≤ 60; omega, fun r hr => h.rb r (List.mem_filter.1 hr).1, fun r hr => h.rt r (List.mem_filter.1 hr).1, fun i hi => ?_, fun r hr => ?_⟩
  · show -1 ≤ nth (free t d.busy) i ∧ nth (free t d.busy) i ≤ 19
    rw [nth_free _ _ _ (by rw [h.busy]; exact hi)]
    have := h.lo i hi
    split <;> omega
  · obtain ⟨h1, h2⟩ := List.mem_filter.1 hr
    have hb := h.rb r h1
    show nth (free t d.busy) r.b.toNat = r.t
    rw [nth_free _ _ _ (by rw [h.busy]; omega), h.own r h1, if_neg (by simpa [stay] using h2)]
theorem end_ok {d : D} (h : OK d) (t : Int) : OK (end_ d t) := by
  unfold end_
  split
  · rename_i ht; exact leave_ok h ht
  · exact h
theorem un_ok {d : D} (h : OK d) (p : P → Bool) : OK ⟨un p d.was d.blk, d.was, d.busy⟩ := ⟨by rw [show (un p d.was d.blk).length = d.blk.length from un_len _ _ _, h.blk], h.busy, h.len, h.rb, h.rt, h.lo, h.own⟩
theorem undo_ok {d : D} (h : OK d) (t : Int) : OK (undo d t) := by
  unfold undo
  split
  · rename_i ht; exact leave_ok (un_ok h _) ht
  · exact h
theorem crash_ok {d : D} (h : OK d) : OK (crash d) := ⟨by rw [show (crash d).blk.length = d.blk.length from un_len _ _ _, h.blk], rfl, Nat.zero_le _, (fun r h => by cases h), (fun r h => by cases h), (fun i hi => by rw [show (crash d).busy = List.replicate 8 (-1) from rfl, nth_rep 8 i _ hi]; omega), (fun r h => by cases h)⟩

/-! ### What is undone was never done -/
/-- Beside d a disk x on which the turn t did nothing. -/
structure Sim (t : Int) (d x : D) : Prop where
  blk : x.blk = un (isT t) d.was d.blk
  was : x.was = d.was.filter (stay t)
  busy : x.busy = free t d.busy
theorem sim_new (t : Int) : Sim t new new := ⟨rfl, rfl, by
  show List.replicate 8 (-1) = free t (List.replicate 8 (-1))
  unfold free
  rw [List.map_replicate]
  split <;> rfl⟩
theorem none_on {d : D} (h : OK d) {t u b : Int} (hb : 0 ≤ b) (hc : ¬ clash d u b) (hu : u ≠ t) : ∀ r ∈ d.was, isT t r = true → r.b.toNat ≠ b.toNat := by
  intro r hr ht e
  have ho := h.own r hr
  have hk := h.rt r hr
  rw [e] at ho
  have ht' : r.t = t := by simpa [isT] using ht
  unfold clash at hc
  unfold okT at hk
  rw [ho, ht'] at hc
  omega
/-- Another turn writes: x can, too. -/
theorem sim_write {t : Int} {d x : D} (h : OK d) (hs : Sim t d x) {u b v : Int} (hw : wrErr d u b v = 0) (hu : u ≠ t) : wrErr x u b v = 0 ∧ Sim t (write d u b v) (write x u b v) := by
  obtain ⟨h1, h2, h3, h4, h5⟩ := wrErr_zero hw
  have hb8 : b.toNat < 8 := by omega
  have hno := none_on h (t := t) h2.1 h4 hu
  have hbx : nth x.busy b.toNat = if nth d.busy b.toNat = t then -1 else nth d.busy b.toNat := by rw [hs.busy, nth_free _ _ _ (by rw [h.busy]; exact hb8)]
  have hlx : x.was.length ≤ d.was.length := by rw [hs.was]; exact List.length_filter_le _ _
  have hl := h.len
  have hcx : ¬ clash x u b := by
    unfold clash at h4 ⊢
    rw [hbx]
    split <;> omega
  have hx : wrErr x u b v = 0 := by
    unfold wrErr
    rw [if_pos h1, if_pos ⟨h2, h3⟩, if_neg hcx, if_neg (by omega)]
  refine ⟨hx, ?_⟩
  unfold write
  rw [if_pos hw, if_pos hx]
  have hst : stay t ⟨u, (b.toNat : Int), nth d.blk b.toNat⟩ = true := by simp [stay, hu]
  have hnt : isT t ⟨u, (b.toNat : Int), nth d.blk b.toNat⟩ = false := by simp [isT, hu]
  refine ⟨?_, ?_, ?_⟩
  · show x.blk.set b.toNat v = un (isT t) (d.was ++ [_]) (d.blk.set b.toNat v)
    rw [un_append]
    have e : un (isT t) [⟨u, (b.toNat : Int), nth d.blk b.toNat⟩] (d.blk.set b.toNat v) = d.blk.set b.toNat v := by
      unfold un
      rw [if_neg (by rw [hnt]; decide)]; rfl
    rw [e, un_set _ _ _ _ _ hno, hs.blk]
  · show x.was ++ [_] = (d.was ++ [_]).filter (stay t)
    rw [List.filter_append, hs.was, List.filter_cons_of_pos hst, List.filter_nil, hs.blk, un_nth _ _ _ _ hno]
  · show x.busy.set b.toNat u = free t (d.busy.set b.toNat u)
    rw [hs.busy]
    unfold free
    rw [List.map_set, if_neg hu]
/-- The turn itself writes. -/
theorem sim_self {t : Int} {d x : D} (h : OK d) (hs : Sim t d x) (b v : Int) : Sim t (write d t b v) x := by
  unfold write
  split
  · rename_i hw
    obtain ⟨h1, h2, h3, h4, h5⟩ := wrErr_zero hw
    have hb8 : b.toNat < 8 := by omega
    have hit : isT t ⟨t, (b.toNat : Int), nth d.blk b.toNat⟩ = true := by simp [isT]
    have hst : stay t ⟨t, (b.toNat : Int), nth d.blk b.toNat⟩ = false := by simp [stay]
    refine ⟨?_, ?_, ?_⟩
    · show x.blk = un (isT t) (d.was ++ [_]) (d.blk.set b.toNat v)
      rw [un_append]
      have e : un (isT t) [⟨t, (b.toNat : Int), nth d.blk b.toNat⟩] (d.blk.set b.toNat v) = d.blk := by
        unfold un
        rw [if_pos hit]
        exact set_back _ _ _
      rw [e, hs.blk]
    · show x.was = (d.was ++ [_]).filter (stay t)
      rw [List.filter_append, List.filter_cons_of_neg (by rw [hst]; decide), List.filter_nil, List.append_nil, hs.was]
    · show x.busy = free t (d.busy.set b.toNat t)
      rw [hs.busy]
      have hlo := h.lo b.toNat hb8
      refine eq_nth (by simp [free]) (fun j hj => ?_)
      have hj8 : j < 8 := by simpa [free, h.busy] using hj
      rw [nth_free _ _ _ (by rw [h.busy]; exact hj8), nth_free _ _ _ (by rw [List.length_set, h.busy]; exact hj8), nth_set _ _ _ _ (by rw [h.busy]; exact hb8)]
      by_cases e : b.toNat = j
      · subst e
        rw [if_pos rfl, if_pos rfl]
        unfold clash at h4
        split
        · rfl
        · omega
      · rw [if_neg e]
  · exact hs
theorem sim_end {t : Int} {d x : D} (hs : Sim t d x) {u : Int} (hu : u ≠ t) : Sim t (end_ d u) (end_ x u) := by
  unfold end_
  split
  · rename_i hk
    have hk' : -1 ≠ u := by unfold okT at hk; omega
    refine ⟨?_, ?_, ?_⟩
    · show x.blk = un (isT t) (d.was.filter (stay u)) d.blk
      rw [un_filter _ _ _ _ (fun r _ hr => by
        have : r.t = t := by simpa [isT] using hr
        simp [stay, this, Ne.symm hu]), hs.blk]
    · show x.was.filter (stay u) = (d.was.filter (stay u)).filter (stay t)
      rw [hs.was, List.filter_filter, List.filter_filter]
      congr 1
      funext r
      exact Bool.and_comm _ _
    · show free u x.busy = free t (free u d.busy)
      rw [hs.busy]
      unfold free
      rw [List.map_map, List.map_map]
      congr 1
      funext z
      simp only [Function.comp]
      by_cases e1 : z = t
      · subst e1
        rw [if_pos rfl, if_neg (Ne.symm hu), if_pos rfl, if_neg hk']
      · rw [if_neg e1]
        by_cases e2 : z = u
        · subst e2
          rw [if_pos rfl]
          split <;> rfl
        · rw [if_neg e2, if_neg e1]
  · exact hs
theorem sim_undo {t : Int} {d x : D} (hs : Sim t d x) (ht : okT t) : (undo d t).blk = x.blk := by
  unfold undo
  rw [if_pos ht, hs.blk]
  rfl

/-! ### What a crash leaves -/
/-- The values that a crash would leave, when a turn ends. -/
def wantAt (d : D) (u : Int) (w : List Int) (b : Nat) : Int := if nth d.busy b = u ∧ 0 ≤ u then nth d.blk b else nth w b
theorem crash_put {d : D} {t : Int} {b : Nat} {v : Int} : un all (put d t b v).was (put d t b v).blk = un all d.was d.blk := by
  show un all (d.was ++ [_]) (d.blk.set b v) = _
  rw [un_append]
  have e : un all [⟨t, (b : Int), nth d.blk b⟩] (d.blk.set b v) = d.blk := by
    unfold un
    rw [if_pos (show all _ = true from rfl)]
    exact set_back _ _ _
  rw [e]
theorem crash_write (d : D) (t b v : Int) : un all (write d t b v).was (write d t b v).blk = un all d.was d.blk := by
  unfold write
  split
  · exact crash_put
  · rfl
/-- On one block the records of one turn: all of them, or none. -/
theorem crash_end_nth {d : D} (h : OK d) (u : Int) (hu : okT u) (b : Nat) : ∀ (l : List P), (∀ r ∈ l, r ∈ d.was) → nth (un all (l.filter (stay u)) d.blk) b = if nth d.busy b = u then nth d.blk b else nth (un all l d.blk) b
  | [], _ => by
    show nth d.blk b = if _ then nth d.blk b else nth d.blk b
    split <;> rfl
  | r :: l, hl => by
    have ih := crash_end_nth h u hu b l (fun x hx => hl x (by simp [hx]))
    have hr := hl r (by simp)
    have hrb := h.rb r hr
    have hro := h.own r hr
    have hb1 : r.b.toNat < (un all l d.blk).length := by rw [un_len, h.blk]; omega
    have hb2 : r.b.toNat < (un all (l.filter (stay u)) d.blk).length := by rw [un_len, h.blk]; omega
    have e1 : un all (r :: l) d.blk = (un all l d.blk).set r.b.toNat r.v := if_pos rfl
    rw [List.filter_cons, e1, nth_set _ _ _ _ hb1]
    by_cases hs : stay u r = true
    · have hne : r.t ≠ u := by simpa [stay] using hs
      have e2 : un all (r :: l.filter (stay u)) d.blk = (un all (l.filter (stay u)) d.blk).set r.b.toNat r.v := if_pos rfl
      rw [if_pos hs, e2, nth_set _ _ _ _ hb2, ih]
      by_cases e : r.b.toNat = b
      · rw [if_pos e, if_pos e, ← e, hro, if_neg hne]
      · rw [if_neg e, if_neg e]
    · have heq : r.t = u := by simpa [stay] using hs
      rw [if_neg hs, ih]
      by_cases e : r.b.toNat = b
      · rw [if_pos e, ← e, hro, if_pos heq, if_pos heq]
      · rw [if_neg e]
theorem crash_end {d : D} (h : OK d) (u : Int) {w w' : List Int} (hw : w = un all d.was d.blk) (hl : w'.length = 8) (hw' : ∀ b, b < 8 → nth w' b = wantAt d u w b) : w' = un all (end_ d u).was (end_ d u).blk := by
  refine eq_nth ?_ (fun b hb => ?_)
  · rw [hl]
    unfold end_
    split
    · show 8 = (un all _ d.blk).length; rw [un_len, h.blk]
    · rw [un_len, h.blk]
  · rw [hl] at hb
    rw [hw' b hb]
    unfold wantAt end_
    split
    · rename_i hc
      rw [if_pos (show okT u from ⟨hc.2, by have := (h.lo b hb).2; omega⟩)]
      show _ = nth (un all (d.was.filter (stay u)) d.blk) b
      rw [crash_end_nth h u ⟨hc.2, by have := (h.lo b hb).2; omega⟩ b d.was (fun _ hx => hx), if_pos hc.1]
    · rename_i hc
      split
      · rename_i hk
        show _ = nth (un all (d.was.filter (stay u)) d.blk) b
        rw [crash_end_nth h u hk b d.was (fun _ hx => hx), if_neg (fun e => hc ⟨e, hk.1⟩), hw]
      · rw [hw]
theorem crash_crash (d : D) : cnt (crash d).was = 0 := rfl
end Go.Proofs.YtmhmbgkpojgbbabDoor.Un
