/- Three disks that go through the same turns: a log ahead, what was there, a shadow. No program in sight. -/
import Derived.Test.YtmhmbgkpojgbbaaWlPlain2
import Derived.Test.YtmhmbgkpojgbbaaUnPlain
import Derived.Test.YtmhmbgkpojgbbaaShPlain
namespace Go.Proofs.Ytmhmbgkpojgbbaa.Tl

/-- Between two turns: all three read as V. -/
structure S (t : Nat) (a : Wl.D) (b : Un.D) (c : Sh.D) (V : List Int) : Prop where
  wo : Wl.OK a
  uo : Un.OK b
  so : Sh.OK c
  wv : Wl.values a = V
  wr : ∀ r ∈ a.log, r.t < t
  wl : a.log.length ≤ 4 * t
  ub : b.blk = V
  uw : b.was = []
  uz : ∀ i, i < 8 → nth b.busy i = -1
  sn : Sh.vals c.slot c.now = V
  sv : Sh.vals c.slot c.old = V
/-- Within turn t, behind i writes. -/
structure I (t i : Nat) (a : Wl.D) (b : Un.D) (c : Sh.D) (V U : List Int) : Prop where
  wo : Wl.OK a
  uo : Un.OK b
  so : Sh.OK c
  wv : Wl.values a = V
  wa : Wl.app t a.log V = U
  wr : ∀ r ∈ a.log, r.t ≤ t
  we : Wl.ended a.log t = false
  wl : a.log.length ≤ 4 * t + i
  ub : b.blk = U
  ua : ∀ r ∈ b.was, r.t = t
  uu : Un.un Un.all b.was U = V
  uz : ∀ i, i < 8 → nth b.busy i = -1 ∨ nth b.busy i = t
  ul : b.was.length ≤ i
  sn : Sh.vals c.slot c.now = U
  sv : Sh.vals c.slot c.old = V
theorem app_none (t : Int) : ∀ (l : List Wl.R) (out : List Int), (∀ r ∈ l, r.t ≠ t) → Wl.app t l out = out := fun l => by
  induction l using Wl.snoc_ind with
  | h0 => intro out _; rfl
  | h1 l r ih =>
    intro out h
    rw [Wl.app_snoc, if_neg (fun e => h r (by simp) e.2), ih out (fun x hx => h x (by simp [hx]))]
theorem ended_none {l : List Wl.R} {t : Int} (h : ∀ r ∈ l, r.t ≠ t) : Wl.ended l t = false := by
  unfold Wl.ended
  rw [List.any_eq_false]
  intro r hr e
  simp at e
  exact h r hr e.2
section
variable {t i : Nat} {a : Wl.D} {b : Un.D} {c : Sh.D} {V U : List Int}
theorem S.start (h : S t a b c V) : I t 0 a b c V V :=
  ⟨h.wo, h.uo, h.so, h.wv, app_none _ _ _ (fun r hr => by have := h.wr r hr; omega), fun r hr => Int.le_of_lt (h.wr r hr), ended_none (fun r hr => by have := h.wr r hr; omega), h.wl, h.ub, by rw [h.uw]; simp, by rw [h.uw]; rfl, fun i hi => .inl (h.uz i hi), by rw [h.uw]; exact Nat.le_refl _, h.sn, h.sv⟩
theorem I.more (h : I t i a b c V U) : I t (i + 1) a b c V U := ⟨h.wo, h.uo, h.so, h.wv, h.wa, h.wr, h.we, by have := h.wl; omega, h.ub, h.ua, h.uu, h.uz, by have := h.ul; omega, h.sn, h.sv⟩
theorem I.turn (h : I t i a b c V U) (ht : t < 10) : Wl.turn a.log t = 0 := by
  unfold Wl.turn
  rw [if_pos (by omega), h.we]
  rfl
theorem put_vals {d : Sh.D} (hd : Sh.OK d) {p : Nat} (hp : p < 8) (v : Int) : Sh.vals (Sh.put d p v).slot (Sh.put d p v).now = (Sh.vals d.slot d.now).set p v := by
  have hl : (Sh.put d p v).now.length = 8 := (Sh.put_ok hd hp v).tnow.len
  refine Un.eq_nth (by simp [Sh.vals, hl, hd.tnow.len]) (fun j hj => ?_)
  have hj8 : j < 8 := by simpa [Sh.vals, hl] using hj
  rw [Un.nth_set _ _ _ _ (by simp [Sh.vals, hd.tnow.len]; exact hp)]
  by_cases e : p = j
  · subst e
    rw [if_pos rfl, Sh.vals_put_same hd hp]
  · rw [if_neg e, Sh.vals_put_other hd hp hj8 (Ne.symm e)]
/-- What can be written is written by all three. -/
theorem I.write (h : I t i a b c V U) (ht : t < 10) (hi : i < 3) {k v : Int} (hk : Sh.okP k v) :
    Wl.wrErr a.log t k v = 0 ∧ Un.wrErr b t k v = 0 ∧ I t (i + 1) (Wl.write a t k v).1 (Un.write b t k v) (Sh.write c k v) V (U.set k.toNat v) := by
  have hk' := hk
  unfold Sh.okP at hk'
  have hwl := h.wl
  have hul := h.ul
  have hb8 : k.toNat < 8 := by omega
  have e1 : Wl.wrErr a.log t k v = 0 := by
    unfold Wl.wrErr
    rw [if_pos (h.turn ht), if_pos hk', if_neg (by omega)]
  have hz := h.uz k.toNat hb8
  have e2 : Un.wrErr b t k v = 0 := by
    unfold Un.wrErr
    rw [if_pos (show Un.okT t by unfold Un.okT; omega), if_pos hk', if_neg (by unfold Un.clash; omega), if_neg (by omega)]
  refine ⟨e1, e2, ?_⟩
  have e3 : (Wl.write a t k v).1 = ⟨a.home, a.log ++ [⟨t, k, v, false⟩], a.syn⟩ := by unfold Wl.write; rw [if_pos e1]
  have e4 : Un.write b t k v = Un.put b t k.toNat v := by unfold Un.write; rw [if_pos e2]
  have e5 : Sh.write c k v = Sh.put c k.toNat v := by unfold Sh.write; rw [if_pos hk]
  refine ⟨Wl.write_ok h.wo _ _ _, Un.write_ok h.uo _ _ _, Sh.write_ok h.so _ _, by rw [Wl.values_write, h.wv], ?_, ?_, ?_, ?_, ?_, ?_, ?_, ?_, ?_, ?_, ?_⟩
  · rw [e3]
    show Wl.app t (a.log ++ [_]) V = _
    rw [Wl.app_snoc, if_pos ⟨rfl, rfl⟩, h.wa]
  · rw [e3]
    intro r hr
    rcases List.mem_append.1 hr with hr | hr
    · exact h.wr r hr
    · simp only [List.mem_singleton] at hr; subst hr; exact Int.le_refl _
  · rw [e3]
    show Wl.ended (a.log ++ [_]) t = false
    rw [Wl.ended_snoc, h.we]
    rfl
  · rw [e3]
    show (a.log ++ [_]).length ≤ _
    simp
    omega
  · rw [e4]
    show b.blk.set _ _ = _
    rw [h.ub]
  · rw [e4]
    intro r hr
    rcases List.mem_append.1 hr with hr | hr
    · exact h.ua r hr
    · simp only [List.mem_singleton] at hr; subst hr; rfl
  · have := @Un.crash_write b t k v
    rw [e4] at this ⊢
    rw [show (Un.put b t k.toNat v).blk = U.set k.toNat v by show b.blk.set _ _ = _; rw [h.ub], h.ub] at this
    rw [this]
    exact h.uu
  · intro j hj
    rw [e4]
    show nth (b.busy.set k.toNat t) j = -1 ∨ nth (b.busy.set k.toNat t) j = t
    rw [Un.nth_set _ _ _ _ (by rw [h.uo.busy]; exact hb8)]
    split
    · exact .inr rfl
    · exact h.uz j hj
  · rw [e4]
    show (b.was ++ [_]).length ≤ _
    simp
    exact hul
  · rw [e5, put_vals h.so hb8, h.sn]
  · rw [Sh.vals_old h.so, h.sv]
/-- What cannot is written by none. -/
theorem I.no (h : I t i a b c V U) (ht : t < 10) {k v : Int} (hk : ¬ Sh.okP k v) :
    Wl.wrErr a.log t k v = 1 ∧ Un.wrErr b t k v = 1 ∧ (Wl.write a t k v).1 = a ∧ (Wl.write a t k v).2 = 1 ∧ Un.write b t k v = b ∧ Sh.write c k v = c := by
  have hk' := hk
  unfold Sh.okP at hk'
  have e1 : Wl.wrErr a.log t k v = 1 := by
    unfold Wl.wrErr
    rw [if_pos (h.turn ht), if_neg hk']
  have e2 : Un.wrErr b t k v = 1 := by
    unfold Un.wrErr
    rw [if_pos (show Un.okT t by unfold Un.okT; omega), if_neg hk']
  refine ⟨e1, e2, ?_, ?_, ?_, ?_⟩
  · unfold Wl.write; rw [if_neg (by rw [e1]; decide)]
  · unfold Wl.write; rw [if_neg (by rw [e1]; decide)]; exact e1
  · unfold Un.write; rw [if_neg (by rw [e2]; decide)]
  · unfold Sh.write; rw [if_neg hk]
theorem stay_none (h : ∀ r ∈ b.was, r.t = t) : b.was.filter (Un.stay t) = [] := by
  rw [List.filter_eq_nil_iff]
  intro r hr
  simp [Un.stay, h r hr]
theorem free_all (h : I t i a b c V U) : ∀ j, j < 8 → nth (Un.free t b.busy) j = -1 := fun j hj => by
  rw [Un.nth_free _ _ _ (by rw [h.uo.busy]; exact hj)]
  have := h.uz j hj
  split
  · rfl
  · omega
/-- The turn ends. -/
theorem I.fin (h : I t i a b c V U) (ht : t < 10) (hi : i ≤ 3) : Wl.endErr a.log t = 0 ∧ Un.turnErr t = 0 ∧ S (t + 1) (Wl.end_ a t).1 (Un.end_ b t) (Sh.fin c) U := by
  have hwl := h.wl
  have e1 : Wl.endErr a.log t = 0 := by
    unfold Wl.endErr
    rw [if_pos (h.turn ht), if_neg (by omega)]
  have e2 : Un.okT t := by unfold Un.okT; omega
  have e3 : (Wl.end_ a t).1 = ⟨a.home, a.log ++ [⟨t, 0, 0, true⟩], a.syn⟩ := by unfold Wl.end_; rw [if_pos e1]
  have e4 : Un.end_ b t = Un.leave b t := by unfold Un.end_; rw [if_pos e2]
  have hv : Wl.vals a.home a.log a.log.length = V := h.wv
  refine ⟨e1, if_pos e2, Wl.end_ok h.wo _, Un.end_ok h.uo _, Sh.fin_ok h.so, ?_, ?_, ?_, ?_, ?_, ?_, h.sn, h.sn⟩
  · rw [e3]
    show Wl.vals a.home (a.log ++ [_]) (a.log ++ [_]).length = U
    rw [List.length_append, List.length_singleton, Wl.vals_snoc, if_pos rfl, hv, h.wa]
  · rw [e3]
    intro r hr
    rcases List.mem_append.1 hr with hr | hr
    · have := h.wr r hr; omega
    · simp only [List.mem_singleton] at hr; subst hr; show (t : Int) < _; omega
  · rw [e3]
    show (a.log ++ [_]).length ≤ _
    simp
    omega
  · rw [e4]; exact h.ub
  · rw [e4]; exact stay_none h.ua
  · rw [e4]; exact free_all h
theorem un_all (h : ∀ r ∈ b.was, r.t = t) (blk : List Int) : Un.un (Un.isT t) b.was blk = Un.un Un.all b.was blk := by
  generalize b.was = l at h
  induction l with
  | nil => rfl
  | cons r l ih =>
    have e := ih (fun x hx => h x (by simp [hx]))
    unfold Un.un
    rw [e, if_pos (by simp [Un.isT, h r (by simp)])]
    exact (if_pos rfl).symm
/-- The turn is undone. -/
theorem I.back (h : I t i a b c V U) (ht : t < 10) (hi : i ≤ 3) : Un.turnErr t = 0 ∧ S (t + 1) a (Un.undo b t) (Sh.crash c) V := by
  have hwl := h.wl
  have e2 : Un.okT t := by unfold Un.okT; omega
  have e4 : Un.undo b t = Un.leave ⟨Un.un (Un.isT t) b.was b.blk, b.was, b.busy⟩ t := by unfold Un.undo; rw [if_pos e2]
  refine ⟨if_pos e2, h.wo, Un.undo_ok h.uo _, Sh.crash_ok h.so, h.wv, fun r hr => by have := h.wr r hr; omega, by omega, ?_, ?_, ?_, h.sv, h.sv⟩
  · rw [e4]
    show Un.un _ _ _ = V
    rw [un_all h.ua, h.ub, h.uu]
  · rw [e4]; exact stay_none h.ua
  · rw [e4]
    show ∀ j, j < 8 → nth (Un.free t b.busy) j = -1
    exact free_all h
end
theorem S.new : S 0 Wl.new Un.new Sh.new (List.replicate 8 0) :=
  ⟨Wl.new_ok, Un.new_ok, Sh.new_ok, rfl, (fun r h => by cases h), Nat.le_refl _, rfl, rfl, (fun i hi => Un.nth_rep 8 i _ hi), by decide, by decide⟩
end Go.Proofs.Ytmhmbgkpojgbbaa.Tl
