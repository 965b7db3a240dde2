/- The plain model of the document's own table of open files (three rows of numbers), and that it says what the table says. No program in sight. -/
import Derived.Test.YtmgalnkcpolafaaDoorFdPlain2
import Derived.Test.YtmgalnkcpolafaaDoorSpPlain
namespace Go.Proofs.YtmgalnkcpolafaaDoor.Fx
open _root_.Go.Proofs.YtmgalnkcpolafaaDoor.Fd (nthO nthO_set)

structure X where
  of_ : List Int
  sz : List Int
  pl : List Int
def new : X := ⟨List.replicate 8 (-1), [], []⟩
def wrong (x : X) (fd : Int) : Int := if 0 ≤ fd ∧ fd ≤ 7 then (if nth x.of_ fd.toNat < 0 then 5 else 0) else 1
def leastFrom (l : List Int) : Nat → Nat → Nat
  | 0, i => i
  | n + 1, i => if nth l i < 0 then i else leastFrom l n (i + 1)
def least (x : X) : Nat := leastFrom x.of_ 8 0
def opn (x : X) (size : Int) : X × Int × Int :=
  if 0 ≤ size ∧ size ≤ 64 then (if least x = 8 then (x, 0, 4) else (⟨x.of_.set (least x) (x.sz.length : Nat), x.sz ++ [size], x.pl ++ [0]⟩, (least x : Nat), 0)) else (x, 0, 1)
def dup (x : X) (fd : Int) : X × Int × Int :=
  if wrong x fd = 0 then (if least x = 8 then (x, 0, 4) else (⟨x.of_.set (least x) (nth x.of_ fd.toNat), x.sz, x.pl⟩, (least x : Nat), 0)) else (x, 0, wrong x fd)
def close (x : X) (fd : Int) : X := if wrong x fd = 0 then ⟨x.of_.set fd.toNat (-1), x.sz, x.pl⟩ else x
def key (x : X) (fd : Int) : Nat := (nth x.of_ fd.toNat).toNat
def move (x : X) (fd by_ : Int) : X × Int × Int :=
  if wrong x fd = 0 then (if -nth x.pl (key x fd) ≤ by_ ∧ by_ ≤ nth x.sz (key x fd) - nth x.pl (key x fd) then (⟨x.of_, x.sz, x.pl.set (key x fd) (nth x.pl (key x fd) + by_)⟩, nth x.pl (key x fd) + by_, 0) else (x, 0, 1))
  else (x, 0, wrong x fd)
def at_ (x : X) (fd : Int) : Int := if wrong x fd = 0 then nth x.pl (key x fd) else -1

/-- The numbers name the same files: fs are the blocks, in the order of opening. -/
structure Rel (t : Fd.T) (x : X) (fs : List Nat) : Prop where
  len : x.of_.length = 8
  tl : t.sl.length = 8
  ls : x.sz.length = fs.length
  la : x.pl.length = fs.length
  nd : fs.Nodup
  no : ∀ i, i < 8 → nthO t.sl i = none → nth x.of_ i = -1
  yes : ∀ i o, nthO t.sl i = some o → ∃ k : Nat, nth x.of_ i = k ∧ fs[k]? = some o
  val : ∀ k o, fs[k]? = some o → t.f o = (nth x.sz k, nth x.pl k)
theorem nth_rep {i : Nat} (h : i < 8) : nth (List.replicate 8 (-1)) i = -1 := by
  unfold nth
  simp only [List.getD_eq_getElem?_getD, List.getElem?_replicate]
  rw [if_pos h]; rfl
theorem new_rel : Rel Fd.new new [] := by
  have hn : ∀ i, nthO Fd.new.sl i = none := fun i => by
    unfold nthO Fd.new
    simp only [List.getD_eq_getElem?_getD, List.getElem?_replicate]
    split <;> rfl
  exact ⟨rfl, rfl, rfl, rfl, List.nodup_nil, fun i hi _ => nth_rep hi, fun i o h => (by rw [hn] at h; cases h), fun k o h => (by simp at h)⟩
section
variable {t : Fd.T} {x : X} {fs : List Nat}
theorem Rel.neg (h : Rel t x fs) {i : Nat} (hi : i < 8) : nth x.of_ i < 0 ↔ nthO t.sl i = none := by
  cases ho : nthO t.sl i with
  | none => rw [h.no i hi ho]; simp
  | some o =>
    obtain ⟨k, hk, _⟩ := h.yes i o ho
    rw [hk]
    exact ⟨fun h => by omega, fun h => by cases h⟩
theorem Rel.wrong (h : Rel t x fs) (fd : Int) : Fx.wrong x fd = Fd.wrong t fd := by
  unfold Fx.wrong Fd.wrong
  by_cases h0 : 0 ≤ fd ∧ fd ≤ 7
  · rw [if_pos h0, if_pos h0]
    have hn := h.neg (i := fd.toNat) (by omega)
    cases ho : nthO t.sl fd.toNat with
    | none => rw [if_pos (hn.2 ho)]; rfl
    | some o => rw [if_neg (show ¬ nth x.of_ fd.toNat < 0 from fun h1 => by have := hn.1 h1; rw [ho] at this; cases this)]; rfl
  · rw [if_neg h0, if_neg h0]
theorem Rel.least (h : Rel t x fs) : ∀ n i, i + n = 8 → (Fd.leastFrom t.sl n i = none ∧ leastFrom x.of_ n i = 8) ∨ (∃ k, k < 8 ∧ Fd.leastFrom t.sl n i = some k ∧ leastFrom x.of_ n i = k)
  | 0, i, hi => .inl ⟨rfl, by unfold leastFrom; omega⟩
  | n + 1, i, hi => by
    have hn := h.neg (i := i) (by omega)
    unfold Fd.leastFrom leastFrom
    cases ho : nthO t.sl i with
    | none => rw [if_pos (hn.2 ho)]; exact .inr ⟨i, by omega, by simp, rfl⟩
    | some o =>
      rw [if_neg (show ¬ nth x.of_ i < 0 from fun h1 => by have := hn.1 h1; rw [ho] at this; cases this)]
      simpa using h.least n (i + 1) (by omega)
theorem Rel.least8 (h : Rel t x fs) : (Fd.least t = none ∧ Fx.least x = 8) ∨ (∃ k, k < 8 ∧ Fd.least t = some k ∧ Fx.least x = k) := h.least 8 0 rfl
theorem Rel.here (h : Rel t x fs) {fd : Int} (hw : Fd.wrong t fd = 0) : fs[key x fd]? = some (Fd.here t fd) ∧ nth x.of_ fd.toNat = (key x fd : Nat) ∧ (0 ≤ fd ∧ fd ≤ 7) := by
  obtain ⟨h1, h2⟩ := Fd.wrong_zero hw
  obtain ⟨k, hk, hf⟩ := h.yes _ _ h2
  unfold key
  rw [hk, Int.toNat_natCast]
  exact ⟨hf, rfl, h1⟩
theorem Rel.key_lt (h : Rel t x fs) {fd : Int} (hw : Fd.wrong t fd = 0) : key x fd < fs.length := (List.getElem?_eq_some_iff.1 (h.here hw).1).1
theorem Rel.place (h : Rel t x fs) (fd : Int) : Fx.at_ x fd = Fd.at_ t fd := by
  unfold Fx.at_ Fd.at_
  rw [h.wrong]
  split
  · rename_i hw
    rw [h.val _ _ (h.here hw).1]
  · rfl
/-- Another number, naming what is named already. -/
theorem Rel.set (h : Rel t x fs) {i : Nat} (hi : i < 8) {u : Option Nat} {z : Int} (hu : (u = none ∧ z = -1) ∨ ∃ (k o : Nat), u = some o ∧ z = k ∧ fs[k]? = some o) : Rel ⟨t.sl.set i u, t.f⟩ ⟨x.of_.set i z, x.sz, x.pl⟩ fs := by
  refine ⟨by simp [h.len], by simp [h.tl], h.ls, h.la, h.nd, fun j hj hn => ?_, fun j o ho => ?_, h.val⟩
  · simp only at hn ⊢
    rw [nthO_set _ _ _ _ (by rw [h.tl]; exact hi)] at hn
    rw [Sp.nth_set _ _ _ _ (by rw [h.len]; exact hi)]
    split at hn
    · rename_i e
      rw [if_pos e]
      rcases hu with ⟨_, hz⟩ | ⟨k, o, h1, _⟩
      · exact hz
      · rw [hn] at h1; cases h1
    · rename_i e
      rw [if_neg e]; exact h.no j hj hn
  · simp only at ho ⊢
    rw [nthO_set _ _ _ _ (by rw [h.tl]; exact hi)] at ho
    rw [Sp.nth_set _ _ _ _ (by rw [h.len]; exact hi)]
    split at ho
    · rename_i e
      rw [if_pos e]
      rcases hu with ⟨h1, _⟩ | ⟨k, o', h1, h2, h3⟩
      · rw [ho] at h1; cases h1
      · rw [ho] at h1; injection h1 with h1; subst h1; exact ⟨k, h2, h3⟩
    · rename_i e
      rw [if_neg e]; exact h.yes j o ho
theorem Rel.dup (h : Rel t x fs) (fd : Int) : Rel (Fd.dup t fd).1 (Fx.dup x fd).1 fs ∧ (Fx.dup x fd).2 = (Fd.dup t fd).2 := by
  unfold Fd.dup Fx.dup
  rw [h.wrong]
  by_cases hw : Fd.wrong t fd = 0
  · rw [if_pos hw, if_pos hw]
    rcases h.least8 with ⟨h1, h2⟩ | ⟨k, hk, h1, h2⟩
    · rw [h1, h2, if_pos rfl]; exact ⟨h, rfl⟩
    · rw [h1, h2, if_neg (by omega)]
      obtain ⟨q1, q2, q3⟩ := h.here hw
      exact ⟨h.set hk (.inr ⟨_, _, rfl, q2, q1⟩), rfl⟩
  · rw [if_neg hw, if_neg hw]; exact ⟨h, rfl⟩
theorem Rel.close (h : Rel t x fs) (fd : Int) : Rel (Fd.close t fd).1 (Fx.close x fd) fs ∧ Fx.wrong x fd = (Fd.close t fd).2 := by
  unfold Fd.close Fx.close
  rw [h.wrong]
  by_cases hw : Fd.wrong t fd = 0
  · rw [if_pos hw, if_pos hw]
    obtain ⟨q1, q2, q3⟩ := h.here hw
    exact ⟨h.set (by omega) (.inl ⟨rfl, rfl⟩), hw⟩
  · rw [if_neg hw, if_neg hw]; exact ⟨h, rfl⟩
theorem nth_app (l : List Int) (y : Int) (k : Nat) : nth (l ++ [y]) k = if k < l.length then nth l k else if k = l.length then y else 0 := by
  unfold nth
  simp only [List.getD_eq_getElem?_getD]
  by_cases h : k < l.length
  · rw [if_pos h, List.getElem?_append_left h]
  · rw [if_neg h, List.getElem?_append_right (by omega)]
    by_cases e : k = l.length
    · rw [if_pos e, e]; simp
    · rw [if_neg e, List.getElem?_eq_none (by simp; omega)]; rfl
theorem Rel.opn (h : Rel t x fs) (size : Int) {o : Nat} (ho : o ∉ fs) : ∃ fs', Rel (Fd.opn t size o).1 (Fx.opn x size).1 fs' ∧ (∀ q ∈ fs', q ∈ fs ∨ (q = o ∧ ∃ i, nthO (Fd.opn t size o).1.sl i = some o)) ∧ (Fx.opn x size).2 = (Fd.opn t size o).2 ∧ fs'.length ≤ fs.length + 1 := by
  unfold Fd.opn Fx.opn
  by_cases hs : 0 ≤ size ∧ size ≤ 64
  · rw [if_pos hs, if_pos hs]
    rcases h.least8 with ⟨h1, h2⟩ | ⟨i, hi, h1, h2⟩
    · rw [h1, h2, if_pos rfl]; exact ⟨fs, h, fun q hq => .inl hq, rfl, by omega⟩
    · rw [h1, h2, if_neg (by omega)]
      have h'tl := h.tl
      refine ⟨fs ++ [o], ⟨by simp [h.len], by simp [h.tl], by simp [h.ls], by simp [h.la], ?_, fun j hj hn => ?_, fun j q hq => ?_, fun k q hq => ?_⟩, fun q hq => (List.mem_append.1 hq).imp_right (fun h => ⟨by simpa using h, i, by simp only; rw [nthO_set _ _ _ _ (by rw [h'tl]; exact hi), if_pos rfl]⟩), rfl, by simp⟩
      · rw [List.nodup_append]
        exact ⟨h.nd, by simp, fun a ha b hb => by simp at hb; subst hb; exact fun e => ho (e ▸ ha)⟩
      · simp only at hn ⊢
        rw [nthO_set _ _ _ _ (by rw [h.tl]; exact hi)] at hn
        rw [Sp.nth_set _ _ _ _ (by rw [h.len]; exact hi)]
        split at hn
        · cases hn
        · rename_i e
          rw [if_neg e]; exact h.no j hj hn
      · simp only at hq ⊢
        rw [nthO_set _ _ _ _ (by rw [h.tl]; exact hi)] at hq
        rw [Sp.nth_set _ _ _ _ (by rw [h.len]; exact hi)]
        split at hq
        · rename_i e
          injection hq with hq
          subst hq
          rw [if_pos e]
          exact ⟨x.sz.length, rfl, by rw [h.ls]; simp⟩
        · rename_i e
          rw [if_neg e]
          obtain ⟨k, h3, h4⟩ := h.yes j q hq
          exact ⟨k, h3, by rw [List.getElem?_append_left (List.getElem?_eq_some_iff.1 h4).1]; exact h4⟩
      · simp only
        unfold Fd.upd
        rw [nth_app, nth_app, h.ls, h.la]
        by_cases hk : k < fs.length
        · rw [List.getElem?_append_left hk] at hq
          rw [if_pos hk, if_pos hk, if_neg (by rintro rfl; exact ho (List.mem_of_getElem? hq))]
          exact h.val k q hq
        · rw [List.getElem?_append_right (by omega)] at hq
          have hk' : k = fs.length := by
            have := (List.getElem?_eq_some_iff.1 hq).1
            simp at this
            omega
          subst hk'
          simp at hq
          subst hq
          simp
  · rw [if_neg hs, if_neg hs]; exact ⟨fs, h, fun q hq => .inl hq, rfl, by omega⟩
theorem Rel.move (h : Rel t x fs) (fd by_ : Int) : Rel (Fd.move t fd by_).1 (Fx.move x fd by_).1 fs ∧ (Fx.move x fd by_).2 = (Fd.move t fd by_).2 := by
  unfold Fd.move Fx.move
  rw [h.wrong]
  by_cases hw : Fd.wrong t fd = 0
  · rw [if_pos hw, if_pos hw]
    obtain ⟨q1, q2, q3⟩ := h.here hw
    have hv := h.val _ _ q1
    simp only [hv]
    split
    · refine ⟨⟨h.len, h.tl, h.ls, by simp [h.la], h.nd, h.no, h.yes, fun k q hq => ?_⟩, rfl⟩
      simp only
      unfold Fd.upd
      rw [Sp.nth_set _ _ _ _ (by rw [h.la]; exact h.key_lt hw)]
      by_cases e : key x fd = k
      · subst e
        rw [q1] at hq
        injection hq with hq
        rw [if_pos hq.symm, if_pos rfl]
      · rw [if_neg e, if_neg, h.val k q hq]
        rintro rfl
        exact e ((List.getElem?_inj (h.key_lt hw) h.nd).1 (q1.trans hq.symm))
    · exact ⟨h, rfl⟩
  · rw [if_neg hw, if_neg hw]; exact ⟨h, rfl⟩
end
end Go.Proofs.YtmgalnkcpolafaaDoor.Fx
