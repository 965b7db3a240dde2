/- The plain model of package ranges: a table of 256 states (64 places for each of four owners), its locks. No program in sight. -/
import Derived.Test.YtgljklefcfheaaaDoorBase
namespace Go.Proofs.YtgljklefcfheaaaDoor.Ra

theorem nth_set (l : List Int) (q : Nat) (x : Int) (i : Nat) (h : q < l.length) : nth (l.set q x) i = if q = i then x else nth l i := by
  unfold nth
  simp only [List.getD_eq_getElem?_getD, List.getElem?_set]
  split
  · rename_i e; subst e; simp
  · rfl
/-- A lock: owner, from, size, alone. -/
abbrev Lk := Nat × Nat × Nat × Bool
/-- What of is at a place. -/
def st (T : List Int) (w p : Nat) : Int := nth T (64 * w + p)
def bump : List Lk → List Lk
  | [] => []
  | [(o, f, n, a)] => [(o, f, n + 1, a)]
  | x :: y :: l => x :: bump (y :: l)
theorem bump_concat (l : List Lk) (o f n : Nat) (a : Bool) : bump (l ++ [(o, f, n, a)]) = l ++ [(o, f, n + 1, a)] := by
  induction l with
  | nil => rfl
  | cons x l ih =>
    cases l with
    | nil => rfl
    | cons y l => simp only [List.cons_append, bump] at ih ⊢; rw [ih]
/-- The locks of one owner's first n places. -/
def rowTo (T : List Int) (w : Nat) : Nat → List Lk
  | 0 => []
  | p + 1 => if st T w p = 0 then rowTo T w p else if 0 < p ∧ st T w (p - 1) = st T w p then bump (rowTo T w p) else rowTo T w p ++ [(w, p, 1, decide (st T w p = 2))]
def listTo (T : List Int) : Nat → List Lk
  | 0 => []
  | w + 1 => listTo T w ++ rowTo T w 64
def locks (T : List Int) : List Lk := listTo T 4

/-- A lock that says what is in the table. -/
def Fit (T : List Int) (e : Lk) : Prop := e.1 < 4 ∧ 1 ≤ e.2.2.1 ∧ e.2.1 + e.2.2.1 ≤ 64 ∧ ∀ p, e.2.1 ≤ p → p < e.2.1 + e.2.2.1 → st T e.1 p = if e.2.2.2 then 2 else 1
/-- Two locks beside each other. -/
def Nb (x y : Lk) : Prop := x.1 < y.1 ∨ x.1 = y.1 ∧ x.2.1 + x.2.2.1 ≤ y.2.1 ∧ (x.2.1 + x.2.2.1 = y.2.1 → x.2.2.2 ≠ y.2.2.2)
/-- All states are 0, 1 or 2. -/
def Tab (T : List Int) : Prop := T.length = 256 ∧ ∀ q, q < 256 → nth T q = 0 ∨ nth T q = 1 ∨ nth T q = 2

/-- What holds of an owner's first n places. -/
structure Row (T : List Int) (w p : Nat) (l : List Lk) : Prop where
  fit : ∀ e ∈ l, e.1 = w ∧ Fit T e ∧ e.2.1 + e.2.2.1 ≤ p
  nb : l.Pairwise Nb
  last : 0 < p → st T w (p - 1) ≠ 0 → ∃ l' f n a, l = l' ++ [(w, f, n, a)] ∧ f + n = p
theorem st_cases {T : List Int} (hT : Tab T) {w p : Nat} (hw : w < 4) (hp : p < 64) : st T w p = 0 ∨ st T w p = 1 ∨ st T w p = 2 := hT.2 _ (by omega)
theorem Nb.grow {x : Lk} {w f n : Nat} {a : Bool} (h : Nb x (w, f, n, a)) : Nb x (w, f, n + 1, a) := h
theorem row_row {T : List Int} (hT : Tab T) {w : Nat} (hw : w < 4) : ∀ p, p ≤ 64 → Row T w p (rowTo T w p)
  | 0, _ => ⟨fun e h => by simp [rowTo] at h, by simp [rowTo], fun h => absurd h (Nat.lt_irrefl _)⟩
  | p + 1, hp => by
    have ih := row_row hT hw p (by omega)
    have hs := st_cases hT hw (show p < 64 by omega)
    unfold rowTo
    by_cases h0 : st T w p = 0
    · rw [if_pos h0]
      exact ⟨fun e he => ⟨(ih.fit e he).1, (ih.fit e he).2.1, by have := (ih.fit e he).2.2; omega⟩, ih.nb, fun _ h => absurd h0 h⟩
    · rw [if_neg h0]
      by_cases h1 : 0 < p ∧ st T w (p - 1) = st T w p
      · rw [if_pos h1]
        obtain ⟨l', f, n, a, hl, hfn⟩ := ih.last h1.1 (by rw [h1.2]; exact h0)
        rw [hl, bump_concat]
        have hfit := ih.fit (w, f, n, a) (by rw [hl]; simp)
        refine ⟨fun e he => ?_, ?_, fun _ _ => ⟨l', f, n + 1, a, rfl, by omega⟩⟩
        · rcases List.mem_append.1 he with he | he
          · have := ih.fit e (by rw [hl]; exact List.mem_append_left _ he)
            exact ⟨this.1, this.2.1, by omega⟩
          · simp only [List.mem_singleton] at he
            subst he
            refine ⟨rfl, ⟨hw, by simp, by simp only; omega, fun q h2 h3 => ?_⟩, by simp only; omega⟩
            simp only at h2 h3 ⊢
            by_cases e : q = p
            · subst e
              have := hfit.2.1.2.2.2 (q - 1) (by simp only; have := hfit.2.1.2.1; simp only at this; omega) (by simp only; omega)
              simp only at this
              rw [← h1.2]; exact this
            · exact hfit.2.1.2.2.2 q h2 (by simp only; omega)
        · have := ih.nb
          rw [hl, List.pairwise_append] at this
          rw [List.pairwise_append]
          exact ⟨this.1, by simp, fun x hx y hy => by simp only [List.mem_singleton] at hy; subst hy; exact (this.2.2 x hx (w, f, n, a) (by simp)).grow⟩
      · rw [if_neg h1]
        refine ⟨fun e he => ?_, ?_, fun _ _ => ⟨_, p, 1, _, rfl, rfl⟩⟩
        · rcases List.mem_append.1 he with he | he
          · have := ih.fit e he
            exact ⟨this.1, this.2.1, by omega⟩
          · simp only [List.mem_singleton] at he
            subst he
            refine ⟨rfl, ⟨hw, by simp, by simp only; omega, fun q h2 h3 => ?_⟩, by simp⟩
            simp only at h2 h3 ⊢
            have e : q = p := by omega
            subst e
            rcases hs with hs | hs | hs
            · exact absurd hs h0
            · rw [hs]; simp
            · rw [hs]; simp
        · rw [List.pairwise_append]
          refine ⟨ih.nb, by simp, fun x hx y hy => ?_⟩
          simp only [List.mem_singleton] at hy
          subst hy
          obtain ⟨e1, e2, e3⟩ := ih.fit x hx
          refine .inr ⟨e1, e3, fun e4 => ?_⟩
          simp only at e4 ⊢
          intro e5
          have h6 := e2.2.2.2 (p - 1) (by have := e2.2.1; omega) (by have := e2.2.1; omega)
          rw [e1, e5] at h6
          refine h1 ⟨by have := e2.2.1; omega, ?_⟩
          rw [h6]
          rcases hs with hs | hs | hs
          · exact absurd hs h0
          · rw [hs]; simp
          · rw [hs]; simp
theorem list_fit {T : List Int} (hT : Tab T) : ∀ w, w ≤ 4 → (∀ e ∈ listTo T w, e.1 < w ∧ Fit T e) ∧ (listTo T w).Pairwise Nb
  | 0, _ => by simp [listTo]
  | w + 1, hw => by
    obtain ⟨h1, h2⟩ := list_fit hT w (by omega)
    have h3 := row_row hT (show w < 4 by omega) 64 (Nat.le_refl _)
    unfold listTo
    refine ⟨fun e he => ?_, ?_⟩
    · rcases List.mem_append.1 he with he | he
      · exact ⟨by have := (h1 e he).1; omega, (h1 e he).2⟩
      · exact ⟨by have := (h3.fit e he).1; omega, (h3.fit e he).2.1⟩
    · rw [List.pairwise_append]
      exact ⟨h2, h3.nb, fun x hx y hy => .inl (by rw [(h3.fit y hy).1]; exact (h1 x hx).1)⟩
theorem locks_fit {T : List Int} (hT : Tab T) : (∀ e ∈ locks T, Fit T e) ∧ (locks T).Pairwise Nb := ⟨fun e he => ((list_fit hT 4 (Nat.le_refl _)).1 e he).2, (list_fit hT 4 (Nat.le_refl _)).2⟩

/-! ### What the functions do -/
def okL (o f n : Int) : Prop := (0 ≤ o ∧ o ≤ 3) ∧ (0 ≤ f ∧ f ≤ 63) ∧ (1 ≤ n ∧ n ≤ 64 - f)
instance (o f n : Int) : Decidable (okL o f n) := by unfold okL; infer_instance
/-- Does an owner hold one of n places from f on against a lock? -/
def hits (T : List Int) (w f : Nat) (a : Bool) : Nat → Bool
  | 0 => false
  | k + 1 => hits T w f a k || (decide (st T w (f + k) = 2) || (decide (st T w (f + k) = 1) && a))
/-- The least of the owners from the k-th last on that is not o and holds some. -/
def against (T : List Int) (o f n : Nat) (a : Bool) : Nat → Int
  | 0 => -1
  | k + 1 => if 3 - k ≠ o ∧ hits T (3 - k) f a n = true then ((3 - k : Nat) : Int) else against T o f n a k
def test (T : List Int) (o f n : Int) (a : Bool) : Int × Int := if okL o f n then (against T o.toNat f.toNat n.toNat a 4, 0) else (0, 1)
def fillTo (T : List Int) (o f : Nat) (x : Int) : Nat → List Int
  | 0 => T
  | k + 1 => (fillTo T o f x k).set (64 * o + (f + k)) x
def state (a : Bool) : Int := if a then 2 else 1
def put (T : List Int) (o f n : Nat) (x : Int) : List Int × Int := if 24 < (locks (fillTo T o f x n)).length then (T, 4) else (fillTo T o f x n, 0)
def set (T : List Int) (o f n : Int) (a : Bool) : List Int × Int :=
  if okL o f n then (if 0 ≤ against T o.toNat f.toNat n.toNat a 4 then (T, 6) else put T o.toNat f.toNat n.toNat (state a)) else (T, 1)
def free (T : List Int) (o f n : Int) : List Int × Int := if okL o f n then put T o.toNat f.toNat n.toNat 0 else (T, 1)
def new : List Int := List.replicate 256 0

theorem fill_nth {T : List Int} (hl : T.length = 256) {o f : Nat} (ho : o < 4) (x : Int) : ∀ n, f + n ≤ 64 → (fillTo T o f x n).length = 256 ∧ ∀ q, nth (fillTo T o f x n) q = if 64 * o + f ≤ q ∧ q < 64 * o + f + n then x else nth T q
  | 0, _ => ⟨hl, fun q => by rw [if_neg (by omega)]; rfl⟩
  | n + 1, hn => by
    obtain ⟨h1, h2⟩ := fill_nth (f := f) hl ho x n (by omega)
    refine ⟨by unfold fillTo; simp [h1], fun q => ?_⟩
    unfold fillTo
    rw [nth_set _ _ _ _ (by omega), h2]
    by_cases e : 64 * o + (f + n) = q
    · rw [if_pos e, if_pos (by omega)]
    · rw [if_neg e]
      by_cases e2 : 64 * o + f ≤ q ∧ q < 64 * o + f + n
      · rw [if_pos e2, if_pos (by omega)]
      · rw [if_neg e2, if_neg (by omega)]
theorem fill_st {T : List Int} (hl : T.length = 256) {o f n : Nat} (ho : o < 4) (hn : f + n ≤ 64) (x : Int) (w p : Nat) (hp : p < 64) : st (fillTo T o f x n) w p = if w = o ∧ f ≤ p ∧ p < f + n then x else st T w p := by
  unfold st
  rw [(fill_nth hl ho x n hn).2]
  by_cases e : w = o
  · subst e
    by_cases e2 : f ≤ p ∧ p < f + n
    · rw [if_pos (by omega), if_pos ⟨rfl, e2⟩]
    · rw [if_neg (by omega), if_neg (fun h => e2 h.2)]
  · rw [if_neg (by omega), if_neg (fun h => e h.1)]
theorem fill_tab {T : List Int} (hT : Tab T) {o f n : Nat} (ho : o < 4) (hn : f + n ≤ 64) {x : Int} (hx : x = 0 ∨ x = 1 ∨ x = 2) : Tab (fillTo T o f x n) := by
  obtain ⟨h1, h2⟩ := fill_nth hT.1 ho x n hn
  refine ⟨h1, fun q hq => ?_⟩
  rw [h2]
  split
  · exact hx
  · exact hT.2 q hq
/-- Who is alone is alone. -/
def Alone (T : List Int) : Prop := ∀ a b p, a < 4 → b < 4 → p < 64 → a ≠ b → st T a p = 2 → st T b p = 0
structure OK (T : List Int) : Prop where
  tab : Tab T
  alone : Alone T
  few : (locks T).length ≤ 24
theorem new_nth (q : Nat) : nth new q = 0 := by unfold nth new; simp only [List.getD_eq_getElem?_getD, List.getElem?_replicate]; split <;> rfl
theorem new_rowTo (w : Nat) : ∀ p, rowTo new w p = []
  | 0 => rfl
  | p + 1 => by unfold rowTo; rw [if_pos (by unfold st; exact new_nth _)]; exact new_rowTo w p
theorem new_listTo : ∀ w, listTo new w = []
  | 0 => rfl
  | w + 1 => by unfold listTo; rw [new_listTo w, new_rowTo]; rfl
theorem new_ok : OK new := ⟨⟨List.length_replicate, fun q _ => .inl (new_nth q)⟩, fun a b p _ _ _ _ h => by unfold st at h; rw [new_nth] at h; omega, by unfold locks; rw [new_listTo]; simp⟩

theorem hits_false {T : List Int} {w f : Nat} {a : Bool} : ∀ n, hits T w f a n = false → ∀ p, f ≤ p → p < f + n → st T w p ≠ 2 ∧ (a = true → st T w p ≠ 1)
  | 0, _, p, h1, h2 => by omega
  | n + 1, h, p, h1, h2 => by
    unfold hits at h
    simp only [Bool.or_eq_false_iff, Bool.and_eq_false_iff, decide_eq_false_iff_not] at h
    by_cases e : p = f + n
    · subst e; exact ⟨h.2.1, fun ha => h.2.2.resolve_right (by rw [ha]; simp)⟩
    · exact hits_false n h.1 p h1 (by omega)
theorem against_no {T : List Int} {o f n : Nat} {a : Bool} : ∀ k, k ≤ 4 → ¬ 0 ≤ against T o f n a k → ∀ w, 4 - k ≤ w → w < 4 → w ≠ o → hits T w f a n = false
  | 0, _, _, w, h1, h2, _ => by omega
  | k + 1, hk, h, w, h1, h2, h3 => by
    unfold against at h
    split at h
    · omega
    · rename_i hc
      by_cases e : w = 3 - k
      · subst e
        cases hh : hits T (3 - k) f a n with
        | false => rfl
        | true => exact absurd ⟨h3, hh⟩ hc
      · exact against_no k (by omega) h w (by omega) h2 h3
theorem put_ok {T : List Int} (h : OK T) {o f n : Nat} {x : Int} (ho : o < 4) (hn : f + n ≤ 64) (hx : x = 0 ∨ x = 1 ∨ x = 2) (ha : Alone (fillTo T o f x n)) : OK (put T o f n x).1 := by
  unfold put
  split
  · exact h
  · rename_i hc
    exact ⟨fill_tab h.tab ho hn hx, ha, by simp only; omega⟩
theorem free_ok {T : List Int} (h : OK T) (o f n : Int) : OK (free T o f n).1 := by
  unfold free
  split
  · rename_i hc
    unfold okL at hc
    refine put_ok h (by omega) (by omega) (.inl rfl) (fun a b p h1 h2 h3 h4 h5 => ?_)
    rw [fill_st h.tab.1 (by omega) (by omega) _ _ _ h3] at h5 ⊢
    split at h5
    · omega
    · split
      · rfl
      · exact h.alone a b p h1 h2 h3 h4 h5
  · exact h
theorem set_ok {T : List Int} (h : OK T) (o f n : Int) (a : Bool) : OK (set T o f n a).1 := by
  unfold set
  split
  · rename_i hc
    unfold okL at hc
    split
    · exact h
    · rename_i hag
      have hno := against_no 4 (Nat.le_refl _) hag
      have hx : state a = 0 ∨ state a = 1 ∨ state a = 2 := by unfold state; cases a <;> simp
      refine put_ok h (by omega) (by omega) hx (fun c b p h1 h2 h3 h4 h5 => ?_)
      rw [fill_st h.tab.1 (by omega) (by omega) _ _ _ h3] at h5 ⊢
      have hb := st_cases h.tab h2 h3
      have hcc := st_cases h.tab h1 h3
      split at h5
      · rename_i hin
        rw [if_neg (fun hh => h4 (by omega))]
        have ha : a = true := by cases a <;> simp [state] at h5 ⊢
        have := hits_false _ (hno b (by omega) h2 (by omega)) p hin.2.1 hin.2.2
        rcases hb with hb | hb | hb
        · exact hb
        · exact absurd hb (this.2 ha)
        · exact absurd hb this.1
      · split
        · rename_i hin
          have := hits_false _ (hno c (by omega) h1 (by omega)) p hin.2.1 hin.2.2
          exact absurd h5 this.1
        · exact h.alone c b p h1 h2 h3 h4 h5
  · exact h
end Go.Proofs.YtgljklefcfheaaaDoor.Ra
