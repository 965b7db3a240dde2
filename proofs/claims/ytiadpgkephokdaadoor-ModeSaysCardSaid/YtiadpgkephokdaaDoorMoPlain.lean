/- Mode's plain laws: bits of numbers up to 511, and the letters of a mode. -/
import Derived.Test.YtiadpgkephokdaaDoorMoWalk
import Derived.Laws.BitsLemmas
namespace Go.Proofs.YtiadpgkephokdaaDoor
open Go.RowKit

theorem band (a b : Nat) (ha : a < 9223372036854775808) (hb : b < 9223372036854775808) : bits .and .i64 (a : Int) (b : Int) = ((a &&& b : Nat) : Int) := by
  have e1 : (BitVec.ofInt 64 (a : Int)).toNat = a := by rw [BitVec.toNat_ofInt]; omega
  have e2 : (BitVec.ofInt 64 (b : Int)).toNat = b := by rw [BitVec.toNat_ofInt]; omega
  show IntKind.i64.wrap ((BitVec.ofInt 64 (a : Int) &&& BitVec.ofInt 64 (b : Int)).toNat : Nat) = _
  rw [BitVec.toNat_and, e1, e2, IntKind.wrap_i64]
  have := Nat.and_le_left (n := a) (m := b)
  omega
theorem bandNot (a b : Nat) (ha : a < 9223372036854775808) (hb : b < 9223372036854775808) : ∃ n : Nat, bits .andNot .i64 (a : Int) (b : Int) = (n : Int) ∧ ∀ i, n.testBit i = (a.testBit i && !b.testBit i) := by
  have e1 : (BitVec.ofInt 64 (a : Int)).toNat = a := by rw [BitVec.toNat_ofInt]; omega
  have e2 : (BitVec.ofInt 64 (b : Int)).toNat = b := by rw [BitVec.toNat_ofInt]; omega
  refine ⟨(BitVec.ofInt 64 (a : Int) &&& ~~~ BitVec.ofInt 64 (b : Int)).toNat, ?_, fun i => ?_⟩
  · show IntKind.i64.wrap ((BitVec.ofInt 64 (a : Int) &&& ~~~ BitVec.ofInt 64 (b : Int)).toNat : Nat) = _
    rw [IntKind.wrap_i64]
    have : (BitVec.ofInt 64 (a : Int) &&& ~~~ BitVec.ofInt 64 (b : Int)).toNat ≤ a := by
      rw [BitVec.toNat_and, e1]; exact Nat.and_le_left
    omega
  · rw [BitVec.testBit_toNat, BitVec.getLsbD_and, BitVec.getLsbD_not, ← BitVec.testBit_toNat, ← BitVec.testBit_toNat, e1, e2]
    by_cases hi : i < 64
    · simp [hi]
    · have h0 : a.testBit i = false := Nat.testBit_lt_two_pow (Nat.lt_of_lt_of_le ha (by exact Nat.le_trans (by decide : 9223372036854775808 ≤ 2 ^ 64) (Nat.pow_le_pow_right (by decide) (by omega))))
      simp [hi, h0]
/-- All bits of k are bits of a. -/
theorem and_eq_iff (a k : Nat) : a &&& k = k ↔ ∀ i, k.testBit i = true → a.testBit i = true := by
  constructor
  · intro h i hi
    have := congrArg (fun n => n.testBit i) h
    simp only [Nat.testBit_and, hi, Bool.and_true] at this
    exact this
  · intro h
    apply Nat.eq_of_testBit_eq
    intro i
    rw [Nat.testBit_and]
    cases hk : k.testBit i
    · simp
    · simp [h i hk]
namespace Mo
theorem fits_bounds {m o s x h k : Int} (hf : fits m o s x h k = true) : (0 ≤ m ∧ m ≤ 511) ∧ (0 ≤ k ∧ k ≤ 7) ∧ allIn [o, s, x, h] 0 9 = true := by
  unfold fits at hf
  simp only [Bool.and_eq_true, decide_eq_true_eq] at hf
  exact ⟨hf.1.1, hf.2, hf.1.2⟩
/-- By how much the mode is shifted. -/
def sh (o s x h : Int) : Nat := if x = o then 6 else if h = s then 3 else 0
theorem part_eq (o s x h : Int) (m : Nat) : part o s x h m = ((m >>> sh o s x h : Nat) : Int) := by
  unfold part sh
  rw [Nat.shiftRight_eq_div_pow]
  split
  · rfl
  · split
    · rfl
    · simp
/-- May one: in bits. -/
theorem may_iff {m o s x h k : Int} (hf : fits m o s x h k = true) (hx : x ≠ 0) : ((may m o s x h k).1 = true) ↔ ∀ i, k.toNat.testBit i = true → m.toNat.testBit (sh o s x h + i) = true := by
  obtain ⟨⟨h1, h2⟩, ⟨h3, h4⟩, _⟩ := fits_bounds hf
  unfold may
  rw [if_pos hf, if_neg hx]
  obtain ⟨a, rfl⟩ : ∃ a : Nat, m = a := ⟨m.toNat, by omega⟩
  obtain ⟨b, rfl⟩ : ∃ b : Nat, k = b := ⟨k.toNat, by omega⟩
  have hle : a >>> sh o s x h ≤ a := by rw [Nat.shiftRight_eq_div_pow]; exact Nat.div_le_self _ _
  rw [part_eq, band _ _ (by omega) (by omega)]
  simp only [Int.toNat_natCast]
  rw [show (((a >>> sh o s x h &&& b : Nat) : Int) == (b : Int)) = decide (a >>> sh o s x h &&& b = b) by rw [Bool.eq_iff_iff]; simp; omega, decide_eq_true_iff, and_eq_iff]
  simp only [Nat.testBit_shiftRight]
theorem may_err {m o s x h k : Int} (hf : fits m o s x h k = true) : (may m o s x h k).2 = 0 := by
  unfold may
  rw [if_pos hf]
  split <;> rfl
theorem may_root {m o s h k : Int} (hf : fits m o s 0 h k = true) : may m o s 0 h k = (true, 0) := by unfold may; rw [if_pos hf, if_pos rfl]
theorem may_bad {m o s x h k : Int} (hf : fits m o s x h k = false) : may m o s x h k = (false, 1) := by unfold may; rw [if_neg (by rw [hf]; decide)]
/-- Are all bits of one number in another one, of three bits each? As the document says it. -/
def bits3 (want has : Int) : Bool := (want % 2 == 0 || has % 2 == 1) && (want / 2 % 2 == 0 || has / 2 % 2 == 1) && (want / 4 % 2 == 0 || has / 4 % 2 == 1)
theorem bits3_nat : ∀ p, p < 8 → ∀ q, q < 8 → bits3 ((p : Nat) : Int) ((q : Nat) : Int) = (p &&& q == p) := by decide +kernel
theorem bits3_sub (p q : Nat) (hp : p < 8) (hq : q < 8) (h : bits3 p q = true) : ∀ i, p.testBit i = true → q.testBit i = true := by
  rw [bits3_nat p hp q hq] at h
  have : q &&& p = p := by rw [Nat.and_comm]; simpa using h
  exact (and_eq_iff q p).1 this
/-- **ModeLess.** -/
theorem less_law (m o s x h want p : Int) (hp : 0 ≤ p ∧ p ≤ 7) (hw : 0 ≤ want ∧ want ≤ 7) :
    (may m o s x h want).2 = (may m o s x h p).2 ∧ ((may m o s x h want).2 = 0 → bits3 p want = true → (may m o s x h want).1 = true → (may m o s x h p).1 = true) := by
  have hff : fits m o s x h want = fits m o s x h p := by unfold fits; rw [decide_eq_true hp, decide_eq_true hw]
  cases hf : fits m o s x h p with
  | false =>
    rw [may_bad (hff.trans hf), may_bad hf]
    exact ⟨rfl, fun h => by cases h⟩
  | true =>
    have hf' := hff.trans hf
    refine ⟨by rw [may_err hf, may_err hf'], fun _ hb ha => ?_⟩
    by_cases hx : x = 0
    · subst hx; rw [may_root hf]
    · rw [may_iff hf' hx] at ha
      rw [may_iff hf hx]
      intro i hi
      refine ha i (bits3_sub p.toNat want.toNat (by omega) (by omega) ?_ i hi)
      rw [show ((p.toNat : Nat) : Int) = p by omega, show ((want.toNat : Nat) : Int) = want by omega]
      exact hb
theorem new_ok {a m : Int} (ha : 0 ≤ a ∧ a ≤ 511) (hm : 0 ≤ m ∧ m ≤ 511) : ∃ n : Nat, new a m = ((n : Int), 0) ∧ n ≤ a.toNat ∧ ∀ i, n.testBit i = (a.toNat.testBit i && !m.toNat.testBit i) := by
  obtain ⟨p, rfl⟩ : ∃ p : Nat, a = p := ⟨a.toNat, by omega⟩
  obtain ⟨q, rfl⟩ : ∃ q : Nat, m = q := ⟨m.toNat, by omega⟩
  obtain ⟨n, h1, h2⟩ := bandNot p q (by omega) (by omega)
  refine ⟨n, ?_, ?_, by simpa using h2⟩
  · unfold new
    rw [if_pos (by simp [allIn]; omega), h1]
  · simp only [Int.toNat_natCast]
    have : n &&& p = n := by
      apply Nat.eq_of_testBit_eq
      intro i
      rw [Nat.testBit_and, h2]
      cases p.testBit i <;> simp
    rw [← this]
    exact Nat.and_le_right
theorem new_bad {a m : Int} (h : ¬ ((0 ≤ a ∧ a ≤ 511) ∧ (0 ≤ m ∧ m ≤ 511))) : new a m = (0, 1) := by
  unfold new
  rw [if_neg]
  simp [allIn]
  omega
/-- **ModeMask.** -/
theorem mask_law (m mask : Int) : (new m mask = (0, 1) ∧ ¬ ((0 ≤ m ∧ m ≤ 511) ∧ (0 ≤ mask ∧ mask ≤ 511))) ∨ ∃ n : Int, new m mask = (n, 0) ∧ (0 ≤ n ∧ n ≤ m) ∧ new n mask = (n, 0) ∧
    ∀ o s x h want, (may m o s x h want).2 = (may n o s x h want).2 ∧ ((may m o s x h want).2 = 0 → ((may n o s x h want).1 = true → (may m o s x h want).1 = true) ∧ (x = 0 → (may n o s x h want).1 = true)) := by
  by_cases hb : (0 ≤ m ∧ m ≤ 511) ∧ (0 ≤ mask ∧ mask ≤ 511)
  · obtain ⟨n, h1, h2, h3⟩ := new_ok hb.1 hb.2
    refine .inr ⟨n, h1, by omega, ?_, ?_⟩
    · obtain ⟨k, k1, _, k3⟩ := new_ok (a := (n : Int)) (m := mask) (by omega) hb.2
      rw [k1]
      have : k = n := by
        apply Nat.eq_of_testBit_eq
        intro i
        rw [k3, Int.toNat_natCast, h3]
        cases m.toNat.testBit i <;> cases mask.toNat.testBit i <;> rfl
      rw [this]
    · intro o s x h want
      have hff : fits m o s x h want = fits n o s x h want := by
        unfold fits
        rw [decide_eq_true hb.1, decide_eq_true (show 0 ≤ (n : Int) ∧ (n : Int) ≤ 511 by omega)]
      cases hf : fits n o s x h want with
      | false =>
        rw [may_bad (hff.trans hf), may_bad hf]
        exact ⟨rfl, fun h => by cases h⟩
      | true =>
        have hf' := hff.trans hf
        refine ⟨by rw [may_err hf, may_err hf'], fun _ => ⟨fun hn => ?_, fun hx => by subst hx; rw [may_root hf]⟩⟩
        by_cases hx : x = 0
        · subst hx; rw [may_root hf']
        · rw [may_iff hf hx] at hn
          rw [may_iff hf' hx]
          intro i hi
          have := hn i hi
          rw [Int.toNat_natCast, h3] at this
          simp only [Bool.and_eq_true] at this
          exact this.1
  · exact .inl ⟨new_bad hb, hb⟩
end Mo
end Go.Proofs.YtiadpgkephokdaaDoor
