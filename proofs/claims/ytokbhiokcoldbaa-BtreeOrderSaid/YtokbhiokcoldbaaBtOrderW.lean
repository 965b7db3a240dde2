/- What the law BtreeOrder wants beside: E.Turned, and the last key so far. -/
import Derived.Test.YtokbhiokcoldbaaBtOrderP
import Derived.Test.YtokbhiokcoldbaaInE
import Derived.Test.YtokbhiokcoldbaaClose
import Derived.Lib.SmallJoins
import Derived.Deep.Slices
namespace Go.Proofs.Ytokbhiokcoldbaa
open Go.RowKit

/-- wpList_push_int for as long a row as the reach allows. -/
theorem wpList_push_big {P : Program} {ops : Array Oper} {rest : List Oper} {o : Oper} {a : Act} {Q : Exit → Act → World → Prop} {wr : World} {y : Int} {t e : TypeId} (hT : IntT P t e) (hgd : o.guard = none) (s x : Operand)
    (ho : o.op = .call { callee := .builtin .append, args := #[s, x], argTypes := #[t, t] })
    (B : Nat) (v : Value) (xs : List Int) (hs : a.eval s = v) (hown : Own wr B e v xs) (hx : a.eval x = .slice (some ⟨wr.heap.size, 0, none⟩) 1 1) (hl : xs.length < 17592186044416) (hB : B ≤ wr.heap.size)
    (h : ∀ v' w', Own w' B e v' (xs ++ [y]) → wr.grownBy w' v.ownBlock → Below B wr w' → wpList P ops Q rest (a.put o.dst v') w') : wpList P ops Q (o :: rest) a (wr.alloc (.cells #[.int .i64 y] e)) := by
  obtain ⟨i0, hi, hz0, hz1, hz2⟩ := info_parts hT.hi
  refine wpList_append_own _ hgd s x t ho B e i0 (.int .i64 0) 1 8 hT.ht hi hz0 hz1 hz2 rfl (by decide) v xs.length _ hs (hown.alloc _) ⟨wr.heap.size, 0, none⟩ 1 1 [.int .i64 y] hx rfl ?_ (by simp [Value.oneCell']) (by unfold maxLen; omega) (by omega) (by simp; omega) ?_
  · intro j u hu
    cases j with
    | zero => simp at hu; subst hu; rw [Addr.add_zero', cell_of_row _ _ _ _ _ _ (heap_alloc_new wr _)]; rfl
    | succ j => simp at hu
  · intro v' w' h1 h2 _
    have hg : wr.grownBy w' v.ownBlock := ⟨h2.os, h2.tape, h2.output, Nat.le_trans (by simp) h2.size, fun k hk hn => (h2.block k (by simp; omega) hn).trans (Below.heap_alloc wr _ k hk)⟩
    refine h v' w' (by unfold Own; simpa using h1) hg ?_
    exact ⟨hg.os, hg.tape, hg.output, hg.size, fun k hk => hg.block k (by omega) (fun e => by have := hown.ge k e.symm; omega)⟩
theorem drop_rev {l : List Int} {m : Nat} (h : m < l.length) : (l.drop (m + 1)).reverse ++ [nth l m] = (l.drop m).reverse := by
  rw [List.drop_eq_getElem_cons h, List.reverse_cons]
  simp [nth, List.getD, h]
set_option maxRecDepth 100000 in
set_option maxHeartbeats 2000000 in
theorem turned_any (w : World) (v : Value) (g : Nat) (l : List Int) (h : Sl w v g l) (hl : l.length < 17592186044416) :
    Calls Try.prog 16 #[v] w fun e w' => ∃ v', e = .returned v' ∧ Own w' w.heap.size 3 v' l.reverse ∧ Fr [] w w' := by
  obtain ⟨A0, o0, c0, rfl, -, hA, hc⟩ := h.form
  have HA := Lib.hid hA
  have HC := Lib.hid (fun W (hW : Fr [] w W) i hi => hW.cell (hc i hi) (by simp))
  clear hA hc h
  have wl : IntKind.i64.wrap ((l.length : Int) - 1) = (l.length : Int) - 1 := by rw [IntKind.wrap_i64]; omega
  go_enter Try.func16, Try.ntmps16
  go_wp2_with fail
  go_loopw [3, 4] (fun o iv wr => ∃ m : Nat, m ≤ l.length ∧ ∃ κ : Int, iv = .int .i64 κ ∧ κ = (m : Int) - 1 ∧ ∃ (A : Option Addr) (n c : Nat), o = .slice A n c ∧ Hid (Own wr w.heap.size 3 (.slice A n c) (l.drop m).reverse ∧ Fr [] w wr)) (fun _ iv _ => (intOf iv + 1).toNat)
  case atStart => exact ⟨l.length, Nat.le_refl _, _, rfl, rfl, none, 0, 0, rfl, by rw [List.drop_length]; exact Own.nil _ _ _, Fr.refl _ _⟩
  case round =>
    obtain ⟨m, hm, κ, rfl, hκ, A, n, c, rfl, hI⟩ := hrel
    by_cases hm0 : 0 < m
    · obtain ⟨j, rfl⟩ : ∃ j, m = j + 1 := ⟨m - 1, by omega⟩
      obtain rfl : κ = (j : Int) := by omega
      have hlt : j < l.length := by omega
      have jI : (j : Int) < l.length := by omega
      have j0 : (0 : Int) ≤ j := by omega
      obtain rfl := HA.out (by omega)
      have q := HC.out wr hI.out.2 j hlt
      have HO := Lib.hid hI.out.1
      have HF := Lib.hid hI.out.2
      have HT := Lib.hid (drop_rev hlt)
      have hz := hI.out.2.size
      have hll : (l.drop (j + 1)).reverse.length < 17592186044416 := by rw [List.length_reverse, List.length_drop]; omega
      have wj : IntKind.i64.wrap ((j : Int) - 1) = (j : Int) - 1 := by rw [IntKind.wrap_i64]; omega
      generalize nth l j = x at *
      generalize (l.drop (j + 1)).reverse = L at *
      clear hI hκ
      go_wp2_with (at_builtin; refine wpList_push_big (wr := wr) Try.intT rfl _ _ rfl w.heap.size _ L rfl HO.out rfl hll hz ?_; intro v' w2 h1 h2 h3; rw [HT.out] at h1; have HO2 := Lib.hid h1; have HF2 := Lib.hid (HF.out.below_step h3 (Nat.le_refl _)); obtain ⟨A', c', rfl, -⟩ := (own_inE.2 h1).form'; clear h1 h2 h3)
      go_roundw
      case rel =>
        have h2 := HO2.out
        rw [show (List.drop j l).reverse.length = l.length - j from by simp] at h2
        exact ⟨j, by omega, _, by go_num, rfl, A', _, c', rfl, h2, HF2.out⟩
      case measure => (simp [intOf]; try omega)
    · obtain rfl : m = 0 := by omega
      obtain rfl : κ = -1 := by omega
      clear hκ hm0
      go_wp2
      go_ret
      exact ⟨_, rfl, hI.out.1, hI.out.2⟩
namespace Bt
def lastOf (l : List Int) : Int := l.getLastD (-1)
theorem lastOf_snoc (l : List Int) (x : Int) : lastOf (l ++ [x]) = x := by unfold lastOf; simp
theorem lastOf_lt {a b : List Int} {x : Int} (h : Up (a ++ x :: b)) (hx : 0 ≤ x) : ¬ x ≤ lastOf a := by
  rcases List.eq_nil_or_concat a with rfl | ⟨a', y, rfl⟩
  · show ¬ x ≤ -1
    omega
  · rw [List.concat_eq_append] at h ⊢
    rw [lastOf_snoc]
    have h1 := (List.pairwise_append.1 h).2.2 y (by simp) x (by simp)
    omega
end Bt
end Go.Proofs.Ytokbhiokcoldbaa
