/- slices.SortFunc by strings.Compare at a row of texts that the call owns, off the shelf. -/
import Derived.Shelf.Lay
import Derived.Shelf.SlSortCmp.NoneTotal
import Derived.Shelf.Small.Strs
import Derived.Ground.SlsfProg
import Derived.Lib.RowBridge
import Derived.Lib.SortBridge
import Derived.WalkKit
import Derived.Test.YtnglhfeialomgaaDoorPaParts
namespace Go.Proofs
open Go.Shelf
shelf_lay_g SlLaysF.n6 Slsf 6 at Tryd 27 as Tryd.sortS
shelf_lay Lays.n106 Nm 106 at Tryd as Tryd.lays106
namespace YtnglhfeialomgaaDoor
open Go.RowKit Go.Lib Go.Sort

theorem cmpB_lt : ∀ a b : List UInt8, Lib.compareBytes a b < 0 ↔ a < b
  | [], [] => by simp [Lib.compareBytes]
  | [], _ :: _ => by simp [Lib.compareBytes]
  | _ :: _, [] => by simp [Lib.compareBytes]
  | a :: aa, b :: bb => by
    rw [List.cons_lt_cons_iff]
    have ih := cmpB_lt aa bb
    unfold Lib.compareBytes
    by_cases h1 : a < b
    · simp [h1]
    · rw [if_neg h1]
      by_cases h2 : b < a
      · rw [if_pos h2]
        have h3 : a ≠ b := fun e => by subst e; exact UInt8.lt_irrefl _ h2
        simp [h1, h3]
      · rw [if_neg h2, ih]
        have h3 : a = b := UInt8.le_antisymm (UInt8.not_lt.1 h2) (UInt8.not_lt.1 h1)
        simp [h1, h3]
theorem ltS (a b : List UInt8) : ltOf Lib.compareBytes a b = decide (a < b) := by
  unfold ltOf
  rw [decide_eq_decide]
  exact cmpB_lt a b
theorem swoS : SWO (ltOf Lib.compareBytes) where
  irrefl x := by rw [ltS]; simp [List.lt_irrefl]
  trans x y z h1 h2 := by rw [ltS] at *; simp only [decide_eq_true_eq] at *; exact List.lt_trans h1 h2
  ntrans x y z h1 h2 := by rw [ltS] at *; simp only [decide_eq_false_iff_not, List.not_lt] at *; exact List.le_trans h2 h1
theorem totS (x y : List UInt8) (h1 : ltOf Lib.compareBytes x y = false) (h2 : ltOf Lib.compareBytes y x = false) : x = y := by
  rw [ltS] at *
  simp only [decide_eq_false_iff_not, List.not_lt] at *
  exact List.le_antisymm h2 h1
theorem encStr_mk' (x : List UInt8) : encStr x = Value.string (Pa.mk x) := rfl
/-- The texts, rising. -/
def srtS (l : List (List UInt8)) : List (List UInt8) := l.mergeSort (fun x y => !ltOf Lib.compareBytes y x)
theorem srtS_perm (l : List (List UInt8)) : (srtS l).Perm l := List.mergeSort_perm _ _
theorem srtS_lt {l : List (List UInt8)} (h : l.Nodup) : (srtS l).Pairwise (· < ·) := by
  have h1 : (srtS l).Pairwise (fun x y => (!ltOf Lib.compareBytes y x) = true) := List.pairwise_mergeSort (fun x y z a b => by
    simp only [ltS, Bool.not_eq_true', decide_eq_false_iff_not, List.not_lt] at *
    exact List.le_trans a b) (fun x y => by
    simp only [ltS, Bool.or_eq_true, Bool.not_eq_true', decide_eq_false_iff_not, List.not_lt]
    exact List.le_total x y) l
  have h2 : (srtS l).Nodup := (srtS_perm l).nodup_iff.2 h
  refine (h1.and h2).imp (fun {a b} ⟨p, q⟩ => ?_)
  simp only [ltS, Bool.not_eq_true', decide_eq_false_iff_not, List.not_lt] at p
  rcases Decidable.em (a < b) with h | h
  · exact h
  · exact absurd (List.le_antisymm p (List.not_lt.1 h)) q
theorem fr_sortS (w : World) (g o n : Nat) (d : Array (List UInt8)) (os : Array Obj) : Fr [g] w (sortWorld encStr w g o n d os) := by
  refine ⟨rfl, rfl, rfl, ?_, fun k hk hn => ?_⟩
  · show _ ≤ (grow _ _).heap.size
    rw [size_grow, size_putRow]
    exact Nat.le_add_right _ _
  · have hne : g ≠ k := by rintro rfl; simp at hn
    show (((Sort.ahead w n).heap.modify g _) ++ os)[k]? = _
    rw [Array.getElem?_append_left (by rw [Array.size_modify]; exact hk), Array.getElem?_modify, if_neg hne]
    rfl
theorem cmpReadsS (blk off size : Nat) (w : World) : CmpReads Tryd.prog 28 #[] encStr Lib.compareBytes blk off size w := fun m os dk _ x y => by
  have h := Any.strings_Compare Tryd.lays106 (Pa.mk x) (Pa.mk y) (sortWorld encStr w blk off m dk os)
  rw [Pa.mk_list, Pa.mk_list] at h
  exact h.mono fun e w' ⟨he, hw⟩ => ⟨he, 0, hw⟩
theorem sort_strs (w : World) (B : Nat) (v : Value) (xs : List (List UInt8)) (h : OwnR strE w B 9 v xs) (hl : xs.length ≤ 100000) :
    Calls Tryd.prog 27 #[v, .func (.func 28) #[] #[]] w fun e w' => e = .returned (.tuple #[]) ∧ (∃ g, (B ≤ g ∨ xs = []) ∧ SlR strE w' v g (srtS xs)) ∧ Fr v.ownBlock.toList w w' := by
  obtain ⟨g0, hg0, hsl⟩ := h.sl
  obtain ⟨h1, h2⟩ := h
  rcases h2 with ⟨rfl, hn⟩ | ⟨g, cap, cur, rfl, hb, hg, hc, hm, hs, ht⟩
  · have hx := List.eq_nil_of_length_eq_zero hn
    subst hx
    refine (AnyF.slices_SortFunc_none (P := Tryd.prog) (ρ := Tryd.sortS_ren) { Tryd.sortS with } none 0 (.func (.func 28) #[] #[]) w).mono ?_
    rintro e w' ⟨rfl, rfl⟩
    exact ⟨rfl, ⟨0, .inr rfl, .inl ⟨by simp [srtS], none, 0, rfl⟩⟩, Fr.refl _ _⟩
  · have hcell : ∀ j (hj : j < xs.length), w.cell? ⟨g, j, none⟩ = some (.string (Pa.mk xs[j])) := fun j hj => by
      rw [cell_of_row w g j cur _ _ hg]
      have h3 : cur.toList[j]? = (strE.cells xs)[j]? := by rw [← ht, List.getElem?_take, if_pos (by show j < xs.length * 1; omega)]
      have h4 := strE.cells_get xs j 0 hj (by decide)
      rw [show j * strE.k + 0 = j from by show j * 1 + 0 = j; omega] at h4
      rw [show cur[j]? = cur.toList[j]? by simp, h3, h4]
      rfl
    have hH : Holds encStr w g 0 xs.toArray := fun j hj => by
      have hj' : j < xs.length := by simpa using hj
      refine ⟨?_, free_block hg _ _⟩
      rw [Nat.zero_add, hcell j hj', getElem!_pos _ j (by simpa using hj')]
      simp [encStr_mk']
    refine (Any.slices_SortFunc_total Tryd.sortS encStr (fun _ => rfl) Lib.compareBytes swoS 28 #[] g 0 cap xs.toArray w (enters_of Tryd.func28 (by kernel_rfl) rfl) (cmpReadsS g 0 _ w).lays hH (lt_of_heap hg) (by rw [List.size_toArray]; omega) totS).mono ?_
    rintro e w' ⟨rfl, n, os, rfl⟩
    have hls : (srtS xs).length = xs.length := (srtS_perm xs).length_eq
    refine ⟨rfl, ⟨g, .inl hb, .inr ⟨0, cap, by rw [hls], by rw [hls]; exact hc, hm, fun i hi r hr => ?_⟩⟩, fr_sortS w g 0 n _ os⟩
    have hr0 : r = 0 := by have : r < 1 := hr; omega
    subst hr0
    rw [show 0 + i * strE.k + 0 = 0 + i from by show 0 + i * 1 + 0 = 0 + i; omega]
    have hp := cell?_putRow encStr (Sort.ahead w n) g 0 xs.toArray (srtS xs).toArray (holds_ahead _ w n g 0 _ hH) (by simp [hls]) i (by simpa using hi)
    have hgr : (sortWorld encStr w g 0 n (srtS xs).toArray os).cell? ⟨g, 0 + i, none⟩ = (putRow encStr (Sort.ahead w n) g 0 (srtS xs).toArray).cell? ⟨g, 0 + i, none⟩ := by
      refine World.cell?_of_block ?_
      show ((putRow _ _ _ _ _).heap ++ os)[g]? = _
      rw [Array.getElem?_append_left (by rw [size_putRow]; exact lt_of_heap hg)]
    show (sortWorld encStr w g 0 n (srtS xs).toArray os).cell? ⟨g, 0 + i, none⟩ = _
    rw [hgr, hp, getElem!_pos _ i (by simpa using hi)]
    simp [encStr_mk', strE]
end YtnglhfeialomgaaDoor
end Go.Proofs
