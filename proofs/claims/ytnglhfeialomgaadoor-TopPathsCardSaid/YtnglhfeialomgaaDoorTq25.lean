/- slices.SortFunc by strings.Compare at a row of texts that the call owns, off the shelf. -/
import Derived.Shelf.Lay
import Derived.Shelf.SlSortCmp.NoneTotal
import Derived.Shelf.Small.Strs
import Derived.Ground.SlsfProg
import Derived.Lib.RowBridge
import Derived.Lib.SortBridge
import Derived.WalkKit
import Derived.Test.YtnglhfeialomgaaDoorTq11
import Derived.Test.YtnglhfeialomgaaDoorTq12
import Derived.Test.YtnglhfeialomgaaDoorTq23
import Derived.Test.YtnglhfeialomgaaDoorTq24
namespace Go.Proofs
open Go.Shelf
shelf_lay_g SlLaysF.n6 Slsf 6 at Tryd 27 as Tryd.sortS
shelf_lay Lays.n106 Nm 106 at Tryd as Tryd.lays106
namespace YtnglhfeialomgaaDoor
open Go.RowKit Go.Lib Go.Sort

theorem cmpB_lt : ∀ a b : List UInt8, Lib.compareBytes a b < 0 ↔ a < b
  | [], [] => by simp [Lib.compareBytes]
  | [], _ :: _ => by simp [Lib.compareBytes]
  | _ :: _, [] => by simp [Lib.compareBytes]
  | a :: aa, b :: bb => by
    rw [List.cons_lt_cons_iff]
    have ih := cmpB_lt aa bb
    unfold Lib.compareBytes
    by_cases h1 : a < b
    · simp [h1]
    · rw [if_neg h1]
      by_cases h2 : b < a
      · rw [if_pos h2]
        have h3 : a ≠ b := fun e => by subst e; exact UInt8.lt_irrefl _ h2
        simp [h1, h3]
      · rw [if_neg h2, ih]
        have h3 : a = b := UInt8.le_antisymm (UInt8.not_lt.1 h2) (UInt8.not_lt.1 h1)
        simp [h1, h3]
theorem ltS (a b : List UInt8) : ltOf Lib.compareBytes a b = decide (a < b) := by
  unfold ltOf
  rw [decide_eq_decide]
  exact cmpB_lt a b
theorem swoS : SWO (ltOf Lib.compareBytes) where
  irrefl x := by rw [ltS]; simp [List.lt_irrefl]
  trans x y z h1 h2 := by rw [ltS] at *; simp only [decide_eq_true_eq] at *; exact List.lt_trans h1 h2
  ntrans x y z h1 h2 := by rw [ltS] at *; simp only [decide_eq_false_iff_not, List.not_lt] at *; exact List.le_trans h2 h1
theorem totS (x y : List UInt8) (h1 : ltOf Lib.compareBytes x y = false) (h2 : ltOf Lib.compareBytes y x = false) : x = y := by
  rw [ltS] at *
  simp only [decide_eq_false_iff_not, List.not_lt] at *
  exact List.le_antisymm h2 h1
theorem encStr_mk' (x : List UInt8) : encStr x = Value.string (Pa.mk x) := rfl
/-- The texts, rising. -/
def srtS (l : List (List UInt8)) : List (List UInt8) := l.mergeSort (fun x y => !ltOf Lib.compareBytes y x)
theorem srtS_perm (l : List (List UInt8)) : (srtS l).Perm l := List.mergeSort_perm _ _
theorem srtS_lt {l : List (List UInt8)} (h : l.Nodup) : (srtS l).Pairwise (· < ·) := by
  have h1 : (srtS l).Pairwise (fun x y => (!ltOf Lib.compareBytes y x) = true) := List.pairwise_mergeSort (fun x y z a b => by
    simp only [ltS, Bool.not_eq_true', decide_eq_false_iff_not, List.not_lt] at *
    exact List.le_trans a b) (fun x y => by
    simp only [ltS, Bool.or_eq_true, Bool.not_eq_true', decide_eq_false_iff_not, List.not_lt]
    exact List.le_total x y) l
  have h2 : (srtS l).Nodup := (srtS_perm l).nodup_iff.2 h
  refine (h1.and h2).imp (fun {a b} ⟨p, q⟩ => ?_)
  simp only [ltS, Bool.not_eq_true', decide_eq_false_iff_not, List.not_lt] at p
  rcases Decidable.em (a < b) with h | h
  · exact h
  · exact absurd (List.le_antisymm p (List.not_lt.1 h)) q
theorem fr_sortS (w : World) (g o n : Nat) (d : Array (List UInt8)) (os : Array Obj) : Fr [g] w (sortWorld encStr w g o n d os) := by
  refine ⟨rfl, rfl, rfl, ?_, fun k hk hn => ?_⟩
  · show _ ≤ (grow _ _).heap.size
    rw [size_grow, size_putRow]
    exact Nat.le_add_right _ _
  · have hne : g ≠ k := by rintro rfl; simp at hn
    show (((Sort.ahead w n).heap.modify g _) ++ os)[k]? = _
    rw [Array.getElem?_append_left (by rw [Array.size_modify]; exact hk), Array.getElem?_modify, if_neg hne]
    rfl
theorem cmpReadsS (blk off size : Nat) (w : World) : CmpReads Tryd.prog 28 #[] encStr Lib.compareBytes blk off size w := fun m os dk _ x y => by
  have h := Any.strings_Compare Tryd.lays106 (Pa.mk x) (Pa.mk y) (sortWorld encStr w blk off m dk os)
  rw [Pa.mk_list, Pa.mk_list] at h
  exact h.mono fun e w' ⟨he, hw⟩ => ⟨he, 0, hw⟩
theorem sort_strs (w : World) (B : Nat) (v : Value) (xs : List (List UInt8)) (h : OwnR strE w B 9 v xs) (hl : xs.length ≤ 100000) :
    Calls Tryd.prog 27 #[v, .func (.func 28) #[] #[]] w fun e w' => e = .returned (.tuple #[]) ∧ (∃ g, (B ≤ g ∨ xs = []) ∧ SlR strE w' v g (srtS xs)) ∧ Fr v.ownBlock.toList w w' := by
  obtain ⟨g0, hg0, hsl⟩ := h.sl
  obtain ⟨h1, h2⟩ := h
  rcases h2 with ⟨rfl, hn⟩ | ⟨g, cap, cur, rfl, hb, hg, hc, hm, hs, ht⟩
  · have hx := List.eq_nil_of_length_eq_zero hn
    subst hx
    refine (AnyF.slices_SortFunc_none (P := Tryd.prog) (ρ := Tryd.sortS_ren) { Tryd.sortS with } none 0 (.func (.func 28) #[] #[]) w).mono ?_
    rintro e w' ⟨rfl, rfl⟩
    exact ⟨rfl, ⟨0, .inr rfl, .inl ⟨by simp [srtS], none, 0, rfl⟩⟩, Fr.refl _ _⟩
  · have hcell : ∀ j (hj : j < xs.length), w.cell? ⟨g, j, none⟩ = some (.string (Pa.mk xs[j])) := fun j hj => by
      rw [cell_of_row w g j cur _ _ hg]
      have h3 : cur.toList[j]? = (strE.cells xs)[j]? := by rw [← ht, List.getElem?_take, if_pos (by show j < xs.length * 1; omega)]
      have h4 := strE.cells_get xs j 0 hj (by decide)
      rw [show j * strE.k + 0 = j from by show j * 1 + 0 = j; omega] at h4
      rw [show cur[j]? = cur.toList[j]? by simp, h3, h4]
      rfl
    have hH : Holds encStr w g 0 xs.toArray := fun j hj => by
      have hj' : j < xs.length := by simpa using hj
      refine ⟨?_, free_block hg _ _⟩
      rw [Nat.zero_add, hcell j hj', getElem!_pos _ j (by simpa using hj')]
      simp [encStr_mk']
    refine (Any.slices_SortFunc_total Tryd.sortS encStr (fun _ => rfl) Lib.compareBytes swoS 28 #[] g 0 cap xs.toArray w (enters_of Tryd.func28 (by kernel_rfl) rfl) (cmpReadsS g 0 _ w).lays hH (lt_of_heap hg) (by rw [List.size_toArray]; omega) totS).mono ?_
    rintro e w' ⟨rfl, n, os, rfl⟩
    have hls : (srtS xs).length = xs.length := (srtS_perm xs).length_eq
    refine ⟨rfl, ⟨g, .inl hb, .inr ⟨0, cap, by rw [hls], by rw [hls]; exact hc, hm, fun i hi r hr => ?_⟩⟩, fr_sortS w g 0 n _ os⟩
    have hr0 : r = 0 := by have : r < 1 := hr; omega
    subst hr0
    rw [show 0 + i * strE.k + 0 = 0 + i from by show 0 + i * 1 + 0 = 0 + i; omega]
    have hp := cell?_putRow encStr (Sort.ahead w n) g 0 xs.toArray (srtS xs).toArray (holds_ahead _ w n g 0 _ hH) (by simp [hls]) i (by simpa using hi)
    have hgr : (sortWorld encStr w g 0 n (srtS xs).toArray os).cell? ⟨g, 0 + i, none⟩ = (putRow encStr (Sort.ahead w n) g 0 (srtS xs).toArray).cell? ⟨g, 0 + i, none⟩ := by
      refine World.cell?_of_block ?_
      show ((putRow _ _ _ _ _).heap ++ os)[g]? = _
      rw [Array.getElem?_append_left (by rw [size_putRow]; exact lt_of_heap hg)]
    show (sortWorld encStr w g 0 n (srtS xs).toArray os).cell? ⟨g, 0 + i, none⟩ = _
    rw [hgr, hp, getElem!_pos _ i (by simpa using hi)]
    simp [encStr_mk', strE]
end YtnglhfeialomgaaDoor
end Go.Proofs
/- Walk. -/
namespace Go.Proofs.YtnglhfeialomgaaDoor
open Go.RowKit

/-- What Walk hands back. -/
def WalkA (g : Tr.G) (w : World) (e : Ending) (w' : World) : Prop := ∃ v l gv, e = .returned v ∧ (w.heap.size ≤ gv ∨ l = []) ∧ SlR strE w' v gv l ∧ Tr.WalkIs g l ∧ Fr [] w w'
set_option maxRecDepth 100000 in
set_option maxHeartbeats 4000000 in
theorem tr_Walk (w : World) (tb : Nat) (g : Tr.G) (dom : Nat → Prop) (K : Nat) (hS : TrS w tb g dom K) (hcn : Tr.Cn g) :
    Calls Tryd.prog 11 #[.pointer (some ⟨tb, 0, none⟩)] w (WalkA g w) := by
  have HS := Lib.hid hS
  have HCN := Lib.hid hcn
  have hgood : Tr.Good g [] [] := ⟨List.nodup_nil, by simp, by simp⟩
  have HE := Lib.hid (fun W hJ => tr_walk1 w tb g dom K hS hcn w.heap.size (w.heap.size + 1) 8 [] g.root [] W rfl hS.ok.root (by decide) hgood hJ)
  have HST := Lib.hid (wkJ_start w)
  have HB24 : Hid (∀ qs, Tr.Below g [] g.root qs → (qs.map (Tr.txtG g)).length ≤ 100000) := fun qs hq => by
    rw [List.length_map]
    have := hcn.bound hq.1 (fun p hp => by
      obtain ⟨r, c, hr, e, hf⟩ := (hq.2 p).1 hp
      rw [List.nil_append] at e
      subst e
      exact ⟨hr, c, hf⟩)
    have := hS.many
    omega
  clear hS hcn hgood
  go_enter Tryd.func11, Tryd.ntmps11
  go_wp2_with fail
  have hcf := wkJ_box w .nilFunc 52
  obtain ⟨hc1, hc2⟩ := hcf
  have HJ0 := Lib.hid (HST.out 52 (by decide))
  go_wp2_with fail
  generalize hW : (w.alloc (.cells #[.slice none 0 0] 30)).alloc (.cells #[.func (.func 26) #[] #[.pointer (some ⟨w.heap.size, 0, none⟩), .pointer (some ⟨w.heap.size + 1, 0, none⟩)]] 52) = w1 at *
  clear hW hc1 hc2 HST
  obtain ⟨tf, -, hfb⟩ := HJ0.out.fn
  have fc : w1.cell? ⟨w.heap.size + 1, 0, none⟩ = some (.func (.func 26) #[] #[.pointer (some ⟨w.heap.size, 0, none⟩), .pointer (some ⟨w.heap.size + 1, 0, none⟩)]) := by rw [cell_of_row w1 _ 0 _ _ _ hfb]; rfl
  have rc : w1.cell? ⟨tb, 0, none⟩ = some (.pointer (some ⟨g.root, 0, none⟩)) := by rw [cell_of_row _ _ _ _ _ _ (HS.out.step HJ0.out.fr).top]; rfl
  have HCC := Lib.hid (HE.out w1.drew (HJ0.out.keep (Fr.refl [] w1).drew))
  rw [Tr.atT_nil, show Pa.mk [47] = (⟨#[47]⟩ : ByteArray) from rfl] at HCC
  clear hfb
  (refine wp_region_mixq 5 [(true, 0), (true, 1), (true, 2), (true, 3), (true, 4)] (by kernel_rfl) (by kernel_rfl) ?_; simp only [pickOps, List.map_cons, List.map_nil, List.getD_cons_zero, List.getD_cons_succ, List.drop_succ_cons, List.drop_zero]; (iterate 5 (first | (refine wpMix_take (v := ?_) (by rfl) ?_ ?_; rotate_left; (focus (intro W hW; subst hW; go_simp; (try with_reducible rfl); done)); try simp only [Act.put, List.setIfInBounds_toArray, List.set_cons_zero, List.set_cons_succ]) | (refine wpMix_leave (by rfl) ?_; try simp only [Act.put, List.setIfInBounds_toArray, List.set_cons_zero, List.set_cons_succ]))); refine wpMix_nil ?_)
  go_wp2_with (first
    | (go_at_call 26; (with_reducible refine useC HCC.out ?_); rintro e w2 ⟨rfl, -, qs, hq, hj⟩; rw [List.nil_append] at hj; have hl24 : (qs.map (Tr.txtG g)).length ≤ 100000 := HB24.out qs hq; obtain ⟨L, hL⟩ : ∃ L, qs.map (Tr.txtG g) = L := ⟨_, rfl⟩; rw [hL] at hj hl24; have HL := Lib.hid hL; have HQ := Lib.hid hq; obtain ⟨A, c, hb, ho⟩ := hj.out; have vc : w2.cell? ⟨w.heap.size, 0, none⟩ = some (.slice A L.length c) := (by rw [cell_of_row w2 _ 0 _ _ _ hb]; rfl); have HO := Lib.hid ho; have HB := Lib.hid hb; have HF := Lib.hid hj.fr; have HSO := Lib.hid (sort_strs w2 _ _ _ ho hl24); clear hj hb ho hL hq hl24)
    | (go_at_call 27; (with_reducible refine useC HSO.out ?_); rintro e w3 ⟨rfl, ⟨gv, hg, hsl⟩, hf⟩; have hne := own_ne_block HO.out HB.out (by decide); have hb3 := hf.get HB.out (by simpa using hne); have vc3 := cell_of_row w3 w.heap.size 0 _ _ _ hb3; have HSL := Lib.hid (And.intro hg hsl); have HF3 := Lib.hid hf; clear hf hb3 hne hg hsl))
  go_ret
  refine ⟨_, srtS L, gv, rfl, ?_, HSL.out.2, ?_, HF.out.step HF3.out (fun x hx => .inr (HO.out.ge x (by simpa using hx)).1)⟩
  · rcases HSL.out.1 with h | h
    · exact .inl h
    · exact .inr (by rw [h]; simp [srtS])
  · refine Tr.walkIs_of HS.out.ok HQ.out (srtS_lt ?_) ?_
    · rw [← HL.out]; exact Tr.told_nodup HS.out.ok HQ.out
    · rw [HL.out]; exact srtS_perm L
end Go.Proofs.YtnglhfeialomgaaDoor

/- platterholdsame.Texts at lists that are the same; platterholdref2.Shown. -/
namespace Go.Proofs.YtnglhfeialomgaaDoor
open Go.RowKit

theorem str_cell {w : World} {v : Value} {g : Nat} {l : List (List UInt8)} (h : SlR strE w v g l) : ∃ (A : Option Addr) (o c : Nat), v = .slice A l.length c ∧ l.length ≤ 9223372036854775807 ∧ (0 < l.length → A = some ⟨g, o, none⟩) ∧ ∀ i, i < l.length → w.cell? ⟨g, o + i, none⟩ = some (.string (Pa.mk (l.getD i []))) := by
  obtain ⟨A, o, c, h1, h2, h3, h4⟩ := h.form
  refine ⟨A, o, c, h1, h2, h3, fun i hi => ?_⟩
  have := h4 i hi 0 (by decide)
  simpa [strE, List.getD, hi] using this
set_option maxRecDepth 100000 in
theorem texts_same (w : World) (v u : Value) (g k0 : Nat) (xs : List (List UInt8)) (h : SlR strE w v g xs) (h' : SlR strE w u k0 xs) :
    Calls Tryd.prog 15 #[v, u] w (OkT w) := by
  obtain ⟨A, o, c, rfl, hm, hA, hc⟩ := str_cell h
  obtain ⟨A', o', c', rfl, hm', hA', hc'⟩ := str_cell h'
  clear h h'
  have HA := Lib.hid hA
  have HC := Lib.hid (fun W (hW : Fr [] w W) i (hi : i < xs.length) => hW.cell (hc i hi) (by simp))
  have HA' := Lib.hid hA'
  have HC' := Lib.hid (fun W (hW : Fr [] w W) i (hi : i < xs.length) => hW.cell (hc' i hi) (by simp))
  have HF0 := Lib.hid (Fr.refl [] w)
  clear hA hc hA' hc'
  go_enter Tryd.func15, Tryd.ntmps15
  go_wp2_with fail
  go_loopw [5] (fun i wr => ∃ k : Nat, k ≤ xs.length ∧ i = .int .i64 k ∧ Hid (Fr [] w wr)) (fun i _ => xs.length - (intOf i).toNat)
  case atStart => exact ⟨0, Nat.zero_le _, rfl, HF0⟩
  case round =>
    clear HF0
    obtain ⟨k, hk, rfl, hF⟩ := hrel
    by_cases hlt : k < xs.length
    · obtain rfl := HA.out (by omega)
      obtain rfl := HA'.out (by omega)
      have hcell := HC.out wr hF.out k hlt
      have hcell' := HC'.out wr hF.out k hlt
      have i1 : (0 : Int) ≤ k := by omega
      have i2 : (k : Int) < xs.length := by omega
      generalize Pa.mk (xs.getD k []) = m at *
      go_wp2_with fail
      (refine wp_region_mixq 8 [(true, 0), (true, 1), (true, 2), (true, 3), (true, 4), (true, 5), (true, 6), (true, 7)] (by kernel_rfl) (by kernel_rfl) ?_; simp only [pickOps, List.map_cons, List.map_nil, List.getD_cons_zero, List.getD_cons_succ, List.drop_succ_cons, List.drop_zero]; (iterate 8 (first | (refine wpMix_take (v := ?_) (by rfl) ?_ ?_; rotate_left; (focus (intro W hW; subst hW; go_simp; (try with_reducible rfl); done)); try simp only [Act.put, List.setIfInBounds_toArray, List.set_cons_zero, List.set_cons_succ]) | (refine wpMix_leave (by rfl) ?_; try simp only [Act.put, List.setIfInBounds_toArray, List.set_cons_zero, List.set_cons_succ]))); refine wpMix_nil ?_)
      go_wp2
      go_roundw
      case rel => exact ⟨k + 1, by omega, by go_num, hF.out.step (Fr.refl [] wr).drew (by simp)⟩
      case measure => (simp [intOf]; try omega)
    · have i2 : ¬ (k : Int) < xs.length := by omega
      go_wp2
      go_ret
      exact ⟨rfl, hF.out⟩
theorem flat_take {l : List (List UInt8)} {k : Nat} (h : k < l.length) : (l.take (k + 1)).flatMap (fun p => (47 : UInt8) :: p) = (l.take k).flatMap (fun p => 47 :: p) ++ 47 :: l.getD k [] := by
  rw [List.take_add_one, List.getElem?_eq_getElem h, List.flatMap_append]
  simp [List.getD, h]
theorem flat_le (l : List (List UInt8)) (k : Nat) : ((l.take k).flatMap (fun p => (47 : UInt8) :: p)).length ≤ Pa.long l := by
  rw [Pa.flat_len]
  have : Pa.long l = Pa.long (l.take k) + Pa.long (l.drop k) := by rw [← Pa.long_append, List.take_append_drop]
  omega
theorem flat_le' {l : List (List UInt8)} {k : Nat} (h : k < l.length) : ((l.take k).flatMap (fun p => (47 : UInt8) :: p)).length + 1 + (l.getD k []).length ≤ Pa.long l := by
  have h1 := flat_le l (k + 1)
  rw [flat_take h, List.length_append, List.length_cons] at h1
  omega
set_option maxRecDepth 100000 in
theorem pa_Shown (w : World) (v : Value) (g : Nat) (l : List (List UInt8)) (h : SlR strE w v g l) (hl : Pa.long l ≤ 100000) :
    Calls Tryd.prog 20 #[v] w fun e w' => e = .returned (.string (Pa.mk (Pa.shown l))) ∧ w' = w := by
  obtain ⟨A, o, c, rfl, hm, hA, hc⟩ := str_cell h
  clear h
  by_cases h0 : l = []
  · subst h0
    go_enter Tryd.func20, Tryd.ntmps20
    go_wp2
    go_ret
    exact ⟨rfl, rfl⟩
  · have hpos : 0 < l.length := List.length_pos_iff.2 h0
    have e0 : ((l.length : Int) == 0) = false := beq_eq_false_iff_ne.2 (by omega)
    have hsh : Pa.shown l = l.flatMap (fun p => 47 :: p) := if_neg h0
    have HSH := Lib.hid hsh
    obtain rfl := hA hpos
    have HC := Lib.hid hc
    have HL := Lib.hid hl
    clear hA hc hl h0 hsh
    go_enter Tryd.func20, Tryd.ntmps20
    go_wp2_with fail
    go_loop [3, 4] (fun s i => ∃ k : Nat, k ≤ l.length ∧ i = .int .i64 k ∧ s = .string (Pa.mk ((l.take k).flatMap (fun p => 47 :: p)))) (fun _ i => l.length - (intOf i).toNat)
    case atStart => exact ⟨0, Nat.zero_le _, rfl, rfl⟩
    case round =>
      obtain ⟨k, hk, rfl, rfl⟩ := hrel
      by_cases hlt : k < l.length
      · have q := HC.out k hlt
        have i1 : (0 : Int) ≤ k := by omega
        have i2 : (k : Int) < l.length := by omega
        have hb := flat_le' hlt
        have hl' := HL.out
        have s1 := Pa.mk_size ((l.take k).flatMap (fun p => 47 :: p))
        have s2 := Pa.mk_size (l.getD k [])
        have HE : Hid (Pa.mk ((l.take k).flatMap (fun p => 47 :: p)) ++ (⟨#[47]⟩ : ByteArray) ++ Pa.mk (l.getD k []) = Pa.mk ((l.take (k + 1)).flatMap (fun p => 47 :: p))) := by
          show _ = _
          rw [flat_take hlt, show (⟨#[47]⟩ : ByteArray) = Pa.mk [47] from rfl, mk_append, mk_append, List.append_assoc]
          rfl
        rw [← s1, ← s2] at hb
        clear s1 s2 HC
        generalize Pa.mk ((l.take k).flatMap (fun p => 47 :: p)) = m1 at *
        generalize Pa.mk (l.getD k []) = m2 at *
        have z1 : m1.size ≤ 100000 := by omega
        have z2 : m2.size ≤ 100000 := by omega
        clear hb hl'
        go_wp2
        go_round
        case rel => exact ⟨k + 1, by omega, by go_num, by rw [← HE.out]⟩
        case measure => (simp [intOf]; try omega)
      · obtain rfl : k = l.length := by omega
        have i2 : ¬ (l.length : Int) < l.length := by omega
        rw [List.take_length, ← HSH.out]
        clear HC
        go_wp2
        go_ret
        exact ⟨rfl, rfl⟩
end Go.Proofs.YtnglhfeialomgaaDoor
