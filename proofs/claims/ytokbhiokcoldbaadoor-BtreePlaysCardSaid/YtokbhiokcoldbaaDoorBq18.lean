/- The document's tree by numbers, in plain Lean: what each step of Add finds. No program in sight. -/

import Derived.Test.YtokbhiokcoldbaaDoorBq02
import Derived.Test.YtokbhiokcoldbaaDoorBq15
namespace Go.Proofs.YtokbhiokcoldbaaDoor
namespace Bt

/-- The kid on the way: a tree of its own, without the node itself. -/
theorem rep_down {d lo : Nat} {ns : List Nn} {i : Nat} {t : T (d + 1)} {F : List Nat} {x : Int} (h : Rep (d + 1) ns i t F) (hn : F.Nodup) (hk : Ok (d + 1) lo t) (hu : Up (all (d + 1) t)) (hx : x ∉ all (d + 1) t) :
    ∃ (j : Nat) (s : T d) (F' : List Nat), Rep d ns j s F' ∧ F'.Nodup ∧ i ∉ F' ∧ Ok d 2 s ∧ Up (all d s) ∧ x ∉ all d s ∧ path ns x (d + 1) i = i :: path ns x d j ∧ (nd ns i).2.length = (nd ns i).1.length + 1 := by
  obtain ⟨K, h1, h2, h3, rfl⟩ := h
  have hl := map_len hk
  have hku := up_keys t.1 _ hl hu
  have hn' : nd ns i = (t.1, K.map (fun p => (p.1 : Int))) := nd_of h1
  have hKl : K.length = t.1.length + 1 := by have := hk.2.1; rw [h2, List.length_map] at this; exact this
  have hund : und t.1 x < K.length := by have := List.length_filter_le (fun y => decide (y < x)) t.1; unfold und; omega
  have hp : K[und t.1 x] ∈ K := List.getElem_mem hund
  have hm : K[und t.1 x].2.1 ∈ t.2 := by rw [h2]; exact List.mem_map.2 ⟨_, hp, rfl⟩
  have hsub : K[und t.1 x].2.2.Sublist (K.map (·.2.2)).flatten := List.sublist_flatten_of_mem (List.mem_map.2 ⟨_, hp, rfl⟩)
  refine ⟨K[und t.1 x].1, K[und t.1 x].2.1, K[und t.1 x].2.2, h3 _ hp, (List.nodup_cons.1 hn).2.sublist hsub, fun h => (List.nodup_cons.1 hn).1 (hsub.subset h), hk.2.2 _ hm, up_kid t.1 _ hl hu _ (List.mem_map.2 ⟨_, hm, rfl⟩), fun h => hx ((mem_weave x t.1 _ hl).2 (.inr ⟨_, List.mem_map.2 ⟨_, hm, rfl⟩, h⟩)), ?_, ?_⟩
  · show i :: path ns x d ((nd ns i).2.getD (und (nd ns i).1 x) 0).toNat = _
    rw [hn']
    simp [List.getD, hund]
  · rw [hn']
    simpa using hKl
/-- What the step at node j finds, those behind it (suf) being done. -/
structure Found (ns : List Nn) (x : Int) (j : Nat) (suf : List Nat) (k kid : Int) : Prop where
  lt : j < (upw ns x suf).1.length
  same : nd (upw ns x suf).1 j = nd ns j
  kids : ((nd ns j).2 = [] ∧ kid = -1) ∨ ((nd ns j).2.length = (nd ns j).1.length + 1 ∧ 0 ≤ kid)
theorem nd_same {ns ns' : List Nn} {j : Nat} (h : ns'[j]? = ns[j]?) : nd ns' j = nd ns j := by
  unfold nd
  rw [List.getD_eq_getElem?_getD, List.getD_eq_getElem?_getD, h]
theorem found : ∀ (d lo : Nat) (ns : List Nn) (i : Nat) (t : T d) (F : List Nat) (x : Int), Rep d ns i t F → F.Nodup → Ok d lo t → Up (all d t) → x ∉ all d t → ∀ (pre suf : List Nat) (j : Nat) (k kid : Int), path ns x d i = pre ++ j :: suf → (upw ns x suf).2 = some (k, kid) → Found ns x j suf k kid
  | 0, lo, ns, i, t, F, x, h, hn, hk, hu, hx, pre, suf, j, k, kid, hp, hs => by
    have hp' : [i] = pre ++ j :: suf := hp
    obtain ⟨rfl, rfl, rfl⟩ : pre = [] ∧ j = i ∧ suf = [] := by
      cases pre with
      | nil => simp at hp'; exact ⟨rfl, hp'.1.symm, hp'.2⟩
      | cons a b => simp at hp'
    have hkid : kid = -1 := by
      have e : (some (x, (-1 : Int))) = some (k, kid) := hs
      injection e with e
      injection e with _ e
      exact e.symm
    exact ⟨h.lt _ h.self, rfl, .inl ⟨by rw [nd_of h.1], hkid⟩⟩
  | d + 1, lo, ns, i, t, F, x, h, hn, hk, hu, hx, pre, suf, j, k, kid, hp, hs => by
    obtain ⟨p, s, F', g1, g2, g3, g4, g5, g6, g7, g8⟩ := rep_down h hn hk hu hx
    have hil := h.lt _ h.self
    rw [g7] at hp
    cases pre with
    | nil =>
      simp at hp
      obtain ⟨rfl, rfl⟩ := hp
      have hA := up_add d 2 ns p s F' x g1 g2 g4 g5 g6
      obtain ⟨r, hr⟩ : ∃ z, upw ns x (path ns x d p) = z := ⟨_, rfl⟩
      rw [hr] at hA hs
      generalize hA' : add d s x = A at *
      obtain ⟨s', o⟩ := A
      cases o with
      | none =>
        obtain ⟨h0, -⟩ : r.2 = none ∧ ∃ F'', Rep d r.1 p s' F'' ∧ F''.Nodup ∧ Chg ns r.1 F' F'' := hA
        rw [h0] at hs
        cases hs
      | some uq =>
        obtain ⟨u, q⟩ := uq
        obtain ⟨kd, F1, F2, h0, -, -, -, hc⟩ : ∃ (kid : Nat) (F1 F2 : List Nat), r.2 = some (u, (kid : Int)) ∧ Rep d r.1 p s' F1 ∧ Rep d r.1 kid q F2 ∧ (F1 ++ F2).Nodup ∧ Chg ns r.1 F' (F1 ++ F2) := hA
        rw [h0] at hs
        injection hs with e
        injection e with e1 e2
        refine ⟨by rw [hr]; exact Nat.lt_of_lt_of_le hil hc.le, by rw [hr]; exact nd_same (hc.old i hil g3), .inr ⟨g8, by omega⟩⟩
    | cons a pre' =>
      simp at hp
      obtain ⟨rfl, hp⟩ := hp
      exact found d 2 ns p s F' x g1 g2 g4 g5 g6 pre' suf j k kid hp hs
/-- No node is great. -/
def Small (b : Nat) (ns : List Nn) : Prop := ∀ i, (nd ns i).1.length ≤ b ∧ (nd ns i).2.length ≤ b
theorem nd_set' {ns : List Nn} {i j : Nat} {n : Nn} : nd (ns.set i n) j = if i = j ∧ i < ns.length then n else nd ns j := by
  unfold nd
  rw [List.getD_eq_getElem?_getD, List.getElem?_set, List.getD_eq_getElem?_getD]
  by_cases e : i = j
  · subst e
    by_cases h : i < ns.length
    · rw [if_pos rfl, if_pos h, if_pos ⟨rfl, h⟩]; rfl
    · rw [if_pos rfl, if_neg h, if_neg (fun q => h q.2), List.getElem?_eq_none (by omega)]
  · rw [if_neg e, if_neg (fun q => e q.1)]
theorem nd_app' {ns : List Nn} {j : Nat} {n : Nn} : nd (ns ++ [n]) j = if j = ns.length then n else nd ns j := by
  unfold nd
  rw [List.getD_eq_getElem?_getD, List.getD_eq_getElem?_getD]
  by_cases e : j = ns.length
  · subst e
    rw [if_pos rfl]
    simp
  · rw [if_neg e]
    by_cases h : j < ns.length
    · rw [List.getElem?_append_left h]
    · rw [List.getElem?_eq_none (by simp; omega), List.getElem?_eq_none (by omega)]
theorem small_body {b : Nat} {ns : List Nn} (h : Small b ns) (i : Nat) (k kid : Int) : Small (b + 1) (body ns i k kid).1 := by
  have hi := h i
  have hins : ∀ (l : List Int) (a : Nat) (y : Int), (ins l a y).length ≤ l.length + 1 := fun l a y => by
    unfold ins
    simp only [List.length_append, List.length_take, List.length_cons, List.length_drop]
    omega
  have hl := hins (nd ns i).1 (und (nd ns i).1 k) k
  have hc : (if 0 ≤ kid then ins (nd ns i).2 (und (nd ns i).1 k + 1) kid else (nd ns i).2).length ≤ b + 1 := by
    split
    · have := hins (nd ns i).2 (und (nd ns i).1 k + 1) kid; omega
    · omega
  intro j
  have hj := h j
  unfold body
  dsimp only
  generalize (if 0 ≤ kid then ins (nd ns i).2 (und (nd ns i).1 k + 1) kid else (nd ns i).2) = c at *
  generalize ins (nd ns i).1 (und (nd ns i).1 k) k = l at *
  split
  · obtain ⟨z, hz⟩ : ∃ z, nd (ns.set i (l, c)) j = z := ⟨_, rfl⟩
    show (nd (ns.set i (l, c)) j).1.length ≤ b + 1 ∧ (nd (ns.set i (l, c)) j).2.length ≤ b + 1
    rw [hz]
    rw [nd_set'] at hz
    split at hz
    · subst hz; exact ⟨by dsimp only; omega, by dsimp only; omega⟩
    · subst hz; exact ⟨by omega, by omega⟩
  · obtain ⟨z, hz⟩ : ∃ z, nd ((ns ++ [(l.drop 3, c.drop 3)]).set i (l.take 2, c.take 3)) j = z := ⟨_, rfl⟩
    show (nd ((ns ++ [(l.drop 3, c.drop 3)]).set i (l.take 2, c.take 3)) j).1.length ≤ b + 1 ∧ (nd ((ns ++ [(l.drop 3, c.drop 3)]).set i (l.take 2, c.take 3)) j).2.length ≤ b + 1
    rw [hz]
    rw [nd_set'] at hz
    split at hz
    · subst hz; dsimp only; rw [List.length_take, List.length_take]; exact ⟨by omega, by omega⟩
    · rw [nd_app'] at hz
      split at hz
      · subst hz; dsimp only; rw [List.length_drop, List.length_drop]; exact ⟨by omega, by omega⟩
      · subst hz; exact ⟨by omega, by omega⟩
theorem upw_small {ns : List Nn} {x : Int} {b : Nat} (h : Small b ns) : ∀ (l : List Nat), Small (b + l.length) (upw ns x l).1
  | [] => h
  | i :: r => by
    have ih := upw_small (x := x) h r
    show Small _ (match upw ns x r with | (ns', none) => (ns', none) | (ns', some (k, kid)) => body ns' i k kid).1
    rcases hu : upw ns x r with ⟨ns', o⟩
    rw [hu] at ih
    cases o with
    | none => exact fun j => ⟨by have h1 : (nd ns' j).1.length ≤ b + r.length := (ih j).1; simp only [List.length_cons]; omega, by have h1 : (nd ns' j).2.length ≤ b + r.length := (ih j).2; simp only [List.length_cons]; omega⟩
    | some kk =>
      obtain ⟨k, kid⟩ := kk
      exact small_body ih i k kid
theorem upw_len {ns : List Nn} {x : Int} : ∀ (l : List Nat), (upw ns x l).1.length ≤ ns.length + l.length
  | [] => Nat.le_refl _
  | i :: r => by
    have ih := upw_len (ns := ns) (x := x) r
    show (match upw ns x r with | (ns', none) => (ns', none) | (ns', some (k, kid)) => body ns' i k kid).1.length ≤ _
    rcases hu : upw ns x r with ⟨ns', o⟩
    rw [hu] at ih
    cases o with
    | none => simp only [List.length_cons]; dsimp only at ih ⊢; omega
    | some kk =>
      obtain ⟨k, kid⟩ := kk
      simp only [List.length_cons]
      dsimp only at ih ⊢
      unfold body
      dsimp only
      split <;> simp <;> omega
end Bt
end Go.Proofs.YtokbhiokcoldbaaDoor
/- The contract of core.All at a row of numbers. -/
namespace Go.Proofs.YtokbhiokcoldbaaDoor
open Go.RowKit

theorem sl_new {w : World} {g : Nat} {t : TypeId} {fr : Nat × Nat} (xs : List Int) (h : w.heap[g]? = some (.cells (ints xs) t fr)) (hl : xs.length ≤ maxLen) : Sl w (.slice (some ⟨g, 0, none⟩) xs.length xs.length) g xs :=
  .inr ⟨0, xs.length, rfl, Nat.le_refl _, hl, fun i hi => by rw [Nat.zero_add]; exact cell_ints h hi⟩
/-- Are all within bounds? -/
def allIn (xs : List Int) (lo hi : Int) : Bool := xs.all fun x => decide (lo ≤ x ∧ x ≤ hi)
theorem allIn_cut {xs : List Int} {lo hi : Int} {k : Nat} (hk : k < xs.length) (h : decide (lo ≤ nth xs k ∧ nth xs k ≤ hi) = false) : allIn xs lo hi = false := by
  unfold allIn
  rw [List.all_eq_false]
  exact ⟨nth xs k, getD_mem hk, by rw [h]; decide⟩
theorem allIn_full {xs : List Int} {lo hi : Int} (h : ∀ k, k < xs.length → decide (lo ≤ nth xs k ∧ nth xs k ≤ hi) = true) : allIn xs lo hi = true := by
  unfold allIn
  rw [List.all_eq_true]
  intro x hx
  obtain ⟨k, hk, e⟩ := List.getElem_of_mem hx
  have := h k hk
  rw [show nth xs k = x by simp [nth, List.getD, hk, e]] at this
  exact this
theorem all_any (w : World) (v : Value) (g : Nat) (xs : List Int) (lo hi : Int) (h : Sl w v g xs) :
    Calls Tryd.prog 50 #[v, .int .i64 lo, .int .i64 hi] w fun e w' => e = .returned (.bool (allIn xs lo hi)) ∧ w = w' := by
  obtain ⟨A, o, c, rfl, hm, hA, hc⟩ := h.form
  clear h
  have HA := Lib.hid hA
  have HC := Lib.hid hc
  clear hA hc
  go_enter Tryd.func50, Tryd.ntmps50
  go_wp2
  go_loop [11] (fun i => ∃ k : Nat, k ≤ xs.length ∧ i = .int .i64 k ∧ Hid (∀ j, j < k → decide (lo ≤ nth xs j ∧ nth xs j ≤ hi) = true)) (fun i => xs.length - (intOf i).toNat)
  case atStart => exact ⟨0, Nat.zero_le _, rfl, fun j hj => absurd hj (Nat.not_lt_zero _)⟩
  case round =>
    obtain ⟨k, hk, rfl, hs⟩ := hrel
    by_cases hlt : k < xs.length
    · obtain rfl := HA.out (by omega)
      have hcell := HC.out k hlt
      by_cases hy : lo ≤ nth xs k ∧ nth xs k ≤ hi
      · have e1 := decide_eq_true hy
        have HS : Hid (∀ j, j < k + 1 → decide (lo ≤ nth xs j ∧ nth xs j ≤ hi) = true) := fun j hj => by
          by_cases e : j = k
          · subst e; exact e1
          · exact hs.out j (by omega)
        clear hy
        generalize nth xs k = y at *
        go_wp2_with (go_at_call 63; (with_reducible refine useC (within_is _ _ _ true _ e1) ?_); rintro e w2 ⟨rfl, rfl⟩)
        go_round
        case rel => exact ⟨k + 1, by omega, by go_num, HS⟩
        case measure => simp [intOf]; omega
      · have e1 := decide_eq_false hy
        have hr := Lib.hid (allIn_cut hlt e1)
        clear hy
        generalize nth xs k = y at *
        go_wp2_with (go_at_call 63; (with_reducible refine useC (within_is _ _ _ false _ e1) ?_); rintro e w2 ⟨rfl, rfl⟩)
        go_ret
        exact ⟨ret_bool hr.out.symm, rfl⟩
    · have hr := Lib.hid (allIn_full (fun j hj => hs.out j (by omega)))
      go_wp2
      go_ret
      exact ⟨ret_bool hr.out.symm, rfl⟩
end Go.Proofs.YtokbhiokcoldbaaDoor

/- Rows of integers: literals, an element, a tail. -/
namespace Go.Proofs.YtokbhiokcoldbaaDoor
open Go.RowKit

theorem Own.slice' {w : World} {B e : Nat} {v : Value} {xs : List Int} (h : Own w B e v xs) : ∃ A c, v = .slice A xs.length c := by
  obtain ⟨_, _, hs⟩ := h.sl
  obtain ⟨A, _, c, rfl, _⟩ := hs.form
  exact ⟨_, _, rfl⟩
theorem sl_lit1 (w : World) (x : Int) : Sl (w.alloc (.cells #[.int .i64 x] 3)) (.slice (some ⟨w.heap.size, 0, none⟩) 1 1) w.heap.size [x] := sl_new [x] (heap_alloc_new w _) (by simp; decide)
theorem sl_lit2 (w : World) (x y : Int) : Sl (w.alloc (.cells #[.int .i64 x, .int .i64 y] 3)) (.slice (some ⟨w.heap.size, 0, none⟩) 2 2) w.heap.size [x, y] := sl_new [x, y] (heap_alloc_new w _) (by simp; decide)
theorem Sl.form2 {w : World} {v : Value} {g : Nat} {xs : List Int} (h : Sl w v g xs) (h0 : 0 < xs.length) : ∃ o c, v = .slice (some ⟨g, o, none⟩) xs.length c ∧ xs.length ≤ c ∧ c ≤ maxLen ∧ ∀ i, i < xs.length → w.cell? ⟨g, o + i, none⟩ = some (.int .i64 (nth xs i)) := by
  rcases h with ⟨rfl, _⟩ | h
  · simp at h0
  · exact h
theorem Sl.cellAt {w : World} {g o n c : Nat} {xs : List Int} (h : Sl w (.slice (some ⟨g, o, none⟩) n c) g xs) {i : Nat} (hi : i < xs.length) : w.cell? ⟨g, o + i, none⟩ = some (.int .i64 (nth xs i)) := by
  obtain ⟨A', o1, c1, e0, -, q1, q2⟩ := h.form
  injection e0 with e0 _ _
  rw [q1 (by omega)] at e0
  injection e0 with e0
  injection e0 with _ e0 _
  subst e0
  exact q2 i hi
/-- 'l[1:]' of a list of two numbers or more. -/
theorem Sl.tail {w : World} {g o c : Nat} {xs : List Int} (hc : ∀ i, i < xs.length → w.cell? ⟨g, o + i, none⟩ = some (.int .i64 (nth xs i))) (h1 : xs.length ≤ c) (h2 : c ≤ maxLen) : Sl w (.slice (some ⟨g, o + 1, none⟩) (xs.length - 1) (c - 1)) g xs.tail := by
  refine .inr ⟨o + 1, c - 1, by rw [List.length_tail], by rw [List.length_tail]; omega, by omega, fun i hi => ?_⟩
  rw [List.length_tail] at hi
  rw [Nat.add_assoc, Nat.add_comm 1 i, hc (i + 1) (by omega)]
  simp [nth, List.getD]
end Go.Proofs.YtokbhiokcoldbaaDoor
