/- The document's answer for package lsm: tables. -/
import Derived.WalkKit
import Derived.Test.YtokbhiokcoldbaaDoorLqM02
namespace Go.Proofs.YtokbhiokcoldbaaDoor
open Go.RowKit

theorem lq_info : (Tryd.prog.info? 25).map (fun i => (i.zero, i.size, i.bytes)) = some (some (.slice none 0 0), slE.k, 24) := by kernel_rfl
theorem lq_und : Tryd.prog.underlying 22 = some (.slice 25) := by kernel_rfl
theorem own_set {w : World} {B t g c n : Nat} {vs : List SlV} (h : OwnR slE w B t (.slice (some ⟨g, 0, none⟩) n c) vs) (i : Nat) (hi : i < vs.length) (s : SlV) : OwnR slE (w.setCell ⟨g, i, none⟩ s.val) B t (.slice (some ⟨g, 0, none⟩) n c) (vs.set i s) := by
  have h1 := h.setCell rfl i 0 hi (by decide) s s.val rfl
  have e : i * slE.k + 0 = i := by show i * 1 + 0 = i; omega
  rw [e] at h1
  exact h1
theorem rows_set {G : Nat → Prop} {w : World} {vs : List SlV} {xs : List (List Int)} (hl : vs.length = xs.length) (hr : ∀ j (h : j < vs.length), RowH G w vs[j].val (xs.getD j [])) {i : Nat} {s : SlV} {ys : List Int} (hs : RowH G w s.val ys) : ∀ j (h : j < (vs.set i s).length), RowH G w (vs.set i s)[j].val ((xs.set i ys).getD j []) := fun j hj => by
  have hj' : j < vs.length := by simpa using hj
  have hjx : j < xs.length := by omega
  rw [List.getElem_set, List.getD_eq_getElem?_getD, List.getElem?_set]
  by_cases e : i = j
  · subst e
    rw [if_pos rfl, if_pos rfl, if_pos (by omega)]
    exact hs
  · rw [if_neg e, if_neg e]
    have := hr j hj'
    rwa [List.getD_eq_getElem?_getD] at this
/-- The call hands back tables. -/
def LqTbl (G : Nat → Prop) (xs : List (List Int)) (w : World) (e : Ending) (w' : World) : Prop := ∃ v, e = .returned v ∧ TbH G w' v xs ∧ Fr [] w w'
set_option maxRecDepth 100000 in
set_option maxHeartbeats 2000000 in
theorem lq_tables (w : World) (G : Nat → Prop) (v x : Value) (xs : List (List Int)) (ys : List Int) (n : Nat) (h : TbH G w v xs) (hx : RowH G w x ys) (hn : n < xs.length) (hl : xs.length ≤ 1000) (hG : ∀ k, w.heap.size ≤ k → G k) :
    Calls Tryd.prog 79 #[v, .int .i64 n, x] w (LqTbl G (xs.set n ys) w) := by
  obtain ⟨g, c, vs, rfl, hT⟩ := h
  obtain ⟨A', g', o', c', e', -⟩ := hx.form
  subst e'
  have HT := Lib.hid hT
  have HX := Lib.hid hx
  have HG := Lib.hid hG
  have HSL := Lib.hid hT.slR
  have hvl := hT.len
  clear hT hx hG
  go_enter Tryd.func79, Tryd.ntmps79
  go_wp2_with (at_builtin; refine wpList_spread_enc (E := slE) lq_und lq_info rfl (by decide) rfl _ _ rfl w.heap.size _ _ [] vs g rfl OwnR.nil rfl HSL.out (by simp; omega) (Nat.le_refl _) ?_; intro v' w1 h1 _ h3; rw [List.nil_append] at h1; obtain ⟨g1, c1, cur, hv1, hb1, hg1⟩ : ∃ g1 c1 cur, v' = .slice (some ⟨g1, 0, none⟩) xs.length c1 ∧ w.heap.size ≤ g1 ∧ w1.heap[g1]? = some (.cells cur 25 (0, 0)) ∧ xs.length ≤ cur.size := (by rw [← hvl]; rcases h1.2 with ⟨_, hn'⟩ | ⟨g1, cap, cur, e1, hb, hg, hc, hm, hs, -⟩; exact absurd hn' (by omega); exact ⟨g1, cap, cur, e1, hb, hg, by have : cap * 1 = cur.size := hs.symm; omega⟩); subst hv1; obtain ⟨hg1, hcs⟩ := hg1; have HO := Lib.hid h1; have HB1 := Lib.hid h3; have q0 : w1.cell? ⟨g1, n, none⟩ = some (cur.getD n undef) := (by rw [cell_of_row _ g1 n cur _ _ hg1]; simp [show n < cur.size by omega]); have q1 := free_block hg1 n none; have n0 : (0 : Int) ≤ n := (by omega); have n1 : (n : Int) < xs.length := (by omega); have HBI := Lib.hid hb1; clear h1 h3 hb1 hcs hvl)
  go_ret
  have hf : Fr [] w (w1.setCell ⟨g1, n, none⟩ (.slice A' ys.length c')) := (Fr.of_below HB1.out).setCell (.inr HBI.out) _
  refine ⟨_, rfl, ?_, hf⟩
  have hr := rows_set (s := ⟨A', ys.length, c'⟩) (i := n) HT.out.len (fun j hj => (HT.out.row j hj).step hf) (HX.out.step hf)
  show TbH G _ (.slice (some ⟨g1, 0, none⟩) xs.length c1) _
  exact TbH.ofOwn (own_set HO.out n (by rw [HT.out.len]; omega) ⟨A', ys.length, c'⟩) (by rw [List.length_set, List.length_set]; exact HT.out.len) (by simp; omega) HG.out hr
end Go.Proofs.YtokbhiokcoldbaaDoor
/- Tables that rise by their keys (package lsm), in plain Lean. No program in sight. -/
namespace Go.Proofs.YtokbhiokcoldbaaDoor
namespace Ls

/-- An entry: a key, its value (-1: dropped). -/
abbrev E := Int × Int
def Up (l : List E) : Prop := (l.map (·.1)).Pairwise (· < ·)
/-- Where a key stands or would stand. -/
def lb (k : Int) : List E → Nat
  | [] => 0
  | x :: r => if x.1 < k then lb k r + 1 else 0
/-- An entry set in a table. -/
def set (l : List E) (e : E) : List E :=
  match l with
  | [] => [e]
  | x :: r => if x.1 < e.1 then x :: set r e else if x.1 = e.1 then e :: r else e :: x :: r
/-- The entry at a key. -/
def find (k : Int) : List E → Option Int
  | [] => none
  | x :: r => if x.1 = k then some x.2 else find k r
theorem lb_le (k : Int) : ∀ (l : List E), lb k l ≤ l.length
  | [] => Nat.le_refl _
  | x :: r => by
    have := lb_le k r
    unfold lb
    split <;> simp <;> omega
/-- What BinarySearchFunc finds: all ahead is below, the entry there is not. -/
theorem lb_below (k : Int) : ∀ (l : List E) (i : Nat) (h : i < l.length), i < lb k l → l[i].1 < k
  | x :: r, 0, _, h => by
    unfold lb at h
    split at h
    · assumption
    · omega
  | x :: r, i + 1, hi, h => by
    unfold lb at h
    split at h
    · exact lb_below k r i (by simpa using hi) (by omega)
    · omega
theorem lb_above (k : Int) : ∀ (l : List E), Up l → ∀ (i : Nat) (h : i < l.length), lb k l ≤ i → k ≤ l[i].1
  | x :: r, hu, i, hi, h => by
    rw [Up, List.map_cons, List.pairwise_cons] at hu
    unfold lb at h
    split at h
    · cases i with
      | zero => omega
      | succ i => exact lb_above k r hu.2 i (by simpa using hi) (by omega)
    · cases i with
      | zero => simp; omega
      | succ i =>
        have hi' : i < r.length := by simpa using hi
        have := hu.1 r[i].1 (List.mem_map.2 ⟨r[i], List.getElem_mem hi', rfl⟩)
        simp
        omega
theorem set_there (e : E) : ∀ (l : List E) (h : lb e.1 l < l.length), l[lb e.1 l].1 = e.1 → set l e = l.set (lb e.1 l) e
  | [], h, _ => by simp at h
  | x :: r, h, he => by
    unfold set
    by_cases h1 : x.1 < e.1
    · have e1 : lb e.1 (x :: r) = lb e.1 r + 1 := by rw [lb, if_pos h1]
      rw [if_pos h1]
      simp only [e1, List.getElem_cons_succ, List.set_cons_succ] at he ⊢
      rw [set_there e r (by rw [e1] at h; simpa using h) he]
    · have e1 : lb e.1 (x :: r) = 0 := by rw [lb, if_neg h1]
      rw [if_neg h1]
      simp only [e1, List.getElem_cons_zero, List.set_cons_zero] at he ⊢
      rw [if_pos he]
theorem set_new (e : E) : ∀ (l : List E), (∀ h : lb e.1 l < l.length, l[lb e.1 l].1 ≠ e.1) → set l e = l.take (lb e.1 l) ++ e :: l.drop (lb e.1 l)
  | [], _ => rfl
  | x :: r, h => by
    unfold set
    by_cases h1 : x.1 < e.1
    · have e1 : lb e.1 (x :: r) = lb e.1 r + 1 := by rw [lb, if_pos h1]
      rw [if_pos h1, e1, List.take_succ_cons, List.drop_succ_cons, List.cons_append, set_new e r (fun hr => ?_)]
      have := h (by rw [e1]; simpa using hr)
      simpa [e1] using this
    · have e1 : lb e.1 (x :: r) = 0 := by rw [lb, if_neg h1]
      have := h (by rw [e1]; simp)
      rw [if_neg h1, e1, if_neg (by simpa [e1] using this)]
      rfl
theorem mem_set (e : E) (y : E) : ∀ (l : List E), y ∈ set l e → y = e ∨ y ∈ l
  | [], h => by simp [set] at h; exact .inl h
  | x :: r, h => by
    unfold set at h
    split at h
    · rcases List.mem_cons.1 h with h | h
      · exact .inr (by simp [h])
      · exact (mem_set e y r h).imp id (fun h => by simp [h])
    · split at h
      · rcases List.mem_cons.1 h with h | h
        · exact .inl h
        · exact .inr (by simp [h])
      · rcases List.mem_cons.1 h with h | h
        · exact .inl h
        · exact .inr h
theorem up_set (e : E) : ∀ (l : List E), Up l → Up (set l e)
  | [], _ => by simp [set, Up]
  | x :: r, h => by
    have h' := h
    rw [Up, List.map_cons, List.pairwise_cons] at h
    have hx : ∀ y ∈ r, x.1 < y.1 := fun y hy => h.1 y.1 (List.mem_map.2 ⟨y, hy, rfl⟩)
    unfold set
    split
    · rename_i h1
      rw [Up, List.map_cons, List.pairwise_cons]
      refine ⟨fun k hk => ?_, up_set e r h.2⟩
      obtain ⟨y, hy, rfl⟩ := List.mem_map.1 hk
      rcases mem_set e y r hy with rfl | hy
      · exact h1
      · exact hx y hy
    · split
      · rename_i h1 h2
        rw [Up, List.map_cons, List.pairwise_cons]
        exact ⟨fun k hk => by rw [← h2]; exact h.1 k hk, h.2⟩
      · rename_i h1 h2
        rw [Up, List.map_cons, List.pairwise_cons]
        refine ⟨fun k hk => ?_, h'⟩
        obtain ⟨y, hy, rfl⟩ := List.mem_map.1 hk
        rcases List.mem_cons.1 hy with rfl | hy
        · show e.1 < y.1; omega
        · have := hx y hy; show e.1 < y.1; omega
theorem find_set (e : E) (k : Int) : ∀ (l : List E), find k (set l e) = if e.1 = k then some e.2 else find k l
  | [] => by simp [set, find]
  | x :: r => by
    unfold set
    by_cases h1 : x.1 < e.1
    · rw [if_pos h1]
      by_cases hk : x.1 = k
      · rw [find, if_pos hk, if_neg (by omega), find, if_pos hk]
      · rw [find, if_neg hk, find_set e k r]
        simp only [find, if_neg hk]
    · rw [if_neg h1]
      by_cases h2 : x.1 = e.1
      · rw [if_pos h2]
        by_cases hk : e.1 = k
        · rw [find, if_pos hk, if_pos hk]
        · rw [find, if_neg hk, if_neg hk, find, if_neg (by omega)]
      · rw [if_neg h2, find]
theorem set_len (e : E) : ∀ (l : List E), l.length ≤ (set l e).length ∧ (set l e).length ≤ l.length + 1 ∧ 0 < (set l e).length
  | [] => by simp [set]
  | x :: r => by
    have := set_len e r
    unfold set
    split
    · simp; omega
    · split <;> simp
end Ls
end Go.Proofs.YtokbhiokcoldbaaDoor

/- The document's answer for package lsm, in plain Lean: an entry laid into a table. No program in sight. -/
namespace Go.Proofs.YtokbhiokcoldbaaDoor
namespace Ls

def layStep (e : E) (p : List E × Bool) (x : E) : List E × Bool :=
  ((if p.2 = false ∧ e.1 ≤ x.1 then p.1 ++ [e] else p.1) ++ (if x.1 = e.1 then [] else [x]), p.2 || decide (e.1 ≤ x.1))
def layEnd (e : E) (p : List E × Bool) : List E := if p.2 = true then p.1 else p.1 ++ [e]
def lay (e : E) (l : List E) : List E × Bool := l.foldl (layStep e) ([], false)
theorem lay_take {e : E} {l : List E} {i : Nat} (h : i < l.length) : lay e (l.take (i + 1)) = layStep e (lay e (l.take i)) l[i] := by
  unfold lay
  rw [List.take_add_one, List.getElem?_eq_getElem h, List.foldl_append]
  rfl
theorem lay_done (e : E) : ∀ (l acc : List E), (∀ x ∈ l, e.1 < x.1) → l.foldl (layStep e) (acc, true) = (acc ++ l, true)
  | [], acc, _ => by simp
  | x :: r, acc, h => by
    have hx := h x (by simp)
    rw [List.foldl_cons]
    have : layStep e (acc, true) x = (acc ++ [x], true) := by
      unfold layStep
      rw [if_neg (by simp), if_neg (by omega)]
      simp
    rw [this, lay_done e r _ (fun y hy => h y (by simp [hy]))]
    simp
theorem lay_fold (e : E) : ∀ (l acc : List E), Up l → layEnd e (l.foldl (layStep e) (acc, false)) = acc ++ set l e
  | [], acc, _ => by simp [layEnd, set]
  | x :: r, acc, h => by
    have h1 : ∀ y ∈ r, x.1 < y.1 := fun y hy => (List.pairwise_cons.1 h).1 _ (List.mem_map.2 ⟨y, hy, rfl⟩)
    have h2 : Up r := (List.pairwise_cons.1 h).2
    rw [List.foldl_cons]
    unfold set
    by_cases ha : x.1 < e.1
    · have : layStep e (acc, false) x = (acc ++ [x], false) := by
        unfold layStep
        rw [if_neg (by simp; omega), if_neg (by omega)]
        simp; omega
      rw [this, lay_fold e r _ h2, if_pos ha]
      simp
    · rw [if_neg ha]
      by_cases hb : x.1 = e.1
      · have : layStep e (acc, false) x = (acc ++ [e], true) := by
          unfold layStep
          rw [if_pos ⟨rfl, by omega⟩, if_pos hb]
          simp; omega
        rw [this, lay_done e r _ (fun y hy => by have := h1 y hy; omega), if_pos hb]
        simp [layEnd]
      · have : layStep e (acc, false) x = (acc ++ [e, x], true) := by
          unfold layStep
          rw [if_pos ⟨rfl, by omega⟩, if_neg hb]
          simp; omega
        rw [this, lay_done e r _ (fun y hy => by have := h1 y hy; omega), if_neg hb]
        simp [layEnd]
theorem lay_set {e : E} {l : List E} (h : Up l) : layEnd e (lay e l) = set l e := (lay_fold e l [] h).trans (List.nil_append _)
theorem lay_len (e : E) : ∀ (l : List E) (p : List E × Bool), (l.foldl (layStep e) p).1.length ≤ p.1.length + 2 * l.length
  | [], p => by simp
  | x :: r, p => by
    rw [List.foldl_cons]
    have h1 := lay_len e r (layStep e p x)
    have h2 : (layStep e p x).1.length ≤ p.1.length + 2 := by
      unfold layStep
      rw [List.length_append]
      split <;> split <;> simp
    simp only [List.length_cons]
    omega
abbrev kys (l : List E) : List Int := l.map (·.1)
abbrev vls (l : List E) : List Int := l.map (·.2)
theorem kys_app (a b : List E) : kys (a ++ b) = kys a ++ kys b := List.map_append
theorem vls_app (a b : List E) : vls (a ++ b) = vls a ++ vls b := List.map_append
end Ls
end Go.Proofs.YtokbhiokcoldbaaDoor
